/- The pure machine, part 11: a region that draws its order comes to what the text's order comes to. -/
import Derived.Test.YtmbknidfkddpfaaPmTen
set_option linter.unusedVariables false
set_option linter.unusedSimpArgs false
namespace Go.Proofs.Ytmbknidfkddpfaa.PM
open Go.RowKit (Below)

def KW.drew (K : KW) : KW := ⟨{ K.w with drawn := K.w.drawn + 1 }, K.Z, K.Y, K.μ⟩
theorem KW.drew_le (K : KW) : K.Le K.drew := ⟨rfl, rfl, rfl, Nat.le_refl _, fun _ _ => rfl, fun _ h => h, fun _ h => h, fun _ _ _ h => h, MapsKeep.of_same fun _ _ _ _ => rfl⟩
theorem HRel.drew {K : KW} {H : Hp} (hH : HRel K H) : HRel K.drew H ∧ Ext K H K.drew H := by
  refine ⟨⟨fun b B hb => ?_, hH.inj, hH.fresh, hH.lt⟩, K.drew_le, fun _ _ _ => rfl, fun _ h => .inl h, fun _ h => .inl h, fun _ h => h⟩
  rcases hH.blk b B hb with h | ⟨m, g, es, cl, hx, hp, hg0, hm, hh, hz, hy, hmp⟩ | ⟨g, cur, hp, hm, hh, hz, hy, hl, hr, h1⟩
  · exact .inl h
  · exact .inr <| .inl ⟨m, g, es, cl, hx, hp, hg0, hm, hh, hz, hy, hmp.mono K.drew_le⟩
  · exact .inr <| .inr ⟨g, cur, hp, hm, hh, hz, hy, hl, hr.mono K.drew_le, h1⟩

theorem getD_repl (n j : Nat) : (Array.replicate n false).getD j false = false := by
  rw [Array.getD_eq_getD_getElem?, Array.getElem?_replicate]
  split <;> rfl
theorem count_set : ∀ (l : List Bool) (i : Nat), l[i]? = some false → (l.set i true).count false + 1 = l.count false
  | [], i, h => by simp at h
  | x :: l, 0, h => by simp at h; subst h; simp
  | x :: l, i + 1, h => by
    simp at h
    have := count_set l i h
    cases x <;> simp <;> omega

theorem ropsOk_get {P : Program} {N : Nat} {ops : Array Oper} : ∀ {os : List Oper} {rs : List ROp}, ropsOk P N ops os rs = true → os.length = rs.length ∧ ∀ (k : Nat) (o : Oper) (r : ROp), os[k]? = some o → rs[k]? = some r → ropOk P N ops o r = true
  | [], [], _ => ⟨rfl, by simp⟩
  | [], _ :: _, h => by simp [ropsOk] at h
  | _ :: _, [], h => by simp [ropsOk] at h
  | o :: os, r :: rs, h => by
    simp only [ropsOk, Bool.and_eq_true] at h
    obtain ⟨h1, h2⟩ := ropsOk_get h.2
    refine ⟨by simp [h1], fun k o' r' ho hr => ?_⟩
    cases k with
    | zero => simp at ho hr; subst ho; subst hr; exact h.1
    | succ k => simp at ho hr; exact h2 k o' r' ho hr

section
variable {P : Program} {cp : Nat → List PV → Option PV} {co : Nat → List PV → Hp → Option (PV × Hp)} {fz : Hp → List PV → Option (List PV)} {meth : Nat → String → Option Nat}

theorem draw_ok (hcp : ∀ f args r, cp f args = some r → PureOk P f args r) (hco : ∀ f args H r H', co f args H = some (r, H') → OpenOk P f args H r H') (hfz : FzOk fz) (hm : MethOk P meth) (hmix : P.follows .mixedOrders = true)
    {ro : Option Nat} {N id : Nat} {ops : Array Oper} {Q : Exit → Act → World → Prop} {rs : List ROp} {chk : List (Nat × Nat)} {K : KW} {H : Hp} {env : Env} {a : Act} {env' : Env} {H' : Hp}
    (hok : ropsOk P N ops ops.toList rs = true) (hdraw : drawOk ops rs chk = true) (hH : HRel K H) (hE : ERel K N env a) (he : runReg cp co fz meth rs chk env H = some (env', H'))
    (hQ : ∀ K' a', Ext K H K' H' → HRel K' H' → ERel K' N env' a' → a'.defers = a.defers → Q .normal a' K'.w) : (Code.region id ops true).wpIn (fc ro) 0 P Q a K.w := by
  obtain ⟨hlen, hget⟩ := ropsOk_get hok
  rw [Array.length_toList] at hlen
  have hrun : runSeq cp co fz meth rs env H = some (env', H') ∧ ∀ c ∈ chk, ckOne cp co fz meth rs env H c = true := by
    unfold runReg at he
    split at he
    · exact ⟨he, by simp⟩
    · split at he
      · rename_i hc
        exact ⟨he, fun c hc' => List.all_eq_true.1 hc c hc'⟩
      · cases he
  obtain ⟨hrun, hck⟩ := hrun
  obtain ⟨E, Hs, V, Bs, R⟩ := Run.of hrun
  simp only [drawOk, Bool.and_eq_true, beq_iff_eq] at hdraw
  obtain ⟨⟨_, hedge⟩, hpair⟩ := hdraw
  have hedge' : ∀ k o, ops[k]? = some o → ∀ e ∈ o.after.toList, Region.binds .any e = true → e.on < k := by
    intro k o ho e hee hb
    have hmem : (o, k) ∈ ops.toList.zipIdx := by
      rw [List.mem_zipIdx_iff_getElem?]
      simpa using ho
    have h1 := List.all_eq_true.1 hedge (o, k) hmem
    have h2 := List.all_eq_true.1 h1 e hee
    simpa [hb] using h2
  have hpair' : ∀ k p rk rp, rs[k]? = some rk → rs[p]? = some rp → slotOk (Region.before ops) rk k p rp = true ∧ effOk (Region.before ops) chk rk k p rp = true := by
    intro k p rk rp hk hp
    have m1 : (rk, k) ∈ rs.zipIdx := by rw [List.mem_zipIdx_iff_getElem?]; exact hk
    have m2 : (rp, p) ∈ rs.zipIdx := by rw [List.mem_zipIdx_iff_getElem?]; exact hp
    have h1 := List.all_eq_true.1 hpair (rk, k) m1
    have h2 := List.all_eq_true.1 h1 (rp, p) m2
    simpa using h2
  refine wpIn_region_any hmix ?_
  obtain ⟨hH0, hX0⟩ := hH.drew
  -- the induction: what is listed has been carried out
  suffices main : ∀ (fuel : Nat) (listed : Array Bool) (p : Nat) (K1 : KW) (a1 : Act), listed.size = ops.size → listed.toList.count false = fuel → p ≤ rs.length → Ext K H K1 (Hs p) → HRel K1 (Hs p) → a1.tmps.size = N → a1.defers = a.defers →
      (∀ j r, rs[j]? = some r → isE r.op = true → (listed.getD j false = true ↔ j < p)) →
      (∀ t x, IsVal rs env V (fun j => listed.getD j false = true) t x → Rep K1 x (a1.tmps.getD t Go.undef)) →
      (∀ k o, listed.getD k false = true → ops[k]? = some o → ∀ e ∈ o.after.toList, Region.binds .any e = true → listed.getD e.on false = true) → wpAnyIn (fc ro) 0 P .any ops Q fuel listed a1 K1.w by
    refine main ops.size (Array.replicate ops.size false) 0 K.drew a (by simp) (by simp) (Nat.zero_le _) (by rw [R.h0]; exact hX0) (by rw [R.h0]; exact hH0) hE.size rfl ?_ ?_ ?_
    · intro j r hj hr
      rw [getD_repl]
      simp
    · intro t x hx
      have hfalse : ∀ j, (Array.replicate ops.size false).getD j false = true → False := by
        intro j h
        rw [getD_repl] at h
        cases h
      rcases hx with ⟨q, r, hq, _⟩ | ⟨_, rfl⟩
      · exact (hfalse q hq).elim
      · exact (hE.slot t).mono K.drew_le
    · intro k o hk
      rw [getD_repl] at hk
      cases hk
  -- all have been listed: the end
  have fin : ∀ (listed : Array Bool) (p : Nat) (K1 : KW) (a1 : Act), p ≤ rs.length → (∀ j, j < ops.size → listed.getD j false = true) → Ext K H K1 (Hs p) → HRel K1 (Hs p) → a1.tmps.size = N → a1.defers = a.defers →
      (∀ j r, rs[j]? = some r → isE r.op = true → (listed.getD j false = true ↔ j < p)) →
      (∀ t x, IsVal rs env V (fun j => listed.getD j false = true) t x → Rep K1 x (a1.tmps.getD t Go.undef)) → Q .normal a1 K1.w := by
    intro listed p K1 a1 hp hall hX hHK hs hdf hEE hsl
    have hHp : Hs p = H' := by
      rw [← R.hn]
      exact R.same hp (Nat.le_refl _) fun j r hj hr => by
        have hj' : j < rs.length := (List.getElem?_eq_some_iff.1 hj).1
        rw [← hEE j r hj hr]
        exact ⟨fun _ => hj', fun _ => hall j (by omega)⟩
    rw [hHp] at hX hHK
    refine hQ K1 a1 hX hHK ⟨hs, fun t => hsl t _ ?_⟩ hdf
    rw [← R.en]
    rcases R.isVal t rs.length (Nat.le_refl _) with ⟨q, r, hq, hr, hd, hx, hlast⟩ | ⟨hno, hx⟩
    · exact .inl ⟨q, r, hall q (by omega), hr, hd, hx, fun q' r' h1 h2 h3 => hlast q' r' h1 ((List.getElem?_eq_some_iff.1 h3).1) h3⟩
    · exact .inr ⟨fun q' r' h2 h3 => hno q' r' ((List.getElem?_eq_some_iff.1 h3).1) h3, hx⟩
  have memReady : ∀ (listed : Array Bool) (i : Nat), i ∈ Region.ready .any ops listed ↔ ∃ o, ops[i]? = some o ∧ listed.getD i true = false ∧ ∀ e ∈ o.after.toList, Region.binds .any e = true → listed.getD e.on false = true := by
    intro listed i
    unfold Region.ready
    rw [List.mem_filter, List.mem_range]
    constructor
    · rintro ⟨hi, h⟩
      simp only [Bool.and_eq_true, Bool.not_eq_true'] at h
      have ho : ops[i]? = some ops[i] := Array.getElem?_eq_getElem hi
      rw [ho] at h
      refine ⟨ops[i], ho, h.1, fun e hee hb => ?_⟩
      have h2 : (ops[i].after.all fun e => !Region.binds .any e || listed.getD e.on false) = true := by simpa using h.2
      rw [← Array.all_toList] at h2
      have := List.all_eq_true.1 h2 e hee
      simpa [hb] using this
    · rintro ⟨o, ho, h1, h2⟩
      refine ⟨(Array.getElem?_eq_some_iff.1 ho).1, ?_⟩
      rw [ho, h1]
      simp only [Bool.not_false, Option.map_some, Option.getD_some, Bool.true_and]
      rw [← Array.all_toList, List.all_eq_true]
      intro e hee
      cases hb : Region.binds .any e with
      | false => rfl
      | true => simpa using h2 e hee hb
  have allOf : ∀ (listed : Array Bool), listed.size = ops.size → Region.ready .any ops listed = [] → ∀ j, j < ops.size → listed.getD j false = true := by
    intro listed hls hr j
    induction j using Nat.strongRecOn with
    | _ j ih =>
      intro hj
      cases hq : listed.getD j false with
      | true => rfl
      | false =>
        exfalso
        have ho : ops[j]? = some ops[j] := Array.getElem?_eq_getElem hj
        have : j ∈ Region.ready .any ops listed := (memReady listed j).2 ⟨_, ho, by
          rw [Array.getD_eq_getD_getElem?, Array.getElem?_eq_getElem (by omega)] at hq ⊢
          simpa using hq, fun e hee hb => by
            have h1 := hedge' j _ ho e hee hb
            exact ih e.on h1 (by omega)⟩
        rw [hr] at this
        cases this
  intro fuel
  induction fuel with
  | zero =>
    intro listed p K1 a1 hls hc hp hX hHK hs hdf hEE hsl hcl
    have hall : ∀ j, j < ops.size → listed.getD j false = true := by
      intro j hj
      have hnm := List.count_eq_zero.1 hc
      rw [Array.getD_eq_getD_getElem?, Array.getElem?_eq_getElem (by omega)]
      simp only [Option.getD_some]
      cases hq : listed[j]'(by omega) with
      | true => rfl
      | false => exact absurd (by rw [← hq]; exact Array.getElem_mem_toList _) hnm
    refine ⟨?_, fin listed p K1 a1 hp hall hX hHK hs hdf hEE hsl⟩
    cases hr : Region.ready .any ops listed with
    | nil => rfl
    | cons i l =>
      obtain ⟨o, ho, h1, _⟩ := (memReady listed i).1 (by rw [hr]; simp)
      have hi := (Array.getElem?_eq_some_iff.1 ho).1
      have := hall i hi
      rw [Array.getD_eq_getD_getElem?, Array.getElem?_eq_getElem (by omega)] at this h1
      simp at this h1
      rw [this] at h1
      cases h1
  | succ fuel ih =>
    intro listed p K1 a1 hls hc hp hX hHK hs hdf hEE hsl hcl
    refine ⟨fun hr => fin listed p K1 a1 hp (allOf listed hls hr) hX hHK hs hdf hEE hsl, fun k hk => ?_⟩
    obtain ⟨o, ho, hk1, hke⟩ := (memReady listed k).1 hk
    have hkn : k < ops.size := (Array.getElem?_eq_some_iff.1 ho).1
    have hkL : listed.getD k false = false := by
      rw [Array.getD_eq_getD_getElem?, Array.getElem?_eq_getElem (by omega)] at hk1 ⊢
      simpa using hk1
    obtain ⟨r, hr⟩ : ∃ r, rs[k]? = some r := ⟨rs[k]'(by omega), List.getElem?_eq_getElem _⟩
    have hrop := hget k o r (by simpa using ho) hr
    simp only [ropOk, Bool.and_eq_true, beq_iff_eq] at hrop
    obtain ⟨⟨⟨hop, hdst⟩, hdN⟩, hgok⟩ := hrop
    have hdN' : ∀ x, r.dst = some x → x < N := by
      intro x hx
      rw [hx] at hdN
      simpa using hdN
    -- what is before k has been listed, what k is before has not
    have clo : ∀ {q j : Nat}, Bef ops q j → listed.getD j false = true → listed.getD q false = true := fun h hj => Bef.closed (S := fun j => listed.getD j false = true) hcl h hj
    have befk : ∀ {q : Nat}, Bef ops q k → listed.getD q false = true := by
      intro q h
      have : ∀ q, Bef ops q k → (∃ e ∈ o.after.toList, Region.binds .any e = true ∧ (e.on = q ∨ Bef ops q e.on)) := by
        intro q h
        generalize hkk : k = k' at h
        induction h with
        | edge ho' he' hb hp' =>
          subst hkk
          rw [ho] at ho'
          simp at ho'
          subst ho'
          exact ⟨_, he', hb, .inl hp'⟩
        | trans h1 h2 _ ih2 =>
          obtain ⟨e, he', hb, h3⟩ := ih2 hkk
          refine ⟨e, he', hb, ?_⟩
          rcases h3 with h3 | h3
          · right; rw [h3]; exact h1
          · exact .inr (h1.trans h3)
      obtain ⟨e, he', hb, h3⟩ := this q h
      have h4 := hke e he' hb
      rcases h3 with h3 | h3
      · rw [← h3]; exact h4
      · exact clo h3 h4
    have notL : ∀ {j : Nat}, Bef ops k j → ¬ listed.getD j false = true := by
      intro j h hj
      have := clo h hj
      rw [hkL] at this
      cases this
    have ltB : ∀ {p k : Nat}, lt (Region.before ops) p k = true → Bef ops p k := fun h => before_ok ops _ _ h
    -- the slots that k looks at
    have hslots : ∀ t, (t ∈ usesR r ∨ r.dst = some t) → ∀ q rq, rs[q]? = some rq → rq.dst = some t → q ≠ k → (q < k → listed.getD q false = true) ∧ (k < q → ¬ listed.getD q false = true) := by
      intro t ht q rq hq hdq hne
      have h1 := (hpair' k q r rq hr hq).1
      simp only [slotOk, Bool.or_eq_true, beq_iff_eq, hne, false_or, hdq] at h1
      have hcond : ((usesR r).contains t || r.dst == some t) = true := by
        rcases ht with h | h
        · simp [h]
        · simp [h]
      rw [if_pos (by simpa using hcond)] at h1
      constructor
      · intro hlt
        rw [if_pos hlt] at h1
        exact befk (ltB h1)
      · intro hlt
        rw [if_neg (by omega)] at h1
        exact notL (ltB h1)
    have huse : ∀ t, t ∈ usesR r → Rep K1 (get (E k) t) (a1.tmps.getD t Go.undef) := by
      intro t ht
      refine hsl t _ ?_
      rcases R.isVal t k (by omega) with ⟨q, rq, hq, hrq, hd, hx, hlast⟩ | ⟨hno, hx⟩
      · refine .inl ⟨q, rq, (hslots t (.inl ht) q rq hrq hd (by omega)).1 hq, hrq, hd, hx, fun q' r' h1 h2 h3 hd' => ?_⟩
        have hk' : q' ≠ k := by
          intro e; subst e
          simp only at h2
          rw [hkL] at h2; cases h2
        rcases Nat.lt_or_ge q' k with h4 | h4
        · exact hlast q' r' h1 h4 h3 hd'
        · exact (hslots t (.inl ht) q' r' h3 hd' hk').2 (by omega) h2
      · refine .inr ⟨fun q' r' h2 h3 hd' => ?_, hx⟩
        have hk' : q' ≠ k := by
          intro e; subst e
          simp only at h2
          rw [hkL] at h2; cases h2
        rcases Nat.lt_or_ge q' k with h4 | h4
        · exact hno q' r' h4 h3 hd'
        · exact (hslots t (.inl ht) q' r' h3 hd' hk').2 (by omega) h2
    have hEK : ERel K1 N (normE (usesR r) (E k)) a1 := ⟨hs, fun t => by
      rw [get_normE]
      split
      · rename_i ht; exact huse t ht
      · trivial⟩
    have hgd : PM.gd (normE (usesR r) (E k)) r.guard = some (Bs k) := by
      rw [← R.gd k r hr]
      unfold PM.gd
      cases hg : r.guard with
      | none => rfl
      | some q =>
        obtain ⟨g, w⟩ := q
        have hmem : g ∈ usesR r := by simp [usesR, hg]
        simp only [get_normE, if_pos hmem]
    have hwant := wanted_ok hgok hEK hgd
    -- what the operation tells
    have hcong : ∀ Hq, evOp cp co fz meth (normE (usesR r) (E k)) Hq r.op = evOp cp co fz meth (E k) Hq r.op := fun Hq => evOp_congr Hq fun t ht => by
      rw [get_normE, if_pos (by simp [usesR, ht])]
    -- the small heap behind it, and its place
    have hnext : ∃ p', p' ≤ rs.length ∧ (Bs k = true → evOp cp co fz meth (E k) (Hs p) r.op = some (V k, Hs p')) ∧ (Bs k = false → Hs p' = Hs p) ∧
        (∀ j rj, rs[j]? = some rj → isE rj.op = true → ((listed.setIfInBounds k true).getD j false = true ↔ j < p')) := by
      have hset : ∀ j, (listed.setIfInBounds k true).getD j false = true ↔ (j = k ∨ listed.getD j false = true) := by
        intro j
        rw [Array.getD_eq_getD_getElem?, Array.getElem?_setIfInBounds]
        by_cases e : k = j
        · subst e
          simp [show k < listed.size by omega]
        · rw [if_neg e, ← Array.getD_eq_getD_getElem?]
          constructor
          · exact .inr
          · rintro (h | h)
            · exact absurd h.symm e
            · exact h
      cases hie : isE r.op with
      | true =>
        have hother : ∀ j rj, rs[j]? = some rj → isE rj.op = true → j ≠ k → (j < k → listed.getD j false = true) ∧ (k < j → ¬ listed.getD j false = true) := by
          intro j rj hj hej hne
          have h1 := (hpair' k j r rj hr hj).2
          simp only [effOk, hie, if_true, hej, Bool.not_true, Bool.false_or, Bool.or_eq_true, beq_iff_eq, hne, false_or] at h1
          constructor
          · intro hlt
            rw [if_pos hlt] at h1
            exact befk (ltB h1)
          · intro hlt
            rw [if_neg (by omega)] at h1
            exact notL (ltB h1)
        have hHk : Hs p = Hs k := R.same hp (by omega) fun j rj hj hej => by
          rw [← hEE j rj hj hej]
          by_cases e : j = k
          · subst e; rw [hkL]; simp
          · obtain ⟨h1, h2⟩ := hother j rj hj hej e
            constructor
            · intro h
              rcases Nat.lt_trichotomy j k with h3 | h3 | h3
              · exact h3
              · exact absurd h3 e
              · exact absurd h (h2 h3)
            · exact h1
        refine ⟨k + 1, by omega, fun hb => by rw [hHk]; exact R.yes k r hr hb, fun hb => by rw [hHk]; exact (R.no k r hr hb).2, fun j rj hj hej => ?_⟩
        rw [hset]
        by_cases e : j = k
        · subst e; simp
        · obtain ⟨h1, h2⟩ := hother j rj hj hej e
          constructor
          · rintro (h | h)
            · exact absurd h e
            · rcases Nat.lt_trichotomy j k with h3 | h3 | h3
              · omega
              · exact absurd h3 e
              · exact absurd h (h2 h3)
          · intro h
            exact .inr (h1 (by omega))
      | false =>
        refine ⟨p, hp, fun hb => ?_, fun _ => rfl, fun j rj hj hej => ?_⟩
        · obtain ⟨hHH, hv⟩ := evOp_nE (R.yes k r hr hb) hie
          refine evOp_of_R ?_ hie
          by_cases hN : isN r.op = true
          · rw [evR_N (H' := Hs k) hN]; exact hv
          · -- it looks at the small heap: it has been asked at the places that matter
            have hinc : ∀ j rj, rs[j]? = some rj → isE rj.op = true → (lt (Region.before ops) j k = true ∨ lt (Region.before ops) k j = true) ∨ ((k, j) ∈ chk ∧ (k, j + 1) ∈ chk) := by
              intro j rj hj hej
              have h1 := (hpair' k j r rj hr hj).2
              simp only [effOk, hie, Bool.false_eq_true, if_false, Bool.or_eq_true, hej, Bool.not_true, false_or, or_false, Bool.and_eq_true, List.contains_iff_mem] at h1
              rcases h1 with ((h1 | h1) | h1) | h1
              · exact absurd h1 hN
              · exact .inl (.inl h1)
              · exact .inl (.inr h1)
              · exact .inr h1
            have hat : ∀ q, q ≤ rs.length → (k, q) ∈ chk → evR cp fz meth (E k) (Hs q) r.op = some (V k) := by
              intro q hq hmem
              have h1 := hck (k, q) hmem
              have h2 := R.gd k r hr
              simp only [ckOne, R.pre k (by omega), R.pre q hq, hr, h2, hb, optEq, hv] at h1
              cases h3 : evR cp fz meth (E k) (Hs q) r.op with
              | none => rw [h3] at h1; cases h1
              | some u =>
                rw [h3] at h1
                rw [PV.beq_eq _ _ h1]
            by_cases hA : ∀ j rj, rs[j]? = some rj → isE rj.op = true → (j < p ↔ j < k)
            · rw [R.same hp (by omega) hA]; exact hv
            · -- the first E that has not been, or the last that has
              have hB : ∃ j rj, rs[j]? = some rj ∧ isE rj.op = true ∧ ((j < p ∧ k < j) ∨ (p ≤ j ∧ j < k)) := by
                apply Classical.byContradiction
                intro hno
                apply hA
                intro j rj hj hej
                have hjk : j ≠ k := by
                  intro e; subst e
                  rw [hr] at hj
                  simp at hj
                  subst hj
                  rw [hie] at hej
                  cases hej
                constructor
                · intro h
                  apply Classical.byContradiction
                  intro h2
                  exact hno ⟨j, rj, hj, hej, .inl ⟨h, by omega⟩⟩
                · intro h
                  apply Classical.byContradiction
                  intro h2
                  exact hno ⟨j, rj, hj, hej, .inr ⟨by omega, h⟩⟩
              obtain ⟨j, rj, hj, hej, hcase⟩ := hB
              rcases hcase with ⟨h1, h2⟩ | ⟨h1, h2⟩
              · -- take the last E below p
                have hex : ∃ j', j' < p ∧ k < j' ∧ (∃ rj', rs[j']? = some rj' ∧ isE rj'.op = true) ∧ ∀ q rq, j' < q → q < p → rs[q]? = some rq → isE rq.op = false := by
                  have : ∀ d j, p - j = d → j < p → k < j → (∃ rj', rs[j]? = some rj' ∧ isE rj'.op = true) → ∃ j', j' < p ∧ k < j' ∧ (∃ rj', rs[j']? = some rj' ∧ isE rj'.op = true) ∧ ∀ q rq, j' < q → q < p → rs[q]? = some rq → isE rq.op = false := by
                    intro d
                    induction d using Nat.strongRecOn with
                    | _ d ihd =>
                      intro j hd hjp hkj hje
                      by_cases hnone : ∀ q rq, j < q → q < p → rs[q]? = some rq → isE rq.op = false
                      · exact ⟨j, hjp, hkj, hje, hnone⟩
                      · apply Classical.byContradiction
                        intro hno
                        apply hnone
                        intro q rq h3 h4 h5
                        cases h6 : isE rq.op with
                        | false => rfl
                        | true => exact absurd (ihd (p - q) (by omega) q rfl h4 (by omega) ⟨rq, h5, h6⟩) hno
                  exact this (p - j) j rfl h1 h2 ⟨rj, hj, hej⟩
                obtain ⟨j', hj'p, hkj', ⟨rj', hrj', hej'⟩, hlast⟩ := hex
                have hLj : listed.getD j' false = true := (hEE j' rj' hrj' hej').2 hj'p
                have hmem : (k, j' + 1) ∈ chk := by
                  rcases hinc j' rj' hrj' hej' with (h | h) | h
                  · have := hedge' -- an operation is never ahead of one before it in the text
                    exact absurd (befk (ltB h)) (by
                      intro _
                      have hlt : j' < k := by
                        have bl : ∀ {q m : Nat}, Bef ops q m → q < m := by
                          intro q m hb
                          induction hb with
                          | edge ho' he' hb' hp' => rw [← hp']; exact hedge' _ _ ho' _ he' hb'
                          | trans _ _ i1 i2 => omega
                        exact bl (ltB h)
                      omega)
                  · exact absurd hLj (notL (ltB h))
                  · exact h.2
                have hsame : Hs p = Hs (j' + 1) := R.same hp (by have := (List.getElem?_eq_some_iff.1 hrj').1; omega) fun q rq hq heq => by
                  constructor
                  · intro h
                    rcases Nat.lt_or_ge j' q with h3 | h3
                    · have := hlast q rq h3 h hq
                      rw [this] at heq; cases heq
                    · omega
                  · intro h; omega
                rw [hsame]
                exact hat (j' + 1) (by have := (List.getElem?_eq_some_iff.1 hrj').1; omega) hmem
              · -- take the first E from p on
                have hex : ∃ j', p ≤ j' ∧ j' < k ∧ (∃ rj', rs[j']? = some rj' ∧ isE rj'.op = true) ∧ ∀ q rq, p ≤ q → q < j' → rs[q]? = some rq → isE rq.op = false := by
                  have : ∀ d j, j = d → p ≤ j → j < k → (∃ rj', rs[j]? = some rj' ∧ isE rj'.op = true) → ∃ j', p ≤ j' ∧ j' < k ∧ (∃ rj', rs[j']? = some rj' ∧ isE rj'.op = true) ∧ ∀ q rq, p ≤ q → q < j' → rs[q]? = some rq → isE rq.op = false := by
                    intro d
                    induction d using Nat.strongRecOn with
                    | _ d ihd =>
                      intro j hd hjp hkj hje
                      by_cases hnone : ∀ q rq, p ≤ q → q < j → rs[q]? = some rq → isE rq.op = false
                      · exact ⟨j, hjp, hkj, hje, hnone⟩
                      · apply Classical.byContradiction
                        intro hno
                        apply hnone
                        intro q rq h3 h4 h5
                        cases h6 : isE rq.op with
                        | false => rfl
                        | true => exact absurd (ihd q (by omega) q rfl h3 (by omega) ⟨rq, h5, h6⟩) hno
                  exact this j j rfl h1 h2 ⟨rj, hj, hej⟩
                obtain ⟨j', hpj', hj'k, ⟨rj', hrj', hej'⟩, hfirst⟩ := hex
                have hLj : ¬ listed.getD j' false = true := fun h => by
                  have := (hEE j' rj' hrj' hej').1 h
                  omega
                have hmem : (k, j') ∈ chk := by
                  rcases hinc j' rj' hrj' hej' with (h | h) | h
                  · exact absurd (befk (ltB h)) hLj
                  · exfalso
                    have bl : ∀ {q m : Nat}, Bef ops q m → q < m := by
                      intro q m hb
                      induction hb with
                      | edge ho' he' hb' hp' => rw [← hp']; exact hedge' _ _ ho' _ he' hb'
                      | trans _ _ i1 i2 => omega
                    have := bl (ltB h)
                    omega
                  · exact h.1
                have hsame : Hs p = Hs j' := R.same hp (by omega) fun q rq hq heq => by
                  constructor
                  · intro h; omega
                  · intro h
                    rcases Nat.lt_or_ge q p with h3 | h3
                    · exact h3
                    · have := hfirst q rq h3 h hq
                      rw [this] at heq; cases heq
                rw [hsame]
                exact hat j' (by omega) hmem
        · rw [hset]
          have hjk : j ≠ k := by
            intro e; subst e
            rw [hr] at hj
            simp at hj
            subst hj
            rw [hie] at hej
            cases hej
          rw [← hEE j rj hj hej]
          constructor
          · rintro (h | h)
            · exact absurd h hjk
            · exact h
          · exact .inr
    obtain ⟨p', hp', hyes, hno, hEE'⟩ := hnext
    -- the next round's premises
    have hls' : (listed.setIfInBounds k true).size = ops.size := by simp [hls]
    have hc' : (listed.setIfInBounds k true).toList.count false = fuel := by
      have h1 : listed.toList[k]? = some false := by
        rw [Array.getD_eq_getD_getElem?, Array.getElem?_eq_getElem (by omega)] at hk1
        simp at hk1
        simp [Array.getElem?_eq_getElem (show k < listed.size by omega), hk1]
      have := count_set listed.toList k h1
      rw [Array.toList_setIfInBounds]
      omega
    have hset : ∀ j, (listed.setIfInBounds k true).getD j false = true ↔ (j = k ∨ listed.getD j false = true) := by
      intro j
      rw [Array.getD_eq_getD_getElem?, Array.getElem?_setIfInBounds]
      by_cases e : k = j
      · subst e
        simp [show k < listed.size by omega]
      · rw [if_neg e, ← Array.getD_eq_getD_getElem?]
        constructor
        · exact .inr
        · rintro (h | h)
          · exact absurd h.symm e
          · exact h
    have hcl' : ∀ j o', (listed.setIfInBounds k true).getD j false = true → ops[j]? = some o' → ∀ e ∈ o'.after.toList, Region.binds .any e = true → (listed.setIfInBounds k true).getD e.on false = true := by
      intro j o' hj ho' e hee hb
      rw [hset]
      rcases (hset j).1 hj with rfl | hj
      · rw [ho] at ho'
        simp at ho'
        subst ho'
        exact .inr (hke e hee hb)
      · exact .inr (hcl j o' hj ho' e hee hb)
    have hslot' : ∀ (K2 : KW) (rv : Value), K1.Le K2 → Rep K2 (V k) rv → ∀ t x, IsVal rs env V (fun j => (listed.setIfInBounds k true).getD j false = true) t x → Rep K2 x ((a1.put r.dst rv).tmps.getD t Go.undef) := by
      intro K2 rv hle hrv t x hx
      by_cases hdt : r.dst = some t
      · have hxk : x = V k := by
          rcases hx with ⟨q, rq, hq, hrq, hd, rfl, hlast⟩ | ⟨hnone, _⟩
          · by_cases e : q = k
            · rw [e]
            · exfalso
              rcases (hset q).1 hq with h | h
              · exact e h
              · obtain ⟨h1, h2⟩ := hslots t (.inr hdt) q rq hrq hd e
                rcases Nat.lt_or_ge q k with h3 | h3
                · exact hlast k r h3 ((hset k).2 (.inl rfl)) hr hdt
                · exact h2 (by omega) h
          · exact absurd hdt (hnone k r ((hset k).2 (.inl rfl)) hr)
        rw [hxk, hdt]
        have := hdN' t hdt
        simp [Act.put, Array.getElem?_setIfInBounds, hs, this]
        exact hrv
      · have hx' : IsVal rs env V (fun j => listed.getD j false = true) t x := by
          rcases hx with ⟨q, rq, hq, hrq, hd, rfl, hlast⟩ | ⟨hnone, rfl⟩
          · have e : q ≠ k := by
              intro e; subst e
              rw [hr] at hrq
              simp at hrq
              subst hrq
              exact hdt hd
            exact .inl ⟨q, rq, ((hset q).1 hq).resolve_left e, hrq, hd, rfl, fun q' r' h1 h2 h3 => hlast q' r' h1 ((hset q').2 (.inr h2)) h3⟩
          · exact .inr ⟨fun q' r' h2 h3 => hnone q' r' ((hset q').2 (.inr h2)) h3, rfl⟩
        have h1 := (hsl t x hx').mono hle
        cases hd : r.dst with
        | none => exact h1
        | some d =>
          have hne : d ≠ t := fun e => hdt (by rw [hd, e])
          simp only [Act.put]
          rw [Array.getD_eq_getD_getElem?, Array.getElem?_setIfInBounds_ne hne, ← Array.getD_eq_getD_getElem?]
          exact h1
    have hputs : ∀ rv, (a1.put r.dst rv).tmps.size = N ∧ (a1.put r.dst rv).defers = a.defers := by
      intro rv
      cases r.dst <;> simp [Act.put, hs, hdf]
    unfold wpOpIn
    simp only [ho]
    rw [hwant]
    cases hb : Bs k with
    | false =>
      simp only [Bool.false_eq_true, if_false]
      rw [hdst]
      refine ⟨fun _ _ => trivial, ?_⟩
      have hHp : Hs p' = Hs p := hno hb
      refine ih _ p' K1 _ hls' hc' hp' (by rw [hHp]; exact hX) (by rw [hHp]; exact hHK) (hputs _).1 (hputs _).2 hEE' (hslot' K1 _ (KW.Le.refl _) ?_) hcl'
      rw [(R.no k r hr hb).1]
      exact rep_skip K1
    | true =>
      simp only [if_true]
      refine evOp_ok hcp hco hfz hm hop hEK hHK ((hcong _).trans (hyes hb)) ro _ _ (fun K2 rv hX2 hH2 hrv => ?_)
      rw [hdst]
      exact ih _ p' K2 _ hls' hc' hp' (hX.trans hX2) hH2 (hputs _).1 (hputs _).2 hEE' (hslot' K2 rv hX2.le hrv) hcl'
end
end Go.Proofs.Ytmbknidfkddpfaa.PM
