/- Several texts in one: TrainBUF, TrainBJoin, TrainBSide, TrainBNum. -/
import Derived.Test.YtiaeckidlmoohaaGreatTrainWayA
section
set_option linter.unusedVariables false
set_option linter.unusedSimpArgs false
set_option maxHeartbeats 2000000
set_option maxRecDepth 20000
namespace Go.Proofs.YtiaeckidlmoohaaGreat
open Go.Proofs.YtiaeckidlmoohaaGreat.PM
inductive Cn (E : Nat → Nat → Prop) : Nat → Nat → Prop
  | refl (i : Nat) : Cn E i i
  | step {i j k : Nat} : Cn E i j → (E j k ∨ E k j) → Cn E i k
theorem Cn.trans {E : Nat → Nat → Prop} {i j k : Nat} (h : Cn E i j) (h2 : Cn E j k) : Cn E i k := by
  induction h2 with
  | refl => exact h
  | step _ e ih => exact .step ih e
theorem Cn.one {E : Nat → Nat → Prop} {i j : Nat} (h : E i j ∨ E j i) : Cn E i j := .step (.refl i) h
theorem Cn.symm {E : Nat → Nat → Prop} {i j : Nat} (h : Cn E i j) : Cn E j i := by
  induction h with
  | refl => exact .refl _
  | step _ e ih => exact (Cn.one e.symm).trans ih
theorem Cn.mono {E E' : Nat → Nat → Prop} (he : ∀ a b, E a b → E' a b) {i j : Nat} (h : Cn E i j) : Cn E' i j := by
  induction h with
  | refl => exact .refl _
  | step _ e ih => exact .step ih (e.imp (he _ _) (he _ _))
theorem Cn.congr {E E' : Nat → Nat → Prop} (he : ∀ a b, E a b ↔ E' a b) {i j : Nat} : Cn E i j ↔ Cn E' i j := ⟨Cn.mono fun a b => (he a b).1, Cn.mono fun a b => (he a b).2⟩
inductive Rt (par : List Int) : Nat → Nat → Prop
  | root {i : Nat} : par[i]? = some (i : Int) → Rt par i i
  | step {i j r : Nat} : par[i]? = some (j : Int) → j ≠ i → Rt par j r → Rt par i r
structure Wf (n : Nat) (par : List Int) : Prop where
  len : par.length = n
  le : ∀ i, i < n → ∃ j : Nat, par[i]? = some (j : Int) ∧ j ≤ i
theorem Rt.is_root {par : List Int} {i r : Nat} (h : Rt par i r) : par[r]? = some (r : Int) := by
  induction h with
  | root h => exact h
  | step _ _ _ ih => exact ih
theorem Rt.uniq {par : List Int} {i r s : Nat} (h : Rt par i r) (h2 : Rt par i s) : r = s := by
  induction h with
  | root h =>
    cases h2 with
    | root => rfl
    | step h3 h4 _ => rw [h, Option.some.injEq] at h3; omega
  | step h h' _ ih =>
    cases h2 with
    | root h3 => rw [h, Option.some.injEq] at h3; omega
    | step h3 h4 h5 =>
      rw [h, Option.some.injEq] at h3
      obtain rfl := Int.ofNat.inj h3
      exact ih h5
theorem Wf.rt {n : Nat} {par : List Int} (w : Wf n par) : ∀ i, i < n → ∃ r, Rt par i r ∧ r ≤ i := by
  intro i
  induction i using Nat.strongRecOn with
  | _ i ih =>
    intro hi
    obtain ⟨j, hj, hle⟩ := w.le i hi
    by_cases e : j = i
    · subst e; exact ⟨j, .root hj, Nat.le_refl _⟩
    · obtain ⟨r, hr, hrl⟩ := ih j (by omega) (by omega)
      exact ⟨r, .step hj e hr, by omega⟩
theorem Wf.rt_le {n : Nat} {par : List Int} (w : Wf n par) {i r : Nat} (hi : i < n) (h : Rt par i r) : r ≤ i := by
  obtain ⟨s, hs, hl⟩ := w.rt i hi
  rw [h.uniq hs]; exact hl
theorem rt_set {n : Nat} {par : List Int} (w : Wf n par) {i r : Nat} (hi : i < n) (h : Rt par i r) : Wf n (par.set i (r : Int)) ∧ ∀ k s, k < n → (Rt (par.set i (r : Int)) k s ↔ Rt par k s) := by
  have hr := h.is_root
  have hrl := w.rt_le hi h
  have hil : i < par.length := by rw [w.len]; exact hi
  have gs : ∀ k, (par.set i (r : Int))[k]? = if i = k then some (r : Int) else par[k]? := by
    intro k
    rw [List.getElem?_set]
    split
    · rename_i e; subst e; simp [hil]
    · rfl
  have wf : Wf n (par.set i (r : Int)) := by
    refine ⟨by simp [w.len], fun k hk => ?_⟩
    rw [gs]
    split
    · rename_i e; subst e; exact ⟨r, rfl, hrl⟩
    · exact w.le k hk
  have rr : (par.set i (r : Int))[r]? = some (r : Int) := by
    rw [gs]; split
    · rfl
    · exact hr
  have fwd : ∀ k s, Rt par k s → Rt (par.set i (r : Int)) k s := by
    intro k s hks
    induction hks with
    | @root k hk =>
      refine .root ?_
      rw [gs]
      split
      · rename_i e
        subst e
        rw [h.uniq (.root hk)]
      · exact hk
    | @step k j s hk hne hjs ih =>
      by_cases e : i = k
      · subst e
        have : s = r := (Rt.step hk hne hjs).uniq h
        subst this
        by_cases e2 : s = i
        · subst e2; exact .root rr
        · exact .step (j := s) (by rw [gs, if_pos rfl]) e2 (.root rr)
      · exact .step (by rw [gs, if_neg e]; exact hk) hne ih
  refine ⟨wf, fun k s hk => ⟨fun hks => ?_, fwd k s⟩⟩
  obtain ⟨s', hs', _⟩ := w.rt k hk
  rw [hks.uniq (fwd k s' hs')]; exact hs'
theorem rt_join {n : Nat} {par : List Int} (w : Wf n par) {a b : Nat} (ha : par[a]? = some (a : Int)) (hb : par[b]? = some (b : Int)) (hab : b ≤ a) : Wf n (par.set a (b : Int)) ∧ ∀ k s, k < n → (Rt (par.set a (b : Int)) k s ↔ ∃ s0, Rt par k s0 ∧ s = if s0 = a then b else s0) := by
  have hal : a < par.length := (List.getElem?_eq_some_iff.1 ha).1
  have gs : ∀ k, (par.set a (b : Int))[k]? = if a = k then some (b : Int) else par[k]? := by
    intro k
    rw [List.getElem?_set]
    split
    · rename_i e; subst e; simp [hal]
    · rfl
  have wf : Wf n (par.set a (b : Int)) := by
    refine ⟨by simp [w.len], fun k hk => ?_⟩
    rw [gs]
    split
    · rename_i e; subst e; exact ⟨b, rfl, hab⟩
    · exact w.le k hk
  have rb : (par.set a (b : Int))[b]? = some (b : Int) := by
    rw [gs]; split
    · rfl
    · exact hb
  have fwd : ∀ k s, Rt par k s → Rt (par.set a (b : Int)) k (if s = a then b else s) := by
    intro k s hks
    induction hks with
    | @root k hk =>
      split
      · rename_i e
        subst e
        by_cases e2 : b = k
        · subst e2; exact .root rb
        · exact .step (j := b) (by rw [gs, if_pos rfl]) e2 (.root rb)
      · rename_i e
        exact .root (by rw [gs, if_neg (fun q => e q.symm)]; exact hk)
    | @step k j s hk hne hjs ih =>
      by_cases e : a = k
      · subst e
        rw [ha, Option.some.injEq] at hk
        exact absurd (Int.ofNat.inj hk).symm hne
      · exact .step (by rw [gs, if_neg e]; exact hk) hne ih
  refine ⟨wf, fun k s hk => ⟨fun hks => ?_, ?_⟩⟩
  · obtain ⟨s', hs', _⟩ := w.rt k hk
    exact ⟨s', hs', hks.uniq (fwd k s' hs')⟩
  · rintro ⟨s0, h0, rfl⟩
    exact fwd k s0 h0
structure Inv (n : Nat) (par : List Int) (E : Nat → Nat → Prop) : Prop where
  wf : Wf n par
  iff : ∀ k l, k < n → l < n → ((∃ s, Rt par k s ∧ Rt par l s) ↔ Cn E k l)
  rng : ∀ a b, E a b → a < n ∧ b < n
theorem Inv.same {n : Nat} {par par' : List Int} {E : Nat → Nat → Prop} (h : Inv n par E) (w : Wf n par') (hr : ∀ k s, k < n → (Rt par' k s ↔ Rt par k s)) : Inv n par' E :=
  ⟨w, fun k l hk hl => by
    rw [← h.iff k l hk hl]
    exact ⟨fun ⟨s, a, b⟩ => ⟨s, (hr k s hk).1 a, (hr l s hl).1 b⟩, fun ⟨s, a, b⟩ => ⟨s, (hr k s hk).2 a, (hr l s hl).2 b⟩⟩, h.rng⟩
theorem Inv.congr {n : Nat} {par : List Int} {E E' : Nat → Nat → Prop} (h : Inv n par E) (he : ∀ a b, E a b ↔ E' a b) : Inv n par E' :=
  ⟨h.wf, fun k l hk hl => (h.iff k l hk hl).trans (Cn.congr he), fun a b hab => h.rng a b ((he a b).2 hab)⟩
theorem Inv.joined {n : Nat} {par par' : List Int} {E : Nat → Nat → Prop} (h : Inv n par E) {i j a b : Nat} (hi : i < n) (hj : j < n) (hab : (Rt par i a ∧ Rt par j b) ∨ (Rt par i b ∧ Rt par j a)) (w : Wf n par')
    (hr : ∀ k s, k < n → (Rt par' k s ↔ ∃ s0, Rt par k s0 ∧ s = if s0 = a then b else s0)) : Inv n par' (fun x y => E x y ∨ (x = i ∧ y = j)) := by
  refine ⟨w, fun k l hk hl => ⟨?_, ?_⟩, fun x y hxy => by
    rcases hxy with hxy | ⟨rfl, rfl⟩
    · exact h.rng x y hxy
    · exact ⟨hi, hj⟩⟩
  · rintro ⟨s, h1, h2⟩
    obtain ⟨s1, r1, e1⟩ := (hr k s hk).1 h1
    obtain ⟨s2, r2, e2⟩ := (hr l s hl).1 h2
    have up : ∀ {x y}, Cn E x y → Cn (fun x y => E x y ∨ (x = i ∧ y = j)) x y := fun h => h.mono fun _ _ => .inl
    have ij : Cn (fun x y => E x y ∨ (x = i ∧ y = j)) i j := .one (.inl (.inr ⟨rfl, rfl⟩))
    have to : ∀ {x s}, x < n → Rt par x s → s = a ∨ s = b → Cn (fun x y => E x y ∨ (x = i ∧ y = j)) x i := by
      intro x s hx hs hsab
      rcases hab with ⟨ra, rb⟩ | ⟨rb, ra⟩
      · rcases hsab with rfl | rfl
        · exact up ((h.iff x i hx hi).1 ⟨_, hs, ra⟩)
        · exact (up ((h.iff x j hx hj).1 ⟨_, hs, rb⟩)).trans ij.symm
      · rcases hsab with rfl | rfl
        · exact (up ((h.iff x j hx hj).1 ⟨_, hs, ra⟩)).trans ij.symm
        · exact up ((h.iff x i hx hi).1 ⟨_, hs, rb⟩)
    by_cases c1 : s1 = a ∨ s1 = b
    · have c2 : s2 = a ∨ s2 = b := by
        by_cases q1 : s1 = a <;> by_cases q2 : s2 = a <;> simp [q1, q2] at e1 e2 c1 ⊢ <;> omega
      exact (to hk r1 c1).trans (to hl r2 c2).symm
    · have : s1 = s2 := by
        by_cases q2 : s2 = a
        · simp only [q2, if_true] at e2
          rw [if_neg (fun q => c1 (.inl q))] at e1
          exact absurd (.inr (e1.symm.trans e2)) c1
        · rw [if_neg (fun q => c1 (.inl q))] at e1
          rw [if_neg q2] at e2
          exact e1.symm.trans e2
      subst this
      exact up ((h.iff k l hk hl).1 ⟨_, r1, r2⟩)
  · intro hc
    have key : ∀ x y, Cn (fun x y => E x y ∨ (x = i ∧ y = j)) x y → ∀ s0, x < n → Rt par x s0 → y < n → ∃ s1, Rt par y s1 ∧ (if s0 = a then b else s0) = if s1 = a then b else s1 := by
      intro x y hxy s0 hx hs0
      induction hxy with
      | refl => exact fun _ => ⟨s0, hs0, rfl⟩
      | @step j' k' _ e ih =>
        intro hk'
        have hrel : ∀ u v, u < n → v < n → E u v → ∀ s, Rt par u s → Rt par v s := by
          intro u v hu hv huv s hs
          obtain ⟨t, t1, t2⟩ := (h.iff u v hu hv).2 (.one (.inl huv))
          rw [hs.uniq t1]; exact t2
        have hrel' : ∀ u v, u < n → v < n → E u v → ∀ s, Rt par v s → Rt par u s := by
          intro u v hu hv huv s hs
          obtain ⟨t, t1, t2⟩ := (h.iff u v hu hv).2 (.one (.inl huv))
          rw [hs.uniq t2]; exact t1
        have rng2 : j' < n := by
          rcases e with (e | ⟨rfl, rfl⟩) | (e | ⟨rfl, rfl⟩)
          · exact (h.rng _ _ e).1
          · exact hi
          · exact (h.rng _ _ e).2
          · exact hj
        obtain ⟨s1, r1, e1⟩ := ih rng2
        rcases e with (e | ⟨rfl, rfl⟩) | (e | ⟨rfl, rfl⟩)
        · exact ⟨s1, hrel _ _ rng2 hk' e _ r1, e1⟩
        · rcases hab with ⟨ra, rb⟩ | ⟨rb, ra⟩
          · exact ⟨b, rb, by rw [e1, r1.uniq ra]; simp⟩
          · exact ⟨a, ra, by rw [e1, r1.uniq rb]; simp⟩
        · exact ⟨s1, hrel' _ _ hk' rng2 e _ r1, e1⟩
        · rcases hab with ⟨ra, rb⟩ | ⟨rb, ra⟩
          · exact ⟨a, ra, by rw [e1, r1.uniq rb]; simp⟩
          · exact ⟨b, rb, by rw [e1, r1.uniq ra]; simp⟩
    obtain ⟨s0, r0, _⟩ := h.wf.rt k hk
    obtain ⟨s1, r1, e⟩ := key k l hc s0 hk r0 hl
    exact ⟨_, (hr k _ hk).2 ⟨s0, r0, rfl⟩, (hr l _ hl).2 ⟨s1, r1, e⟩⟩
theorem root_ok {n : Nat} (hn : n ≤ 100000) : ∀ (i : Nat) (par : List Int) (H : Hp) (b gen : Nat), i < n → Wf n par → H[b]? = some (bk 3 gen par) →
    ∃ par' r, RO tc 184 [mls Int b gen n, .int .i64 i] H = some (.int .i64 (r : Nat), H.set b (bk 3 gen par')) ∧ Wf n par' ∧ Rt par i r ∧ r ≤ i ∧ ∀ k s, k < n → (Rt par' k s ↔ Rt par k s) := by
  intro i
  induction i using Nat.strongRecOn with
  | _ i ih =>
    intro par H b gen hi w hb
    obtain ⟨j, hj, hle⟩ := w.le i hi
    have hl := w.len
    have hil : i < par.length := by omega
    have hji : par[i] = (j : Int) := by rw [List.getElem?_eq_getElem hil, Option.some.injEq] at hj; exact hj
    have hbl : b < H.length := (List.getElem?_eq_some_iff.1 hb).1
    have hbb : H[b] = bk 3 gen par := (List.getElem?_eq_some_iff.1 hb).2
    by_cases e : j = i
    · subst e
      refine ⟨par, j, ?_, w, .root hj, Nat.le_refl _, fun _ _ _ => Iff.rfl⟩
      have hset : H.set b (bk 3 gen par) = H := by rw [← hbb]; exact List.set_getElem_self hbl
      rw [hset]
      refine RO_of_G (F := pf184) (tc_natO _ _ rfl) rfl rfl ?_
      simp (disch := first | omega | with_unfolding_all rfl) [pf184, env0_eq, hbb, hl, hji]
    · obtain ⟨par1, r, h1, w1, h2, h3, h4⟩ := ih j (by omega) par H b gen (by omega) w hb
      have hr1 : Rt par1 i r := (h4 i r hi).2 (.step hj e h2)
      obtain ⟨w2, h5⟩ := rt_set w1 hi hr1
      refine ⟨par1.set i (r : Int), r, ?_, w2, .step hj e h2, by omega, fun k s hk => (h5 k s hk).trans (h4 k s hk)⟩
      have hij : ¬ (j : Int) = (i : Int) := by omega
      have hl1 := w1.len
      have hl2 : (par1.set i (r : Int)).length = n := w2.len
      have hb1 : (H.set b (bk 3 gen par1))[b]? = some (bk 3 gen par1) := by simp [hbl]
      refine RO_of_G (F := pf184) (tc_natO _ _ rfl) rfl rfl ?_
      simp (disch := first | omega | with_unfolding_all rfl) [pf184, env0_eq, hbb, hl, hl1, hji, hij, h1]
theorem join_ok {n : Nat} (hn : n ≤ 100000) {i j : Nat} {par : List Int} {H : Hp} {b gen : Nat} {E : Nat → Nat → Prop} (hi : i < n) (hj : j < n) (I : Inv n par E) (hb : H[b]? = some (bk 3 gen par)) :
    ∃ par', RO tc 203 [mls Int b gen n, .int .i64 i, .int .i64 j] H = some (.tup [], H.set b (bk 3 gen par')) ∧ Inv n par' (fun x y => E x y ∨ (x = i ∧ y = j)) := by
  obtain ⟨par1, r1, h1, w1, a1, a2, a3⟩ := root_ok hn i par H b gen hi I.wf hb
  have hbl : b < H.length := (List.getElem?_eq_some_iff.1 hb).1
  have hb1 : (H.set b (bk 3 gen par1))[b]? = some (bk 3 gen par1) := by simp [hbl]
  obtain ⟨par2, r2, h2, w2, b1, b2, b3⟩ := root_ok hn j par1 _ b gen hj w1 hb1
  have hsame : ∀ k s, k < n → (Rt par2 k s ↔ Rt par k s) := fun k s hk => (b3 k s hk).trans (a3 k s hk)
  have I2 := I.same w2 hsame
  have R1 : Rt par2 i r1 := (hsame i r1 hi).2 a1
  have R2 : Rt par2 j r2 := (b3 j r2 hj).2 b1
  have hl2 := w2.len
  rw [List.set_set] at h2
  have hmm : (max (r1 : Int) (r2 : Int)) = ((max r1 r2 : Nat) : Int) ∧ (min (r1 : Int) (r2 : Int)) = ((min r1 r2 : Nat) : Int) := by omega
  by_cases hle : r1 ≤ r2
  · obtain ⟨w3, c1⟩ := rt_join w2 R2.is_root R1.is_root hle
    refine ⟨par2.set r2 (r1 : Int), ?_, I2.joined hi hj (.inr ⟨R1, R2⟩) w3 c1⟩
    have e1 : (if r1 < r2 then (r2 : Int) else r1) = r2 := by split <;> omega
    have e2 : (if r2 < r1 then (r2 : Int) else r1) = r1 := by split <;> omega
    refine RO_of_G (F := pf203) (tc_natO _ _ rfl) rfl rfl ?_
    simp (disch := first | omega | with_unfolding_all rfl) [pf203, env0_eq, h1, h2, hl2, evMin, evMax, e1, e2]
  · obtain ⟨w3, c1⟩ := rt_join w2 R1.is_root R2.is_root (by omega)
    refine ⟨par2.set r1 (r2 : Int), ?_, I2.joined hi hj (.inl ⟨R1, R2⟩) w3 c1⟩
    have e1 : (if r1 < r2 then (r2 : Int) else r1) = r1 := by split <;> omega
    have e2 : (if r2 < r1 then (r2 : Int) else r1) = r2 := by split <;> omega
    refine RO_of_G (F := pf203) (tc_natO _ _ rfl) rfl rfl ?_
    simp (disch := first | omega | with_unfolding_all rfl) [pf203, env0_eq, h1, h2, hl2, evMin, evMax, e1, e2]
end Go.Proofs.YtiaeckidlmoohaaGreat
end
section
set_option linter.unusedVariables false
set_option linter.unusedSimpArgs false
set_option maxHeartbeats 4000000
set_option maxRecDepth 20000
namespace Go.Proofs.YtiaeckidlmoohaaGreat
open Go.Proofs.YtiaeckidlmoohaaGreat.PM
theorem RO_ex {T : Table} {f : Nat} {args : List PV} {H : Hp} {F : PFn} {Rq : PV → Hp → Prop} (hn : T.natO f args H = none) (hF : findF T.fns f = some F) (hl : args.length = F.np)
    (hg : G T [.code F.body] .normal (env0 args) H (fun x e h => ends x = true ∧ ∃ v, retV e h F.res = some v ∧ Rq v h)) : ∃ v h', RO T f args H = some (v, h') ∧ Rq v h' := by
  rw [G_code] at hg
  obtain ⟨q, hq, hg⟩ := hg
  rw [G_nil] at hg
  obtain ⟨h1, v, h2, h3⟩ := hg
  refine ⟨v, q.2.2, RO_of_G hn hF hl ?_, h3⟩
  rw [G_code]
  exact ⟨q, hq, by rw [G_nil]; exact ⟨h1, h2, rfl⟩⟩
theorem R_exB {T : Table} {f : Nat} {args : List PV} {F : PFn} {Rq : PV → Prop} (hn : T.nat f args = none) (hF : findF T.fns f = some F) (hl : args.length = F.np)
    (hg : G T [.code F.body] .normal (env0 args) [] (fun x e h => ends x = true ∧ ∃ v, (retV e h F.res).bind (frz h .any 64) = some v ∧ v.cleanB = true ∧ Rq v)) : ∃ v, R T f args = some v ∧ Rq v := by
  rw [G_code] at hg
  obtain ⟨q, hq, hg⟩ := hg
  rw [G_nil] at hg
  obtain ⟨h1, v, h2, h3, h4⟩ := hg
  refine ⟨v, R_of_G hn hF hl ?_, h4⟩
  rw [G_code]
  exact ⟨q, hq, by rw [G_nil]; exact ⟨h1, h2⟩⟩
def prt (p q : Int) : Bool := decide (2 ≤ p) && (decide (2 ≤ q) && (decide (p - q = 2) || decide (q - p = 2)))
theorem part_ok {p q : Int} (hp : 0 ≤ p ∧ p < 6) (hq : 0 ≤ q ∧ q < 6) : R tc 202 [.int .i64 p, .int .i64 q] = some (.bool (prt p q)) := by
  refine R_of_G (F := pf202) (tc_nat _ rfl) rfl rfl ?_
  simp (disch := first | omega | with_unfolding_all rfl) [pf202, env0_eq]
  by_cases a1 : 2 ≤ p
  case neg => simp (disch := first | omega | with_unfolding_all rfl) [a1, prt]
  by_cases a2 : 2 ≤ q
  case neg => simp (disch := first | omega | with_unfolding_all rfl) [a1, a2, prt]
  by_cases a3 : p - q = 2
  · simp (disch := first | omega | with_unfolding_all rfl) [a1, a2, a3, prt]
  · simp (disch := first | omega | with_unfolding_all rfl) [a1, a2, a3, prt]
theorem number_ok {t p : Int} (ht : 0 ≤ t ∧ t ≤ 100000) (hp : 0 ≤ p ∧ p < 6) : R tc 204 [.int .i64 t, .int .i64 p] = some (.int .i64 (8 * t + p)) := by
  refine R_of_G (F := pf204) (tc_nat _ rfl) rfl rfl ?_
  simp (disch := first | omega | with_unfolding_all rfl) [pf204, env0_eq]
def sgn (ls : List Sg) (t p o : Int) : Bool := isAt ⟨t, p, o, 0⟩ ls
theorem stand_ok {nl : Nl} {ls : List Sg} (hl : ls.length ≤ 10000) (hs : ls.Pairwise ltS) (t p o : Int) : R tc 205 [lst nl ls, .int .i64 t, .int .i64 p, .int .i64 o] = some (.bool (sgn ls t p o)) := by
  have h := at_ok (nl := nl) (l := ⟨t, p, o, 0⟩) hl hs
  simp only [vS] at h
  refine R_of_G (F := pf205) (tc_nat _ rfl) rfl rfl ?_
  simp (disch := first | omega | with_unfolding_all rfl) [pf205, env0_eq, h, sgn]
def TE (r : Rl) (t P Q : Nat) (x y : Nat) : Prop := ∃ p q : Nat, (p < P ∨ (p = P ∧ q < Q)) ∧ q < p ∧ p < 6 ∧ lie r t p = true ∧ lie r t q = true ∧ prt p q = false ∧ x = 8 * t + p ∧ y = 8 * t + q
theorem joinTile_ok {r : Rl} (g : Good r) {n t : Nat} (hn : (n : Int) = 8 * (r.w * r.h)) (ht : (t : Int) < r.w * r.h) {par : List Int} {H : Hp} {b gen : Nat} {E : Nat → Nat → Prop} (I : Inv n par E) (hb : H[b]? = some (bk 3 gen par)) :
    ∃ par', RO tc 182 [vR r, mls Int b gen n, .int .i64 t] H = some (.tup [], H.set b (bk 3 gen par')) ∧ Inv n par' (fun x y => E x y ∨ TE r t 6 0 x y) := by
  have hm := g.mul
  have hn1 : n ≤ 100000 := by omega
  have hbl : b < H.length := (List.getElem?_eq_some_iff.1 hb).1
  have hbb : H[b] = bk 3 gen par := (List.getElem?_eq_some_iff.1 hb).2
  have hset : H.set b (bk 3 gen par) = H := by rw [← hbb]; exact List.set_getElem_self hbl
  obtain ⟨v, h', h1, hv, par', rfl, h2⟩ := RO_ex (T := tc) (f := 182) (F := pf182) (H := H) (args := [vR r, mls Int b gen n, .int .i64 t]) (Rq := fun v h' => v = .tup [] ∧ ∃ par', h' = H.set b (bk 3 gen par') ∧ Inv n par' (fun x y => E x y ∨ TE r t 6 0 x y)) (tc_natO _ _ rfl) rfl rfl (by
    simp (disch := first | omega | with_unfolding_all rfl) [pf182, env0_eq]
    refine G_loopK [1, 2, 3] (fun (P : Nat) e h => P ≤ 6 ∧ get e 8 = .int .i64 (P : Int) ∧ ∃ par', h = H.set b (bk 3 gen par') ∧ Inv n par' (fun x y => E x y ∨ TE r t P 0 x y)) (fun P => 6 - P) (a₀ := 0) ?_ ?_
    · refine ⟨by omega, by simp, par, hset.symm, I.congr fun x y => ⟨.inl, fun q => q.resolve_right ?_⟩⟩
      rintro ⟨p, q, h, _⟩
      omega
    rintro P e h hk ⟨hP, g8, par1, rfl, I1⟩
    simp at hk
    simp (disch := first | omega | with_unfolding_all rfl) [hk, g8]
    refine G_brd (fun h1 => ?_) (fun h1 => ?_)
    · have hP5 : P < 6 := by omega
      simp (disch := first | omega | with_unfolding_all rfl) [hk, g8, h1]
      refine G_loopK [1, 2, 3, 6, 8, 11] (fun (Q : Nat) e h => Q ≤ P ∧ get e 12 = .int .i64 (Q : Int) ∧ ∃ par', h = H.set b (bk 3 gen par') ∧ Inv n par' (fun x y => E x y ∨ TE r t P Q x y)) (fun Q => P - Q) (a₀ := 0) ?_ ?_
      · exact ⟨by omega, by simp, par1, rfl, I1⟩
      rintro Q e h hk ⟨hQ, g12, par2, rfl, I2⟩
      simp at hk
      simp (disch := first | omega | with_unfolding_all rfl) [hk, g12]
      have nxt : ∀ par3, Inv n par3 (fun x y => (E x y ∨ TE r t P Q x y) ∨ ((lie r t P = true ∧ lie r t Q = true ∧ prt P Q = false) ∧ x = 8 * t + P ∧ y = 8 * t + Q)) → Q < P → Inv n par3 (fun x y => E x y ∨ TE r t P (Q + 1) x y) := by
        intro par3 I3 hlt
        refine I3.congr fun x y => ⟨?_, ?_⟩
        · rintro ((q | ⟨p, q, a1, a2⟩) | ⟨⟨a1, a2, a3⟩, rfl, rfl⟩)
          · exact .inl q
          · exact .inr ⟨p, q, by omega, a2⟩
          · exact .inr ⟨P, Q, by omega, hlt, hP5, a1, a2, a3, rfl, rfl⟩
        · rintro (q | ⟨p, q, a1, a2, a3, a4, a5, a6, a7, a8⟩)
          · exact .inl (.inl q)
          · by_cases e : p = P ∧ q = Q
            · obtain ⟨rfl, rfl⟩ := e
              exact .inr ⟨⟨a4, a5, a6⟩, a7, a8⟩
            · exact .inl (.inr ⟨p, q, by omega, a2, a3, a4, a5, a6, a7, a8⟩)
      refine G_brd (fun h2 => ?_) (fun h2 => ?_)
      · have hQP : Q < P := by omega
        have l1 := lies_ok g (t : Int) (P : Int)
        have l2 := lies_ok g (t : Int) (Q : Int)
        have l3 := part_ok (p := (P : Int)) (q := (Q : Int)) (by omega) (by omega)
        have no : ¬ (lie r t P = true ∧ lie r t Q = true ∧ prt P Q = false) → Inv n par2 (fun x y => E x y ∨ TE r t P (Q + 1) x y) := fun hno => nxt par2 (I2.congr fun x y => ⟨.inl, fun q => q.resolve_right fun q => hno q.1⟩) hQP
        simp (disch := first | omega | with_unfolding_all rfl) [hk, g12, h2, l1]
        cases c1 : lie r t P
        · simp (disch := first | omega | with_unfolding_all rfl) [hk, g12, c1]
          exact ⟨Q + 1, by omega, by omega, by omega, par2, rfl, no (by simp [c1])⟩
        simp (disch := first | omega | with_unfolding_all rfl) [hk, g12, c1, l2]
        cases c2 : lie r t Q
        · simp (disch := first | omega | with_unfolding_all rfl) [hk, g12, c2]
          exact ⟨Q + 1, by omega, by omega, by omega, par2, rfl, no (by simp [c2])⟩
        simp (disch := first | omega | with_unfolding_all rfl) [hk, g12, c2, l3]
        cases c3 : prt P Q
        · simp (disch := first | omega | with_unfolding_all rfl) [hk, g12, c3]
          have hlP : 8 * t + P < n := by omega
          have hlQ : 8 * t + Q < n := by omega
          obtain ⟨par3, j1, I3⟩ := join_ok hn1 hlP hlQ (b := b) (gen := gen) (H := H.set b (bk 3 gen par2)) I2 (by simp [hbl])
          rw [List.set_set] at j1
          have n1 := number_ok (t := (t : Int)) (p := (P : Int)) (by omega) (by omega)
          have n2 := number_ok (t := (t : Int)) (p := (Q : Int)) (by omega) (by omega)
          push_cast at j1
          simp (disch := first | omega | with_unfolding_all rfl) [hk, g12, n1, n2, j1]
          exact ⟨Q + 1, by omega, by omega, by omega, par3, rfl, nxt par3 (I3.congr fun x y => ⟨fun q => q.imp id fun q => ⟨⟨c1, c2, c3⟩, q⟩, fun q => q.imp id fun q => q.2⟩) hQP⟩
        · simp (disch := first | omega | with_unfolding_all rfl) [hk, g12, c3]
          exact ⟨Q + 1, by omega, by omega, by omega, par2, rfl, no (by simp [c3])⟩
      · have hQP : Q = P := by omega
        subst hQP
        simp (disch := first | omega | with_unfolding_all rfl) [hk, g12, h2]
        refine ⟨Q + 1, by omega, by omega, by omega, par2, rfl, I2.congr fun x y => ⟨?_, ?_⟩⟩
        · rintro (q | ⟨p, q, a1, a2⟩)
          · exact .inl q
          · exact .inr ⟨p, q, by omega, a2⟩
        · rintro (q | ⟨p, q, a1, a2⟩)
          · exact .inl q
          · exact .inr ⟨p, q, by omega, a2⟩
    · have : P = 6 := by omega
      subst this
      simp (disch := first | omega | with_unfolding_all rfl) [hk, g8, h1]
      exact ⟨par1, rfl, I1⟩)
  subst hv
  exact ⟨par', h1, h2⟩
end Go.Proofs.YtiaeckidlmoohaaGreat
end
section
set_option linter.unusedVariables false
set_option linter.unusedSimpArgs false
set_option maxHeartbeats 4000000
set_option maxRecDepth 20000
namespace Go.Proofs.YtiaeckidlmoohaaGreat
open Go.Proofs.YtiaeckidlmoohaaGreat.PM
def SE (r : Rl) (ls : List Sg) (t : Nat) (s : Int) (u : Nat) (P Q : Nat) (x y : Nat) : Prop := ∃ p q : Nat, (p < P ∨ (p = P ∧ q < Q)) ∧ p < 6 ∧ q < 6 ∧ lie r t p = true ∧ has p s = true ∧ sgn ls t p s = false ∧ lie r u q = true ∧ has q (s + 2) = true ∧ sgn ls u q (s + 2) = false ∧ x = 8 * t + p ∧ y = 8 * u + q
theorem joinSide_ok {r : Rl} (g : Good r) {nl : Nl} {ls : List Sg} (hl : ls.length ≤ 10000) (hs : ls.Pairwise ltS) {n t u : Nat} {s : Int} (hs01 : s = 0 ∨ s = 1) (hn : (n : Int) = 8 * (r.w * r.h)) (ht : (t : Int) < r.w * r.h) (hu : (u : Int) < r.w * r.h)
    {par : List Int} {H : Hp} {b gen : Nat} {E : Nat → Nat → Prop} (I : Inv n par E) (hb : H[b]? = some (bk 3 gen par)) :
    ∃ par', RO tc 183 [vR r, lst nl ls, mls Int b gen n, .int .i64 t, .int .i64 s, .int .i64 u] H = some (.tup [], H.set b (bk 3 gen par')) ∧ Inv n par' (fun x y => E x y ∨ SE r ls t s u 6 0 x y) := by
  have hm := g.mul
  have hn1 : n ≤ 100000 := by omega
  have hbl : b < H.length := (List.getElem?_eq_some_iff.1 hb).1
  have hbb : H[b] = bk 3 gen par := (List.getElem?_eq_some_iff.1 hb).2
  have hset : H.set b (bk 3 gen par) = H := by rw [← hbb]; exact List.set_getElem_self hbl
  have hmod : (s + 2).tmod 4 = s + 2 := by rcases hs01 with rfl | rfl <;> rfl
  obtain ⟨v, h', h1, hv, par', rfl, h2⟩ := RO_ex (T := tc) (f := 183) (F := pf183) (H := H) (args := [vR r, lst nl ls, mls Int b gen n, .int .i64 t, .int .i64 s, .int .i64 u]) (Rq := fun v h' => v = .tup [] ∧ ∃ par', h' = H.set b (bk 3 gen par') ∧ Inv n par' (fun x y => E x y ∨ SE r ls t s u 6 0 x y)) (tc_natO _ _ rfl) rfl rfl (by
    simp (disch := first | omega | with_unfolding_all rfl) [pf183, env0_eq]
    refine G_loopK [2, 3, 4, 5, 6, 12] (fun (P : Nat) e h => P ≤ 6 ∧ get e 17 = .int .i64 (P : Int) ∧ ∃ par', h = H.set b (bk 3 gen par') ∧ Inv n par' (fun x y => E x y ∨ SE r ls t s u P 0 x y)) (fun P => 6 - P) (a₀ := 0) ?_ ?_
    · refine ⟨by omega, by simp, par, hset.symm, I.congr fun x y => ⟨.inl, fun q => q.resolve_right ?_⟩⟩
      rintro ⟨p, q, h, _⟩
      omega
    rintro P e h hk ⟨hP, g17, par1, rfl, I1⟩
    simp at hk
    simp (disch := first | omega | with_unfolding_all rfl) [hk, g17]
    refine G_brd (fun h1 => ?_) (fun h1 => ?_)
    · have hP5 : P < 6 := by omega
      have l1 := lies_ok g (t : Int) (P : Int)
      have l2 := end_ok (P : Int) s
      have l3 := stand_ok (nl := nl) hl hs (t : Int) (P : Int) s
      have no : ¬ (lie r t P = true ∧ has P s = true ∧ sgn ls t P s = false) → Inv n par1 (fun x y => E x y ∨ SE r ls t s u (P + 1) 0 x y) := fun hno => I1.congr fun x y => ⟨fun q => q.imp id fun ⟨p, q, a1, a2⟩ => ⟨p, q, by omega, a2⟩, fun q => q.imp id fun ⟨p, q, a1, a2, a3, a4, a5, a6, a7⟩ => ⟨p, q, by
        by_cases e : p = P
        · subst e; exact absurd ⟨a4, a5, a6⟩ hno
        · omega, a2, a3, a4, a5, a6, a7⟩⟩
      simp (disch := first | omega | with_unfolding_all rfl) [hk, g17, h1, l1]
      cases c1 : lie r t P
      · simp (disch := first | omega | with_unfolding_all rfl) [hk, g17, c1]
        exact ⟨P + 1, by omega, by omega, by omega, par1, rfl, no (by simp [c1])⟩
      simp (disch := first | omega | with_unfolding_all rfl) [hk, g17, c1, l2]
      cases c2 : has P s
      · simp (disch := first | omega | with_unfolding_all rfl) [hk, g17, c2]
        exact ⟨P + 1, by omega, by omega, by omega, par1, rfl, no (by simp [c2])⟩
      simp (disch := first | omega | with_unfolding_all rfl) [hk, g17, c2, l3]
      cases c3 : sgn ls t P s
      case true =>
        simp (disch := first | omega | with_unfolding_all rfl) [hk, g17, c3]
        exact ⟨P + 1, by omega, by omega, by omega, par1, rfl, no (by simp [c3])⟩
      simp (disch := first | omega | with_unfolding_all rfl) [hk, g17, c3]
      refine G_loopK [2, 3, 4, 5, 6, 12, 13, 17] (fun (Q : Nat) e h => Q ≤ 6 ∧ get e 38 = .int .i64 (Q : Int) ∧ ∃ par', h = H.set b (bk 3 gen par') ∧ Inv n par' (fun x y => E x y ∨ SE r ls t s u P Q x y)) (fun Q => 6 - Q) (a₀ := 0) ?_ ?_
      · exact ⟨by omega, by simp, par1, rfl, I1⟩
      rintro Q e h hk ⟨hQ, g38, par2, rfl, I2⟩
      simp at hk
      simp (disch := first | omega | with_unfolding_all rfl) [hk, g38]
      have nxt : ∀ par3, Inv n par3 (fun x y => (E x y ∨ SE r ls t s u P Q x y) ∨ ((lie r u Q = true ∧ has Q (s + 2) = true ∧ sgn ls u Q (s + 2) = false) ∧ x = 8 * t + P ∧ y = 8 * u + Q)) → Q < 6 → Inv n par3 (fun x y => E x y ∨ SE r ls t s u P (Q + 1) x y) := by
        intro par3 I3 hlt
        refine I3.congr fun x y => ⟨?_, ?_⟩
        · rintro ((q | ⟨p, q, a1, a2⟩) | ⟨⟨a1, a2, a3⟩, rfl, rfl⟩)
          · exact .inl q
          · exact .inr ⟨p, q, by omega, a2⟩
          · exact .inr ⟨P, Q, by omega, hP5, hlt, c1, c2, c3, a1, a2, a3, rfl, rfl⟩
        · rintro (q | ⟨p, q, a1, a2, a3, b1, b2, b3, a4, a5, a6, a7, a8⟩)
          · exact .inl (.inl q)
          · by_cases e : p = P ∧ q = Q
            · obtain ⟨rfl, rfl⟩ := e
              exact .inr ⟨⟨a4, a5, a6⟩, a7, a8⟩
            · exact .inl (.inr ⟨p, q, by omega, a2, a3, b1, b2, b3, a4, a5, a6, a7, a8⟩)
      refine G_brd (fun h2 => ?_) (fun h2 => ?_)
      · have hQP : Q < 6 := by omega
        have m1 := lies_ok g (u : Int) (Q : Int)
        have m2 := end_ok (Q : Int) (s + 2)
        have m3 := stand_ok (nl := nl) hl hs (u : Int) (Q : Int) (s + 2)
        have no2 : ¬ (lie r u Q = true ∧ has Q (s + 2) = true ∧ sgn ls u Q (s + 2) = false) → Inv n par2 (fun x y => E x y ∨ SE r ls t s u P (Q + 1) x y) := fun hno => nxt par2 (I2.congr fun x y => ⟨.inl, fun q => q.resolve_right fun q => hno q.1⟩) hQP
        simp (disch := first | omega | with_unfolding_all rfl) [hk, g38, h2, m1]
        cases d1 : lie r u Q
        · simp (disch := first | omega | with_unfolding_all rfl) [hk, g38, d1]
          exact ⟨Q + 1, by omega, by omega, by omega, par2, rfl, no2 (by simp [d1])⟩
        simp (disch := first | omega | with_unfolding_all rfl) [hk, g38, d1, m2, hmod]
        cases d2 : has Q (s + 2)
        · simp (disch := first | omega | with_unfolding_all rfl) [hk, g38, d2]
          exact ⟨Q + 1, by omega, by omega, by omega, par2, rfl, no2 (by simp [d2])⟩
        simp (disch := first | omega | with_unfolding_all rfl) [hk, g38, d2, m3, hmod]
        cases d3 : sgn ls u Q (s + 2)
        · simp (disch := first | omega | with_unfolding_all rfl) [hk, g38, d3]
          have hlP : 8 * t + P < n := by omega
          have hlQ : 8 * u + Q < n := by omega
          obtain ⟨par3, j1, I3⟩ := join_ok hn1 hlP hlQ (b := b) (gen := gen) (H := H.set b (bk 3 gen par2)) I2 (by simp [hbl])
          rw [List.set_set] at j1
          have n1 := number_ok (t := (t : Int)) (p := (P : Int)) (by omega) (by omega)
          have n2 := number_ok (t := (u : Int)) (p := (Q : Int)) (by omega) (by omega)
          push_cast at j1
          simp (disch := first | omega | with_unfolding_all rfl) [hk, g38, n1, n2, j1]
          exact ⟨Q + 1, by omega, by omega, by omega, par3, rfl, nxt par3 (I3.congr fun x y => ⟨fun q => q.imp id fun q => ⟨⟨d1, d2, d3⟩, q⟩, fun q => q.imp id fun q => q.2⟩) hQP⟩
        · simp (disch := first | omega | with_unfolding_all rfl) [hk, g38, d3]
          exact ⟨Q + 1, by omega, by omega, by omega, par2, rfl, no2 (by simp [d3])⟩
      · have hQP : Q = 6 := by omega
        subst hQP
        simp (disch := first | omega | with_unfolding_all rfl) [hk, g38, h2]
        refine ⟨P + 1, by omega, by omega, by omega, par2, rfl, I2.congr fun x y => ⟨?_, ?_⟩⟩
        · rintro (q | ⟨p, q, a1, a2⟩)
          · exact .inl q
          · exact .inr ⟨p, q, by omega, a2⟩
        · rintro (q | ⟨p, q, a1, a2⟩)
          · exact .inl q
          · exact .inr ⟨p, q, by omega, a2⟩
    · have : P = 6 := by omega
      subst this
      simp (disch := first | omega | with_unfolding_all rfl) [hk, g17, h1]
      exact ⟨par1, rfl, I1⟩)
  subst hv
  exact ⟨par', h1, h2⟩
end Go.Proofs.YtiaeckidlmoohaaGreat
end
section
set_option linter.unusedVariables false
set_option linter.unusedSimpArgs false
set_option maxHeartbeats 4000000
set_option maxRecDepth 20000
namespace Go.Proofs.YtiaeckidlmoohaaGreat
open Go.Proofs.YtiaeckidlmoohaaGreat.PM
theorem sorted_of {ls : List Sg} (h : anyN (badK ls) 0 ls.length = false) : ls.Pairwise ltS := by
  have adj : ∀ i (h1 : i + 1 < ls.length), ltS ls[i] ls[i + 1] := by
    intro i h1
    have := anyN_off h (Nat.zero_le (i + 1)) h1
    have h0 : i < ls.length := by omega
    simp only [badK, List.getElem?_eq_getElem h1, Nat.add_sub_cancel, List.getElem?_eq_getElem h0] at this
    simpa using (Bool.or_eq_false_iff.1 (Bool.or_eq_false_iff.1 this).2).2
  have far : ∀ d i (h1 : i + d + 1 < ls.length) (h0 : i < ls.length), ltS ls[i] ls[i + d + 1] := by
    intro d
    induction d with
    | zero => intro i h1 h0; exact adj i h1
    | succ d ih =>
      intro i h1 h0
      exact ltS_trans (ih i (by omega) h0) (adj (i + d + 1) h1)
  rw [List.pairwise_iff_getElem]
  intro i j hi hj hij
  obtain ⟨d, rfl⟩ : ∃ d, j = i + d + 1 := ⟨j - i - 1, by omega⟩
  exact far d i hj hi
structure Vd (r : Rl) (ls : List Sg) : Prop where
  g : Good r
  so : ls.Pairwise ltS
  le : ls.length ≤ 300
  kd : ∀ x ∈ ls, 0 ≤ x.k ∧ x.k ≤ 5
  ly : ∀ x ∈ ls, lie r x.t x.p = true
  hs : ∀ x ∈ ls, has x.p x.o = true
theorem vd_of {r : Rl} {ls : List Sg} (h : valErr r ls = 0) : Vd r ls := by
  have h0 : railErr r = 0 := by
    rcases railErr_cases r with q | q
    · exact q
    · simp [valErr, q] at h
  rw [valErr, if_pos h0] at h
  split at h
  · cases h
  rename_i h1
  split at h
  · cases h
  rename_i h2
  have h3 : anyN (badK ls) 0 ls.length = false := by
    cases q : anyN (badK ls) 0 ls.length
    · rfl
    · exact absurd (.inl q) h1
  have h4 : anyN (badP r ls) 0 ls.length = false := by simpa using h2
  refine ⟨good_of h0, sorted_of h3, by apply Nat.le_of_not_lt; intro q; exact h1 (.inr q), ?_, ?_, ?_⟩
  · intro x hx
    obtain ⟨i, hi, rfl⟩ := List.getElem_of_mem hx
    have := anyN_off h3 (Nat.zero_le i) hi
    simp only [badK, List.getElem?_eq_getElem hi] at this
    simp at this
    omega
  · intro x hx
    obtain ⟨i, hi, rfl⟩ := List.getElem_of_mem hx
    have := anyN_off h4 (Nat.zero_le i) hi
    simp only [badP, List.getElem?_eq_getElem hi] at this
    simp at this
    exact this.1
  · intro x hx
    obtain ⟨i, hi, rfl⟩ := List.getElem_of_mem hx
    have := anyN_off h4 (Nat.zero_le i) hi
    simp only [badP, List.getElem?_eq_getElem hi] at this
    simp at this
    exact this.2
def EB (r : Rl) (ls : List Sg) (T : Nat) (x y : Nat) : Prop := ∃ t : Nat, t < T ∧ (TE r t 6 0 x y ∨ ((t : Int).tmod r.w < r.w - 1 ∧ SE r ls t 0 (t + 1) 6 0 x y) ∨ ((t : Int).tdiv r.w < r.h - 1 ∧ SE r ls t 1 (t + r.w.toNat) 6 0 x y))
abbrev EE (r : Rl) (ls : List Sg) : Nat → Nat → Prop := EB r ls (r.w * r.h).toNat
def IsNum (E : Nat → Nat → Prop) (i m : Nat) : Prop := Cn E i m ∧ ∀ k, Cn E i k → m ≤ k
theorem IsNum.uniq {E : Nat → Nat → Prop} {i m m' : Nat} (h : IsNum E i m) (h' : IsNum E i m') : m = m' := Nat.le_antisymm (h.2 _ h'.1) (h'.2 _ h.1)
theorem Inv.num {n : Nat} {par : List Int} {E : Nat → Nat → Prop} (I : Inv n par E) {i r : Nat} (hi : i < n) (h : Rt par i r) : IsNum E i r := by
  have hr : r ≤ i := I.wf.rt_le hi h
  refine ⟨(I.iff i r hi (by omega)).1 ⟨r, h, .root h.is_root⟩, fun k hk => ?_⟩
  have hkn : k < n := by
    cases hk with
    | refl => exact hi
    | step _ e => rcases e with e | e
                  · exact (I.rng _ _ e).2
                  · exact (I.rng _ _ e).1
  obtain ⟨s, h1, h2⟩ := (I.iff i k hi hkn).2 hk
  rw [h.uniq h1]
  exact I.wf.rt_le hkn h2
structure Nums (r : Rl) (ls : List Sg) (out : List Int) : Prop where
  len : (out.length : Int) = 8 * (r.w * r.h)
  on : ∀ i, i < out.length → lie r ((i : Int) / 8) ((i : Int) % 8) = true → ∃ m : Nat, out[i]? = some (m : Int) ∧ IsNum (EE r ls) i m
  off : ∀ i, i < out.length → lie r ((i : Int) / 8) ((i : Int) % 8) = false → out[i]? = some (-1)
theorem Nums.uniq {r : Rl} {ls : List Sg} {a b : List Int} (h : Nums r ls a) (h' : Nums r ls b) : a = b := by
  have hl : a.length = b.length := by have := h.len; have := h'.len; omega
  refine List.ext_getElem? fun i => ?_
  by_cases hi : i < a.length
  · cases c : lie r ((i : Int) / 8) ((i : Int) % 8)
    · rw [h.off i hi c, h'.off i (by omega) c]
    · obtain ⟨m, h1, h2⟩ := h.on i hi c
      obtain ⟨m', h3, h4⟩ := h'.on i (by omega) c
      rw [h1, h3, h2.uniq h4]
  · rw [List.getElem?_eq_none (by omega), List.getElem?_eq_none (by omega)]
def par0 (n i : Nat) : List Int := (List.range n).map fun k => if k < i then (k : Int) else 0
@[simp] theorem par0_len (n i : Nat) : (par0 n i).length = n := by simp [par0]
theorem par0_zero (n : Nat) : List.replicate n (0 : Int) = par0 n 0 := by
  refine List.ext_getElem (by simp) fun i h1 h2 => ?_
  simp [par0]
theorem par0_set {n i : Nat} (h : i < n) : (par0 n i).set i (i : Int) = par0 n (i + 1) := by
  refine List.ext_getElem (by simp) fun j h1 h2 => ?_
  simp at h1
  rw [List.getElem_set]
  split
  · rename_i e; subst e; simp [par0]
  · simp only [par0, List.getElem_map, List.getElem_range]
    split
    · rw [if_pos (by omega)]
    · rw [if_neg (by omega)]
theorem par0_inv (n : Nat) : Inv n (par0 n n) (fun _ _ => False) := by
  have hg : ∀ i, i < n → (par0 n n)[i]? = some (i : Int) := by
    intro i hi
    simp [par0, hi]
  refine ⟨⟨by simp, fun i hi => ⟨i, hg i hi, Nat.le_refl _⟩⟩, fun k l hk hl => ⟨?_, ?_⟩, fun _ _ h => h.elim⟩
  · rintro ⟨s, h1, h2⟩
    rw [(Rt.root (hg k hk)).uniq h1, (Rt.root (hg l hl)).uniq h2]
    exact .refl _
  · intro h
    have : k = l := by
      induction h with
      | refl => rfl
      | step _ e _ => rcases e with e | e <;> exact e.elim
    subst this
    exact ⟨k, .root (hg k hk), .root (hg k hk)⟩
theorem tmod_nat (a b : Nat) : (a : Int).tmod (b : Int) = ((a % b : Nat) : Int) := rfl
theorem tdiv_nat (a b : Nat) : (a : Int).tdiv (b : Int) = ((a / b : Nat) : Int) := rfl
theorem numbers_ok {r : Rl} {nl : Nl} {ls : List Sg} (v : Vd r ls) : ∃ out, R tc 163 [vR r, lst nl ls] = some (lst .any out) ∧ Nums r ls out := by
  obtain ⟨g, hs, hl, _, _, _⟩ := v
  have hm := g.mul
  obtain ⟨w0, w1, h0, h1, ls1, ld1, rg⟩ := id g
  obtain ⟨w, hh, n1, s, n2, d⟩ := r
  dsimp only at hm w0 w1 h0 h1
  obtain ⟨W, rfl⟩ : ∃ W : Nat, w = W := ⟨w.toNat, by omega⟩
  obtain ⟨H, rfl⟩ : ∃ H : Nat, hh = H := ⟨hh.toNat, by omega⟩
  obtain ⟨r, hr⟩ : ∃ r, r = Rl.mk (W : Int) (H : Int) n1 s n2 d := ⟨_, rfl⟩
  have rw1 : r.w = W := by rw [hr]
  have rh1 : r.h = H := by rw [hr]
  obtain ⟨M, hM⟩ : ∃ M, M = W * H := ⟨_, rfl⟩
  have hWH : ((W : Int) * (H : Int)) = (M : Int) := by rw [hM]; push_cast; rfl
  obtain ⟨n, hn⟩ : ∃ n, n = 8 * M := ⟨_, rfl⟩
  have hnI : (n : Int) = 8 * (r.w * r.h) := by rw [rw1, rh1, hWH]; omega
  have h8 : (8 * (W : Int)) * (H : Int) = (n : Int) := by rw [Int.mul_assoc, hWH]; omega
  rw [← hr] at g ⊢
  have hTn : (r.w * r.h).toNat = M := by rw [rw1, rh1, hWH]; rfl
  obtain ⟨v, h1, out, rfl, h2⟩ := R_exB (T := tc) (f := 163) (F := pf163) (args := [vR r, lst nl ls]) (Rq := fun v => ∃ out, v = lst .any out ∧ Nums r ls out) (tc_nat _ rfl) rfl rfl (by
    simp (disch := first | omega | with_unfolding_all rfl) [pf163, env0_eq, h8, rw1, rh1]
    rw [par0_zero]
    refine G_loopK [1, 2, 5, 18] (fun (i : Nat) e h => i ≤ n ∧ get e 19 = .int .i64 (i : Int) ∧ h = [bk 3 0 (par0 n i)]) (fun i => n - i) (a₀ := 0) ⟨by omega, by simp, rfl⟩ ?_
    rintro i e h hk ⟨hi, g19, rfl⟩
    simp at hk
    simp (disch := first | omega | with_unfolding_all rfl) [hk, g19]
    refine G_brd (fun c => ?_) (fun c => ?_)
    · have hin : i < n := by omega
      have hpl : (par0 n i).length = n := by simp
      simp (disch := first | omega | with_unfolding_all rfl) [hk, g19, c, par0_set hin]
      exact ⟨i + 1, by omega, by omega, by omega, rfl⟩
    have e1 : n = i := by omega
    subst e1
    simp (disch := first | omega | with_unfolding_all rfl) [hk, g19, c, hWH, rw1, rh1]
    refine G_loopK [1, 2, 5, 31] (fun (t : Nat) e h => t ≤ M ∧ get e 32 = .int .i64 (t : Int) ∧ ∃ par, h = [bk 3 0 par] ∧ Inv n par (EB r ls t)) (fun t => M - t) (a₀ := 0) ?_ ?_
    · refine ⟨by omega, by simp, par0 n n, rfl, (par0_inv n).congr fun a b => ⟨fun q => q.elim, ?_⟩⟩
      rintro ⟨t, q, _⟩
      omega
    · rintro t e h hk ⟨ht, g32, par, rfl, I⟩
      simp at hk
      simp (disch := first | omega | with_unfolding_all rfl) [hk, g32]
      refine G_brd (fun c => ?_) (fun c => ?_)
      · have htM : t < M := by omega
        have htI : (t : Int) < r.w * r.h := by rw [rw1, rh1, hWH]; omega
        obtain ⟨par1, j1, I1⟩ := joinTile_ok g (b := 0) (gen := 0) (H := [bk 3 0 par]) hnI htI I rfl
        simp only [vR, rw1, rh1, List.set_cons_zero] at j1
        have tm : (t : Int).tmod (W : Int) = ((t % W : Nat) : Int) := rfl
        have td : (t : Int).tdiv (W : Int) = ((t / W : Nat) : Int) := rfl
        obtain ⟨a, ha⟩ : ∃ a, a = t % W := ⟨_, rfl⟩
        obtain ⟨b, hb⟩ : ∃ b, b = t / W := ⟨_, rfl⟩
        rw [← ha] at tm
        rw [← hb] at td
        have hal : a < W := by rw [ha]; exact Nat.mod_lt _ (by omega)
        have hbl : b < H := by rw [hb, Nat.div_lt_iff_lt_mul (by omega), Nat.mul_comm, ← hM]; exact htM
        have nxt : ∀ par3, Inv n par3 (fun x y => ((EB r ls t x y ∨ TE r t 6 0 x y) ∨ (a + 1 < W ∧ SE r ls t 0 (t + 1) 6 0 x y)) ∨ (b + 1 < H ∧ SE r ls t 1 (t + W) 6 0 x y)) → Inv n par3 (EB r ls (t + 1)) := by
          intro par3 I3
          have q1 : (t : Int).tmod r.w < r.w - 1 ↔ a + 1 < W := by rw [rw1, tm]; omega
          have q2 : (t : Int).tdiv r.w < r.h - 1 ↔ b + 1 < H := by rw [rw1, rh1, td]; omega
          have q3 : r.w.toNat = W := by rw [rw1]; rfl
          refine I3.congr fun x y => ⟨?_, ?_⟩
          · rintro (((⟨t', a1, a2⟩ | q) | ⟨c1, q⟩) | ⟨c1, q⟩)
            · exact ⟨t', by omega, a2⟩
            · exact ⟨t, by omega, .inl q⟩
            · exact ⟨t, by omega, .inr (.inl ⟨q1.2 c1, q⟩)⟩
            · exact ⟨t, by omega, .inr (.inr ⟨q2.2 c1, by rw [q3]; exact q⟩)⟩
          · rintro ⟨t', a1, a2⟩
            by_cases et : t' = t
            · subst et
              rcases a2 with q | ⟨c1, q⟩ | ⟨c1, q⟩
              · exact .inl (.inl (.inr q))
              · exact .inl (.inr ⟨q1.1 c1, q⟩)
              · rw [q3] at q
                exact .inr ⟨q2.1 c1, q⟩
            · exact .inl (.inl (.inl ⟨t', by omega, a2⟩))
        have hb0 : ∀ par' : List Int, [bk 3 0 par'][0]? = some (bk 3 0 par') := fun _ => rfl
        have I2 : ∃ par2, Inv n par2 (fun x y => (EB r ls t x y ∨ TE r t 6 0 x y) ∨ (a + 1 < W ∧ SE r ls t 0 (t + 1) 6 0 x y)) ∧ (a + 1 < W → RO tc 183 [vR r, lst nl ls, mls Int 0 0 n, .int .i64 t, .int .i64 0, .int .i64 (t + 1)] [bk 3 0 par1] = some (.tup [], [bk 3 0 par2])) ∧ (¬ a + 1 < W → par2 = par1) := by
          by_cases c1 : a + 1 < W
          · have hu : ((t + 1 : Nat) : Int) < r.w * r.h := by
              have := beside_lt (H := H) (t := t) (W := W) (by omega) (by omega)
              rw [rw1, rh1, hWH]; omega
            obtain ⟨par2, j2, I2⟩ := joinSide_ok g (nl := nl) (ls := ls) (by omega) hs (s := 0) (.inl rfl) (b := 0) (gen := 0) (H := [bk 3 0 par1]) hnI htI hu I1 rfl
            exact ⟨par2, I2.congr fun x y => ⟨fun q => q.imp id fun q => ⟨c1, q⟩, fun q => q.imp id fun q => q.2⟩, fun _ => j2, fun q => absurd c1 q⟩
          · exact ⟨par1, I1.congr fun x y => ⟨.inl, fun q => q.resolve_right fun q => c1 q.1⟩, fun q => absurd q c1, fun _ => rfl⟩
        obtain ⟨par2, I2, j2, j2'⟩ := I2
        have I3 : ∃ par3, Inv n par3 (EB r ls (t + 1)) ∧ (b + 1 < H → RO tc 183 [vR r, lst nl ls, mls Int 0 0 n, .int .i64 t, .int .i64 1, .int .i64 (t + (W : Int))] [bk 3 0 par2] = some (.tup [], [bk 3 0 par3])) ∧ (¬ b + 1 < H → par3 = par2) := by
          by_cases c1 : b + 1 < H
          · have hu : ((t + W : Nat) : Int) < r.w * r.h := by
              have := below_lt (H := H) (t := t) (W := W) (by omega) (by omega)
              rw [rw1, rh1, hWH]; omega
            obtain ⟨par3, j3, I3⟩ := joinSide_ok g (nl := nl) (ls := ls) (by omega) hs (s := 1) (.inr rfl) (b := 0) (gen := 0) (H := [bk 3 0 par2]) hnI htI hu I2 rfl
            exact ⟨par3, nxt _ (I3.congr fun x y => ⟨fun q => q.imp id fun q => ⟨c1, q⟩, fun q => q.imp id fun q => q.2⟩), fun _ => by push_cast at j3; exact j3, fun q => absurd c1 q⟩
          · exact ⟨par2, nxt _ (I2.congr fun x y => ⟨.inl, fun q => q.resolve_right fun q => c1 q.1⟩), fun q => absurd q c1, fun _ => rfl⟩
        obtain ⟨par3, I3, j3, j3'⟩ := I3
        simp only [vR, rw1, rh1] at j2 j3
        have hW0 : ¬ W = 0 := by omega
        simp (disch := first | omega | with_unfolding_all rfl) [hk, g32, c, j1, rw1, rh1, tm, td, hW0]
        have fin : ∀ e'' : Env, Keep e [1, 2, 5, 31] e'' → get e'' 32 = .int .i64 ((t : Int) + 1) → True := fun _ _ _ => trivial
        refine G_brd (fun c1 => ?_) (fun c1 => ?_)
        · have j2a := j2 (by omega)
          simp (disch := first | omega | with_unfolding_all rfl) [hk, g32, j2a, rw1, rh1, tm, td, hW0]
          refine G_brd (fun c2 => ?_) (fun c2 => ?_)
          · have j3a := j3 (by omega)
            simp (disch := first | omega | with_unfolding_all rfl) [hk, g32, j3a, rw1, rh1]
            exact ⟨t + 1, by omega, by omega, by omega, par3, rfl, I3⟩
          · obtain rfl := j3' (by omega)
            simp (disch := first | omega | with_unfolding_all rfl) [hk, g32]
            exact ⟨t + 1, by omega, by omega, by omega, par3, rfl, I3⟩
        · obtain rfl := j2' (by omega)
          simp (disch := first | omega | with_unfolding_all rfl) [hk, g32, rw1, rh1, tm, td, hW0]
          refine G_brd (fun c2 => ?_) (fun c2 => ?_)
          · have j3a := j3 (by omega)
            simp (disch := first | omega | with_unfolding_all rfl) [hk, g32, j3a, rw1, rh1]
            exact ⟨t + 1, by omega, by omega, by omega, par3, rfl, I3⟩
          · obtain rfl := j3' (by omega)
            simp (disch := first | omega | with_unfolding_all rfl) [hk, g32]
            exact ⟨t + 1, by omega, by omega, by omega, par3, rfl, I3⟩
      · have etM : t = M := by omega
        have I0 : Inv n par (EE r ls) := by rw [← hTn, ] at etM; rw [etM] at I; exact I
        simp (disch := first | omega | with_unfolding_all rfl) [hk, g32, c]
        refine G_loopK [2, 5, 8, 76] (fun (i : Nat) e h => i ≤ n ∧ get e 77 = .int .i64 (i : Int) ∧ ∃ par out, h = [bk 3 0 par, bk 3 0 out] ∧ Inv n par (EE r ls) ∧ out.length = n ∧ ∀ j, j < i → (lie r ((j : Int) / 8) ((j : Int) % 8) = true → ∃ m : Nat, out[j]? = some (m : Int) ∧ IsNum (EE r ls) j m) ∧ (lie r ((j : Int) / 8) ((j : Int) % 8) = false → out[j]? = some (-1))) (fun i => n - i) (a₀ := 0) ?_ ?_
        · exact ⟨by omega, by simp, par, List.replicate n 0, rfl, I0, by simp, fun j hj => by omega⟩
        rintro i e h hk ⟨hi, g77, par1, out, rfl, I1, hlo, hsp⟩
        simp at hk
        simp (disch := first | omega | with_unfolding_all rfl) [hk, g77]
        refine G_brd (fun c1 => ?_) (fun c1 => ?_)
        · have hin : i < n := by omega
          have l1 := lies_ok g ((i : Int) / 8) ((i : Int) % 8)
          have q8 : (i : Int).tdiv 8 = (i : Int) / 8 := rfl
          have r8 : (i : Int).tmod 8 = (i : Int) % 8 := rfl
          have keepJ : ∀ (x : Int) j, j < i → (out.set i x)[j]? = out[j]? := fun x j hj => List.getElem?_set_ne (by omega)
          simp only [vR, rw1, rh1] at l1
          have hl1 : (out.set i (-1)).length = n := by simp [hlo]
          simp (disch := first | omega | with_unfolding_all rfl) [hk, g77, c1, q8, r8, l1, rw1, rh1]
          cases c2 : lie r ((i : Int) / 8) ((i : Int) % 8)
          · simp (disch := first | omega | with_unfolding_all rfl) [hk, g77, c2]
            refine ⟨i + 1, by omega, by omega, by omega, par1, out.set i (-1), ⟨rfl, rfl⟩, I1, hl1, fun j hj => ?_⟩
            by_cases e : j = i
            · subst e
              exact ⟨fun q => absurd (c2.symm.trans q) (by decide), fun _ => List.getElem?_set_self (by omega)⟩
            · rw [keepJ _ j (by omega)]
              exact hsp j (by omega)
          · obtain ⟨par2, rt, j1, w2, a1, a2, a3⟩ := root_ok (n := n) (by omega) i par1 [bk 3 0 par1, bk 3 0 (out.set i (-1))] 0 0 hin I1.wf rfl
            have I2 := I1.same w2 a3
            simp only [List.set_cons_zero] at j1
            simp (disch := first | omega | with_unfolding_all rfl) [hk, g77, c2, j1]
            refine ⟨i + 1, by omega, by omega, by omega, par2, out.set i (rt : Int), ⟨rfl, rfl⟩, I2, by simp [hlo], fun j hj => ?_⟩
            by_cases e : j = i
            · subst e
              exact ⟨fun _ => ⟨rt, List.getElem?_set_self (by omega), I2.num hin ((a3 _ _ hin).2 a1)⟩, fun q => absurd (c2.symm.trans q) (by decide)⟩
            · rw [keepJ _ j (by omega)]
              exact hsp j (by omega)
        · have e2 : i = n := by omega
          subst e2
          simp (disch := first | omega | with_unfolding_all rfl) [hk, g77, c1]
          refine ⟨out, rfl, ⟨?_, fun j hj => (hsp j (by omega)).1, fun j hj => (hsp j (by omega)).2⟩⟩
          rw [hlo]; exact hnI)
-- => (hsp j (by omega)).1, fun j hj => (hsp j (by omega)).2⟩)
  exact ⟨out, h1, h2⟩
end Go.Proofs.YtiaeckidlmoohaaGreat
end
