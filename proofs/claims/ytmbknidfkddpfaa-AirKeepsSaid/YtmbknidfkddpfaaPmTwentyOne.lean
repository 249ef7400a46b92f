/- The pure machine, part 21: pieces of an iterator's code. -/
import Derived.Test.YtmbknidfkddpfaaPmTwenty
set_option linter.unusedVariables false
set_option linter.unusedSimpArgs false
namespace Go.Proofs.Ytmbknidfkddpfaa.PM
open Go.RowKit (Below)

theorem put_get {a : Act} {d : Option Nat} {v : Value} {t : Nat} (h : d ≠ some t) : (a.put d v).tmps[t]? = a.tmps[t]? := by
  cases d with
  | none => rfl
  | some d =>
    simp only [Act.put]
    rw [Array.getElem?_setIfInBounds_ne (fun e => h (by rw [e]))]
section
variable {P : Program} {cp : Nat → List PV → Option PV} {co : Nat → List PV → Hp → Option (PV × Hp)} {fz : Hp → List PV → Option (List PV)} {meth : Nat → String → Option Nat}
theorem seq_ok2 (hcp : ∀ f args r, cp f args = some r → PureOk P f args r) (hco : ∀ f args H r H', co f args H = some (r, H') → OpenOk P f args H r H') (hfz : FzOk fz) (hm : MethOk P meth) {ro : Option Nat} {N : Nat} {ops : Array Oper} {Q : Exit → Act → World → Prop} :
    ∀ (os : List Oper) (rs : List ROp) (i : Nat) (K : KW) (H : Hp) (env : Env) (a : Act) (env' : Env) (H' : Hp), (∀ j o, os[j]? = some o → ops[i + j]? = some o) → ropsOk P N ops os rs = true → HRel K H → ERel K N env a →
      runSeq cp co fz meth rs env H = some (env', H') → (∀ K' a', Ext K H K' H' → HRel K' H' → ERel K' N env' a' → a'.defers = a.defers → (∀ t, (∀ r ∈ rs, r.dst ≠ some t) → a'.tmps[t]? = a.tmps[t]?) → Q .normal a' K'.w) → wpOpsIn (fc ro) 0 P ops Q ((List.range os.length).map (i + ·)) a K.w
  | [], rs, i, K, H, env, a, env', H', hops, hok, hH, hE, he, hQ => by
    cases rs with
    | cons r rs => simp [ropsOk] at hok
    | nil =>
      simp only [runSeq, Option.some.injEq, Prod.mk.injEq] at he
      obtain ⟨rfl, rfl⟩ := he
      simpa [wpOpsIn] using hQ K a (Ext.refl _ _) hH hE rfl (fun _ _ => rfl)
  | o :: os, rs, i, K, H, env, a, env', H', hops, hok, hH, hE, he, hQ => by
    cases rs with
    | nil => simp [ropsOk] at hok
    | cons r rs =>
      simp only [ropsOk, Bool.and_eq_true] at hok
      obtain ⟨hr, hok⟩ := hok
      simp only [ropOk, Bool.and_eq_true, beq_iff_eq] at hr
      obtain ⟨⟨⟨h1, h2⟩, h3⟩, h4⟩ := hr
      have hd : ∀ x, r.dst = some x → x < N := by
        intro x hx
        rw [hx] at h3
        simpa using h3
      have hoi : ops[i]? = some o := by simpa using hops 0 o (by simp)
      have hidx : (List.range (o :: os).length).map (i + ·) = i :: (List.range os.length).map (i + 1 + ·) := by
        rw [List.length_cons, List.range_succ_eq_map, List.map_cons, List.map_map, Nat.add_zero]
        congr 1
        apply List.map_congr_left
        intro j _
        simp; omega
      rw [hidx, wpOpsIn_cons]
      unfold wpOpIn
      simp only [hoi]
      simp only [runSeq, Option.bind_eq_some_iff] at he
      obtain ⟨b, hb, he⟩ := he
      have hw := wanted_ok h4 hE hb
      have hops' : ∀ j o', os[j]? = some o' → ops[i + 1 + j]? = some o' := fun j o' hj => by
        have := hops (j + 1) o' (by simpa using hj)
        rwa [show i + (j + 1) = i + 1 + j from by omega] at this
      cases b
      · rw [hw]
        simp only [Bool.false_eq_true, if_false] at he ⊢
        rw [h2]
        exact ⟨fun _ _ => trivial, seq_ok2 hcp hco hfz hm os rs (i + 1) K H _ _ env' H' hops' hok hH (hE.put hd (rep_skip K)) he (fun K' a' h1 h2 h3 h4 h5 => hQ K' a' h1 h2 h3 (h4.trans (put_defers _ _ _)) (fun t ht => (h5 t (fun r' hr' => ht r' (List.mem_cons_of_mem _ hr'))).trans (put_get (ht _ (by simp)))))⟩
      · rw [hw]
        simp only [if_true, Option.bind_eq_some_iff] at he ⊢
        obtain ⟨⟨v, H1⟩, hv, he⟩ := he
        refine evOp_ok hcp hco hfz hm h1 hE hH hv ro _ _ (fun K1 rv hX hH1 hrv => ?_)
        rw [h2]
        exact seq_ok2 hcp hco hfz hm os rs (i + 1) K1 H1 _ _ env' H' hops' hok hH1 ((hE.mono hX.le).put hd hrv) he (fun K' a' hX' h2 h3 h4 h5 => hQ K' a' (hX.trans hX') h2 h3 (h4.trans (put_defers _ _ _)) (fun t ht => (h5 t (fun r' hr' => ht r' (List.mem_cons_of_mem _ hr'))).trans (put_get (ht _ (by simp)))))

end
section
variable {P : Program} {T : Table}
theorem opsG {rs : List ROp} {live : List Nat} {e : Env} {h : Hp} {Q : Post} (hg : G T [.ops rs live] .normal e h Q) : ∃ e' h', runSeq (R T) (RO T) fzB T.meth rs e h = some (e', h') ∧ Q .normal (normE live e') h' := by
  simp only [G, frX, Option.map_eq_some_iff] at hg
  obtain ⟨q, ⟨⟨e', h'⟩, hr, rfl⟩, hq⟩ := hg
  exact ⟨e', h', hr, hq⟩
/-- A region of pure operations, run over no small heap. -/
theorem region_okS (hT : TOk P T) {N id : Nat} {ops : Array Oper} {rs : List ROp} {live : List Nat} {K : KW} {env : Env} {a : Act} {Post : Env → Prop} (hok : ropsOk P N ops ops.toList rs = true) (hH : HRel K []) (hE : ERel K N env a)
    (hg : G T [.ops rs live] .normal env [] (fun _ e' h' => h' = [] ∧ Post e')) (Q : Exit → Act → World → Prop)
    (hQ : ∀ K' a' e', Below K.w.heap.size K.w K'.w → HRel K' [] → ERel K' N e' a' → Post e' → a'.defers = a.defers → (∀ t, (∀ r ∈ rs, r.dst ≠ some t) → a'.tmps[t]? = a.tmps[t]?) → Q .normal a' K'.w) : (Code.region id ops false).wpIn (fc none) 0 P Q a K.w := by
  obtain ⟨e', h', hr, rfl, hp⟩ := opsG hg
  refine wpIn_region ?_
  have := seq_ok2 (fun f args r h => R_ok hT h) (fun f args H r H' h => RO_ok hT h) fzB_ok hT.meth (ro := none) (Q := Q) ops.toList rs 0 K [] env a e' [] (fun j o hj => by simpa using hj) hok hH hE hr (fun K' a' hX hH' hE' hd ht => by
    refine hQ K' a' (normE live e') ⟨hX.le.os, hX.le.tape, hX.le.output, hX.le.size, fun k hk => hX.frame k hk (by rintro ⟨b, B, n, hb, _⟩; simp at hb)⟩ hH' (hE'.norm live) hp hd ht)
  simpa using this
end
end Go.Proofs.Ytmbknidfkddpfaa.PM
