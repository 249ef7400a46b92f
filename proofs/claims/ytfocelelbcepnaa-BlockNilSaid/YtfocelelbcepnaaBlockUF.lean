/- Blocks: pieces that hang together, kept as a table of parents. -/
import Derived.Test.YtfocelelbcepnaaBlockVal
set_option linter.unusedVariables false
set_option linter.unusedSimpArgs false
set_option maxHeartbeats 2000000
set_option maxRecDepth 20000
namespace Go.Proofs.Ytfocelelbcepnaa
open Go.Proofs.Ytfocelelbcepnaa.PM

/-- Hang together. -/
inductive Cn (E : Nat → Nat → Prop) : Nat → Nat → Prop
  | refl (i : Nat) : Cn E i i
  | step {i j k : Nat} : Cn E i j → (E j k ∨ E k j) → Cn E i k
theorem Cn.trans {E : Nat → Nat → Prop} {i j k : Nat} (h : Cn E i j) (h2 : Cn E j k) : Cn E i k := by
  induction h2 with
  | refl => exact h
  | step _ e ih => exact .step ih e
theorem Cn.one {E : Nat → Nat → Prop} {i j : Nat} (h : E i j ∨ E j i) : Cn E i j := .step (.refl i) h
theorem Cn.symm {E : Nat → Nat → Prop} {i j : Nat} (h : Cn E i j) : Cn E j i := by
  induction h with
  | refl => exact .refl _
  | step _ e ih => exact (Cn.one e.symm).trans ih
theorem Cn.mono {E E' : Nat → Nat → Prop} (he : ∀ a b, E a b → E' a b) {i j : Nat} (h : Cn E i j) : Cn E' i j := by
  induction h with
  | refl => exact .refl _
  | step _ e ih => exact .step ih (e.imp (he _ _) (he _ _))
theorem Cn.congr {E E' : Nat → Nat → Prop} (he : ∀ a b, E a b ↔ E' a b) {i j : Nat} : Cn E i j ↔ Cn E' i j := ⟨Cn.mono fun a b => (he a b).1, Cn.mono fun a b => (he a b).2⟩

/-- The way up to the root. -/
inductive Rt (par : List Int) : Nat → Nat → Prop
  | root {i : Nat} : par[i]? = some (i : Int) → Rt par i i
  | step {i j r : Nat} : par[i]? = some (j : Int) → j ≠ i → Rt par j r → Rt par i r
structure Wf (n : Nat) (par : List Int) : Prop where
  len : par.length = n
  le : ∀ i, i < n → ∃ j : Nat, par[i]? = some (j : Int) ∧ j ≤ i
theorem Rt.is_root {par : List Int} {i r : Nat} (h : Rt par i r) : par[r]? = some (r : Int) := by
  induction h with
  | root h => exact h
  | step _ _ _ ih => exact ih
theorem Rt.uniq {par : List Int} {i r s : Nat} (h : Rt par i r) (h2 : Rt par i s) : r = s := by
  induction h with
  | root h =>
    cases h2 with
    | root => rfl
    | step h3 h4 _ => rw [h, Option.some.injEq] at h3; omega
  | step h h' _ ih =>
    cases h2 with
    | root h3 => rw [h, Option.some.injEq] at h3; omega
    | step h3 h4 h5 =>
      rw [h, Option.some.injEq] at h3
      obtain rfl := Int.ofNat.inj h3
      exact ih h5
theorem Wf.rt {n : Nat} {par : List Int} (w : Wf n par) : ∀ i, i < n → ∃ r, Rt par i r ∧ r ≤ i := by
  intro i
  induction i using Nat.strongRecOn with
  | _ i ih =>
    intro hi
    obtain ⟨j, hj, hle⟩ := w.le i hi
    by_cases e : j = i
    · subst e; exact ⟨j, .root hj, Nat.le_refl _⟩
    · obtain ⟨r, hr, hrl⟩ := ih j (by omega) (by omega)
      exact ⟨r, .step hj e hr, by omega⟩
theorem Wf.rt_le {n : Nat} {par : List Int} (w : Wf n par) {i r : Nat} (hi : i < n) (h : Rt par i r) : r ≤ i := by
  obtain ⟨s, hs, hl⟩ := w.rt i hi
  rw [h.uniq hs]; exact hl
/-- A shortcut to the root. -/
theorem rt_set {n : Nat} {par : List Int} (w : Wf n par) {i r : Nat} (hi : i < n) (h : Rt par i r) : Wf n (par.set i (r : Int)) ∧ ∀ k s, k < n → (Rt (par.set i (r : Int)) k s ↔ Rt par k s) := by
  have hr := h.is_root
  have hrl := w.rt_le hi h
  have hil : i < par.length := by rw [w.len]; exact hi
  have gs : ∀ k, (par.set i (r : Int))[k]? = if i = k then some (r : Int) else par[k]? := by
    intro k
    rw [List.getElem?_set]
    split
    · rename_i e; subst e; simp [hil]
    · rfl
  have wf : Wf n (par.set i (r : Int)) := by
    refine ⟨by simp [w.len], fun k hk => ?_⟩
    rw [gs]
    split
    · rename_i e; subst e; exact ⟨r, rfl, hrl⟩
    · exact w.le k hk
  have rr : (par.set i (r : Int))[r]? = some (r : Int) := by
    rw [gs]; split
    · rfl
    · exact hr
  have fwd : ∀ k s, Rt par k s → Rt (par.set i (r : Int)) k s := by
    intro k s hks
    induction hks with
    | @root k hk =>
      refine .root ?_
      rw [gs]
      split
      · rename_i e
        subst e
        rw [h.uniq (.root hk)]
      · exact hk
    | @step k j s hk hne hjs ih =>
      by_cases e : i = k
      · subst e
        have : s = r := (Rt.step hk hne hjs).uniq h
        subst this
        by_cases e2 : s = i
        · subst e2; exact .root rr
        · exact .step (j := s) (by rw [gs, if_pos rfl]) e2 (.root rr)
      · exact .step (by rw [gs, if_neg e]; exact hk) hne ih
  refine ⟨wf, fun k s hk => ⟨fun hks => ?_, fwd k s⟩⟩
  obtain ⟨s', hs', _⟩ := w.rt k hk
  rw [hks.uniq (fwd k s' hs')]; exact hs'
/-- A root below another one. -/
theorem rt_join {n : Nat} {par : List Int} (w : Wf n par) {a b : Nat} (ha : par[a]? = some (a : Int)) (hb : par[b]? = some (b : Int)) (hab : b ≤ a) : Wf n (par.set a (b : Int)) ∧ ∀ k s, k < n → (Rt (par.set a (b : Int)) k s ↔ ∃ s0, Rt par k s0 ∧ s = if s0 = a then b else s0) := by
  have hal : a < par.length := (List.getElem?_eq_some_iff.1 ha).1
  have gs : ∀ k, (par.set a (b : Int))[k]? = if a = k then some (b : Int) else par[k]? := by
    intro k
    rw [List.getElem?_set]
    split
    · rename_i e; subst e; simp [hal]
    · rfl
  have wf : Wf n (par.set a (b : Int)) := by
    refine ⟨by simp [w.len], fun k hk => ?_⟩
    rw [gs]
    split
    · rename_i e; subst e; exact ⟨b, rfl, hab⟩
    · exact w.le k hk
  have rb : (par.set a (b : Int))[b]? = some (b : Int) := by
    rw [gs]; split
    · rfl
    · exact hb
  have fwd : ∀ k s, Rt par k s → Rt (par.set a (b : Int)) k (if s = a then b else s) := by
    intro k s hks
    induction hks with
    | @root k hk =>
      split
      · rename_i e
        subst e
        by_cases e2 : b = k
        · subst e2; exact .root rb
        · exact .step (j := b) (by rw [gs, if_pos rfl]) e2 (.root rb)
      · rename_i e
        exact .root (by rw [gs, if_neg (fun q => e q.symm)]; exact hk)
    | @step k j s hk hne hjs ih =>
      by_cases e : a = k
      · subst e
        rw [ha, Option.some.injEq] at hk
        exact absurd (Int.ofNat.inj hk).symm hne
      · exact .step (by rw [gs, if_neg e]; exact hk) hne ih
  refine ⟨wf, fun k s hk => ⟨fun hks => ?_, ?_⟩⟩
  · obtain ⟨s', hs', _⟩ := w.rt k hk
    exact ⟨s', hs', hks.uniq (fwd k s' hs')⟩
  · rintro ⟨s0, h0, rfl⟩
    exact fwd k s0 h0
/-- The table tells what hangs together by E. -/
structure Inv (n : Nat) (par : List Int) (E : Nat → Nat → Prop) : Prop where
  wf : Wf n par
  iff : ∀ k l, k < n → l < n → ((∃ s, Rt par k s ∧ Rt par l s) ↔ Cn E k l)
  rng : ∀ a b, E a b → a < n ∧ b < n
theorem Inv.same {n : Nat} {par par' : List Int} {E : Nat → Nat → Prop} (h : Inv n par E) (w : Wf n par') (hr : ∀ k s, k < n → (Rt par' k s ↔ Rt par k s)) : Inv n par' E :=
  ⟨w, fun k l hk hl => by
    rw [← h.iff k l hk hl]
    exact ⟨fun ⟨s, a, b⟩ => ⟨s, (hr k s hk).1 a, (hr l s hl).1 b⟩, fun ⟨s, a, b⟩ => ⟨s, (hr k s hk).2 a, (hr l s hl).2 b⟩⟩, h.rng⟩
theorem Inv.congr {n : Nat} {par : List Int} {E E' : Nat → Nat → Prop} (h : Inv n par E) (he : ∀ a b, E a b ↔ E' a b) : Inv n par E' :=
  ⟨h.wf, fun k l hk hl => (h.iff k l hk hl).trans (Cn.congr he), fun a b hab => h.rng a b ((he a b).2 hab)⟩
theorem Inv.joined {n : Nat} {par par' : List Int} {E : Nat → Nat → Prop} (h : Inv n par E) {i j a b : Nat} (hi : i < n) (hj : j < n) (hab : (Rt par i a ∧ Rt par j b) ∨ (Rt par i b ∧ Rt par j a)) (w : Wf n par')
    (hr : ∀ k s, k < n → (Rt par' k s ↔ ∃ s0, Rt par k s0 ∧ s = if s0 = a then b else s0)) : Inv n par' (fun x y => E x y ∨ (x = i ∧ y = j)) := by
  refine ⟨w, fun k l hk hl => ⟨?_, ?_⟩, fun x y hxy => by
    rcases hxy with hxy | ⟨rfl, rfl⟩
    · exact h.rng x y hxy
    · exact ⟨hi, hj⟩⟩
  · rintro ⟨s, h1, h2⟩
    obtain ⟨s1, r1, e1⟩ := (hr k s hk).1 h1
    obtain ⟨s2, r2, e2⟩ := (hr l s hl).1 h2
    have up : ∀ {x y}, Cn E x y → Cn (fun x y => E x y ∨ (x = i ∧ y = j)) x y := fun h => h.mono fun _ _ => .inl
    have ij : Cn (fun x y => E x y ∨ (x = i ∧ y = j)) i j := .one (.inl (.inr ⟨rfl, rfl⟩))
    have to : ∀ {x s}, x < n → Rt par x s → s = a ∨ s = b → Cn (fun x y => E x y ∨ (x = i ∧ y = j)) x i := by
      intro x s hx hs hsab
      rcases hab with ⟨ra, rb⟩ | ⟨rb, ra⟩
      · rcases hsab with rfl | rfl
        · exact up ((h.iff x i hx hi).1 ⟨_, hs, ra⟩)
        · exact (up ((h.iff x j hx hj).1 ⟨_, hs, rb⟩)).trans ij.symm
      · rcases hsab with rfl | rfl
        · exact (up ((h.iff x j hx hj).1 ⟨_, hs, ra⟩)).trans ij.symm
        · exact up ((h.iff x i hx hi).1 ⟨_, hs, rb⟩)
    by_cases c1 : s1 = a ∨ s1 = b
    · have c2 : s2 = a ∨ s2 = b := by
        by_cases q1 : s1 = a <;> by_cases q2 : s2 = a <;> simp [q1, q2] at e1 e2 c1 ⊢ <;> omega
      exact (to hk r1 c1).trans (to hl r2 c2).symm
    · have : s1 = s2 := by
        by_cases q2 : s2 = a
        · simp only [q2, if_true] at e2
          rw [if_neg (fun q => c1 (.inl q))] at e1
          exact absurd (.inr (e1.symm.trans e2)) c1
        · rw [if_neg (fun q => c1 (.inl q))] at e1
          rw [if_neg q2] at e2
          exact e1.symm.trans e2
      subst this
      exact up ((h.iff k l hk hl).1 ⟨_, r1, r2⟩)
  · intro hc
    have key : ∀ x y, Cn (fun x y => E x y ∨ (x = i ∧ y = j)) x y → ∀ s0, x < n → Rt par x s0 → y < n → ∃ s1, Rt par y s1 ∧ (if s0 = a then b else s0) = if s1 = a then b else s1 := by
      intro x y hxy s0 hx hs0
      induction hxy with
      | refl => exact fun _ => ⟨s0, hs0, rfl⟩
      | @step j' k' _ e ih =>
        intro hk'
        have hrel : ∀ u v, u < n → v < n → E u v → ∀ s, Rt par u s → Rt par v s := by
          intro u v hu hv huv s hs
          obtain ⟨t, t1, t2⟩ := (h.iff u v hu hv).2 (.one (.inl huv))
          rw [hs.uniq t1]; exact t2
        have hrel' : ∀ u v, u < n → v < n → E u v → ∀ s, Rt par v s → Rt par u s := by
          intro u v hu hv huv s hs
          obtain ⟨t, t1, t2⟩ := (h.iff u v hu hv).2 (.one (.inl huv))
          rw [hs.uniq t2]; exact t1
        have rng2 : j' < n := by
          rcases e with (e | ⟨rfl, rfl⟩) | (e | ⟨rfl, rfl⟩)
          · exact (h.rng _ _ e).1
          · exact hi
          · exact (h.rng _ _ e).2
          · exact hj
        obtain ⟨s1, r1, e1⟩ := ih rng2
        rcases e with (e | ⟨rfl, rfl⟩) | (e | ⟨rfl, rfl⟩)
        · exact ⟨s1, hrel _ _ rng2 hk' e _ r1, e1⟩
        · rcases hab with ⟨ra, rb⟩ | ⟨rb, ra⟩
          · exact ⟨b, rb, by rw [e1, r1.uniq ra]; simp⟩
          · exact ⟨a, ra, by rw [e1, r1.uniq rb]; simp⟩
        · exact ⟨s1, hrel' _ _ hk' rng2 e _ r1, e1⟩
        · rcases hab with ⟨ra, rb⟩ | ⟨rb, ra⟩
          · exact ⟨a, ra, by rw [e1, r1.uniq rb]; simp⟩
          · exact ⟨b, rb, by rw [e1, r1.uniq ra]; simp⟩
    obtain ⟨s0, r0, _⟩ := h.wf.rt k hk
    obtain ⟨s1, r1, e⟩ := key k l hc s0 hk r0 hl
    exact ⟨_, (hr k _ hk).2 ⟨s0, r0, rfl⟩, (hr l _ hl).2 ⟨s1, r1, e⟩⟩

theorem wrapI {a : Int} (h1 : -9223372036854775808 ≤ a) (h2 : a ≤ 9223372036854775807) : IntKind.i64.wrap a = a := by rw [IntKind.wrap_i64]; omega
/-- The root of a piece. -/
theorem root_ok {n : Nat} (hn : n ≤ 100000) : ∀ (i : Nat) (par : List Int) (H : Hp) (b gen : Nat), i < n → Wf n par → H[b]? = some (bk 3 gen par) →
    ∃ par' r, RO tb 90 [mls Int b gen n, .int .i64 i] H = some (.int .i64 (r : Nat), H.set b (bk 3 gen par')) ∧ Wf n par' ∧ Rt par i r ∧ r ≤ i ∧ ∀ k s, k < n → (Rt par' k s ↔ Rt par k s) := by
  intro i
  induction i using Nat.strongRecOn with
  | _ i ih =>
    intro par H b gen hi w hb
    obtain ⟨j, hj, hle⟩ := w.le i hi
    have hl := w.len
    have hil : i < par.length := by omega
    have hji : par[i] = (j : Int) := by rw [List.getElem?_eq_getElem hil, Option.some.injEq] at hj; exact hj
    have hbl : b < H.length := (List.getElem?_eq_some_iff.1 hb).1
    have hbb : H[b] = bk 3 gen par := (List.getElem?_eq_some_iff.1 hb).2
    by_cases e : j = i
    · subst e
      refine ⟨par, j, ?_, w, .root hj, Nat.le_refl _, fun _ _ _ => Iff.rfl⟩
      have hset : H.set b (bk 3 gen par) = H := by rw [← hbb]; exact List.set_getElem_self hbl
      rw [hset]
      refine RO_of_G (F := pf90) rfl rfl rfl ?_
      simp (disch := first | omega | with_unfolding_all rfl) [pf90, env0_eq, hbb, hl, hji]
    · obtain ⟨par1, r, h1, w1, h2, h3, h4⟩ := ih j (by omega) par H b gen (by omega) w hb
      have hr1 : Rt par1 i r := (h4 i r hi).2 (.step hj e h2)
      obtain ⟨w2, h5⟩ := rt_set w1 hi hr1
      refine ⟨par1.set i (r : Int), r, ?_, w2, .step hj e h2, by omega, fun k s hk => (h5 k s hk).trans (h4 k s hk)⟩
      have hij : ¬ (j : Int) = (i : Int) := by omega
      have hl1 := w1.len
      have hl2 : (par1.set i (r : Int)).length = n := w2.len
      have hb1 : (H.set b (bk 3 gen par1))[b]? = some (bk 3 gen par1) := by simp [hbl]
      refine RO_of_G (F := pf90) rfl rfl rfl ?_
      simp (disch := first | omega | with_unfolding_all rfl) [pf90, env0_eq, hbb, hl, hl1, hji, hij, h1]
/-- Two pieces are made to hang together. -/
theorem join_ok {n : Nat} (hn : n ≤ 100000) {i j : Nat} {par : List Int} {H : Hp} {b gen : Nat} {E : Nat → Nat → Prop} (hi : i < n) (hj : j < n) (I : Inv n par E) (hb : H[b]? = some (bk 3 gen par)) :
    ∃ par', RO tb 108 [mls Int b gen n, .int .i64 i, .int .i64 j] H = some (.tup [], H.set b (bk 3 gen par')) ∧ Inv n par' (fun x y => E x y ∨ (x = i ∧ y = j)) := by
  obtain ⟨par1, r1, h1, w1, a1, a2, a3⟩ := root_ok hn i par H b gen hi I.wf hb
  have hbl : b < H.length := (List.getElem?_eq_some_iff.1 hb).1
  have hb1 : (H.set b (bk 3 gen par1))[b]? = some (bk 3 gen par1) := by simp [hbl]
  obtain ⟨par2, r2, h2, w2, b1, b2, b3⟩ := root_ok hn j par1 _ b gen hj w1 hb1
  have hsame : ∀ k s, k < n → (Rt par2 k s ↔ Rt par k s) := fun k s hk => (b3 k s hk).trans (a3 k s hk)
  have I2 := I.same w2 hsame
  have R1 : Rt par2 i r1 := (hsame i r1 hi).2 a1
  have R2 : Rt par2 j r2 := (b3 j r2 hj).2 b1
  have hl2 := w2.len
  rw [List.set_set] at h2
  have hmm : (max (r1 : Int) (r2 : Int)) = ((max r1 r2 : Nat) : Int) ∧ (min (r1 : Int) (r2 : Int)) = ((min r1 r2 : Nat) : Int) := by omega
  by_cases hle : r1 ≤ r2
  · obtain ⟨w3, c1⟩ := rt_join w2 R2.is_root R1.is_root hle
    refine ⟨par2.set r2 (r1 : Int), ?_, I2.joined hi hj (.inr ⟨R1, R2⟩) w3 c1⟩
    have e1 : (if r1 < r2 then (r2 : Int) else r1) = r2 := by split <;> omega
    have e2 : (if r2 < r1 then (r2 : Int) else r1) = r1 := by split <;> omega
    refine RO_of_G (F := pf108) rfl rfl rfl ?_
    simp (disch := first | omega | with_unfolding_all rfl) [pf108, env0_eq, h1, h2, hl2, evMin, evMax, e1, e2]
  · obtain ⟨w3, c1⟩ := rt_join w2 R1.is_root R2.is_root (by omega)
    refine ⟨par2.set r1 (r2 : Int), ?_, I2.joined hi hj (.inl ⟨R1, R2⟩) w3 c1⟩
    have e1 : (if r1 < r2 then (r2 : Int) else r1) = r1 := by split <;> omega
    have e2 : (if r2 < r1 then (r2 : Int) else r1) = r2 := by split <;> omega
    refine RO_of_G (F := pf108) rfl rfl rfl ?_
    simp (disch := first | omega | with_unfolding_all rfl) [pf108, env0_eq, h1, h2, hl2, evMin, evMax, e1, e2]
end Go.Proofs.Ytfocelelbcepnaa
