/- Several texts in one: BlockSplit, BlockSplit2. -/
import Derived.Test.YtfocelelbcepnaaBlockPut
import Derived.Test.YtfocelelbcepnaaBlockWhole
section
set_option linter.unusedVariables false
set_option linter.unusedSimpArgs false
set_option maxHeartbeats 4000000
set_option maxRecDepth 20000
namespace Go.Proofs.Ytfocelelbcepnaa
open Go.Proofs.Ytfocelelbcepnaa.PM

/-! ### What hangs together with an edge more -/
theorem cn_more {E : Nat → Nat → Prop} {a q : Nat} {x y : Nat} (h : Cn (fun u v => E u v ∨ (u = a ∧ v = q)) x y) : Cn E x y ∨ (Cn E x a ∧ Cn E q y) ∨ (Cn E x q ∧ Cn E a y) := by
  induction h with
  | refl => exact .inl (.refl _)
  | @step j k _ e ih =>
    rcases e with (e | ⟨rfl, rfl⟩) | (e | ⟨rfl, rfl⟩)
    · rcases ih with h | ⟨h1, h2⟩ | ⟨h1, h2⟩
      · exact .inl (h.step (.inl e))
      · exact .inr (.inl ⟨h1, h2.step (.inl e)⟩)
      · exact .inr (.inr ⟨h1, h2.step (.inl e)⟩)
    · rcases ih with h | ⟨h1, h2⟩ | ⟨h1, h2⟩
      · exact .inr (.inl ⟨h, .refl _⟩)
      · exact .inr (.inl ⟨h1, .refl _⟩)
      · exact .inl h1
    · rcases ih with h | ⟨h1, h2⟩ | ⟨h1, h2⟩
      · exact .inl (h.step (.inr e))
      · exact .inr (.inl ⟨h1, h2.step (.inr e)⟩)
      · exact .inr (.inr ⟨h1, h2.step (.inr e)⟩)
    · rcases ih with h | ⟨h1, h2⟩ | ⟨h1, h2⟩
      · exact .inr (.inr ⟨h, .refl _⟩)
      · exact .inl h1
      · exact .inr (.inr ⟨h1, .refl _⟩)
theorem cn_lift {E E' : Nat → Nat → Prop} (h : ∀ x y, E x y → Cn E' x y) {x y : Nat} (c : Cn E x y) : Cn E' x y := by
  induction c with
  | refl => exact .refl _
  | step _ e ih => exact e.elim (fun e => ih.trans (h _ _ e)) (fun e => ih.trans (h _ _ e).symm)
/-- A piece that is the first of its class with the edge less but not with it. -/
theorem lost_one {E E' : Nat → Nat → Prop} {a q : Nat} (h : ∀ x y, E x y → Cn (fun u v => E' u v ∨ (u = a ∧ v = q)) x y) {i j m n : Nat} (hi : IsNum E' i i) (hj : IsNum E' j j) (hm : IsNum E i m) (hn : IsNum E j n) (him : m ≠ i) (hjn : n ≠ j) : i = j := by
  have key : ∀ {i m : Nat}, IsNum E' i i → IsNum E i m → m ≠ i → (∃ k, Cn E' i a ∧ Cn E' q k ∧ k < i) ∨ (∃ k, Cn E' i q ∧ Cn E' a k ∧ k < i) := by
    intro i m hi hm him
    have hmi : m < i := by have := hm.2 i (.refl _); omega
    rcases cn_more (cn_lift h hm.1) with c | ⟨c1, c2⟩ | ⟨c1, c2⟩
    · have := hi.2 _ c; omega
    · exact .inl ⟨m, c1, c2, hmi⟩
    · exact .inr ⟨m, c1, c2, hmi⟩
  have eq : ∀ {z : Nat}, Cn E' i z → Cn E' j z → i = j := fun h1 h2 => by
    have c := h1.trans h2.symm
    have := hi.2 _ c
    have := hj.2 _ c.symm
    omega
  rcases key hi hm him with ⟨k, c1, c2, c3⟩ | ⟨k, c1, c2, c3⟩ <;> rcases key hj hn hjn with ⟨l, d1, d2, d3⟩ | ⟨l, d1, d2, d3⟩
  · exact eq c1 d1
  · have h1 := hj.2 k (d1.trans c2)
    have h2 := hi.2 l (c1.trans d2)
    omega
  · have h1 := hj.2 k (d1.trans c2)
    have h2 := hi.2 l (c1.trans d2)
    omega
  · exact eq c1 d1
theorem countP_one {α : Type} {p q : α → Bool} : ∀ {l : List α}, l.Nodup → (∀ x ∈ l, p x = true → q x = true) → (∀ x ∈ l, ∀ y ∈ l, q x = true → p x = false → q y = true → p y = false → x = y) → l.countP p ≤ l.countP q ∧ l.countP q ≤ l.countP p + 1
  | [], _, _, _ => by simp
  | x :: l, hn, h1, h2 => by
    rw [List.nodup_cons] at hn
    obtain ⟨i1, i2⟩ := countP_one (l := l) hn.2 (fun y hy => h1 y (List.mem_cons_of_mem _ hy)) (fun y hy z hz => h2 y (List.mem_cons_of_mem _ hy) z (List.mem_cons_of_mem _ hz))
    simp only [List.countP_cons]
    cases px : p x
    · cases qx : q x
      · simp; omega
      · have e : l.countP q = l.countP p := by
          refine List.countP_congr fun y hy => ⟨fun qy => ?_, fun py => h1 y (List.mem_cons_of_mem _ hy) py⟩
          cases py : p y
          · exact absurd (h2 x (by simp) y (List.mem_cons_of_mem _ hy) qx px qy py) (fun e => hn.1 (e ▸ hy))
          · rfl
        simp; omega
    · rw [h1 x (by simp) px]
      simp; omega
theorem prt8_count (of : List Int) : ∀ k, (prt8 of k).length = (List.range k).countP fun i => decide (of.getD i 0 = (i : Int))
  | 0 => rfl
  | k + 1 => by
    have ih := prt8_count of k
    rw [prt8_succ, List.range_succ, List.countP_append, ← ih, List.countP_cons, List.countP_nil]
    unfold addP
    by_cases h0 : of.getD k 0 < 0
    · rw [if_pos h0, decide_eq_false (by omega)]; simp
    · rw [if_neg h0]
      by_cases h1 : of.getD k 0 = (k : Int)
      · rw [if_pos h1, decide_eq_true h1]; simp
      · rw [if_neg h1, decide_eq_false h1]; simp
/-! ### What putting does to signals -/
theorem put_mem {ls : List Sg} {s x : Sg} (h : x ∈ putL ls s) : x = s ∨ x ∈ ls := by
  unfold putL at h
  split at h
  · rcases List.mem_or_eq_of_mem_set h with h | h
    · exact .inr h
    · exact .inl h
  · unfold insS at h
    rw [List.mem_append, List.mem_append, List.mem_singleton] at h
    rcases h with h | h | h
    · exact .inr (List.mem_of_mem_take h)
    · exact .inl h
    · exact .inr (List.mem_of_mem_drop h)
theorem eqS_lt {a b c : Sg} (h : eqS a b) : (ltS a c ↔ ltS b c) ∧ (ltS c a ↔ ltS c b) := by
  obtain ⟨h1, h2, h3⟩ := h
  unfold ltS
  rw [h1, h2, h3]
  exact ⟨Iff.rfl, Iff.rfl⟩
theorem put_vd {r : Rl} {ls : List Sg} {s : Sg} (h : putE r ls s = 0) : Vd r (putL ls s) := by
  have h0 : valErr r ls = 0 := by
    unfold putE at h
    split at h
    · assumption
    · exact h
  have v := vd_of h0
  rw [putE, if_pos h0] at h
  split at h
  · cases h
  rename_i hk
  split at h
  · cases h
  rename_i hb
  split at h
  · cases h
  rename_i hl
  have hb1 : lie r s.t s.p = true := by
    cases c : lie r s.t s.p
    · exact absurd (.inl c) hb
    · rfl
  have hb2 : has s.p s.o = true := by
    cases c : has s.p s.o
    · exact absurd (.inr c) hb
    · rfl
  have so : (putL ls s).Pairwise ltS := by
    have hs := v.so
    unfold putL
    split
    · rename_i c
      have hz := sgn_lt c
      have he := sgn_eq hs c hz
      generalize posS ⟨s.t, s.p, s.o, 0⟩ ls = z at *
      have he' : eqS ls[z] s := he
      rw [List.pairwise_iff_getElem] at hs ⊢
      intro i j hi hj hij
      simp only [List.length_set] at hi hj
      rw [List.getElem_set, List.getElem_set]
      have hh := hs i j hi hj hij
      split
      · rename_i e1
        subst e1
        rw [if_neg (by omega)]
        exact (eqS_lt he').1.1 hh
      · split
        · rename_i e2
          subst e2
          exact (eqS_lt he').2.1 hh
        · exact hh
    · rename_i c
      have hp : ∀ j (hj : j < ls.length), j < posS ⟨s.t, s.p, s.o, 0⟩ ls → ltS ls[j] s := fun j hj h => posS_lt (l := ⟨s.t, s.p, s.o, 0⟩) hj h
      have hq : ∀ j (hj : j < ls.length), posS ⟨s.t, s.p, s.o, 0⟩ ls ≤ j → ltS s ls[j] := fun j hj h => by
        have h1 := posS_ge hs (l := ⟨s.t, s.p, s.o, 0⟩) hj h
        have h2 : ¬ eqS ls[j] ⟨s.t, s.p, s.o, 0⟩ := fun q => c ((isAt_iff hs).2 ⟨ls[j], List.getElem_mem hj, q⟩)
        unfold ltS eqS at *
        dsimp only at *
        omega
      have hle := posS_le ⟨s.t, s.p, s.o, 0⟩ ls
      generalize posS ⟨s.t, s.p, s.o, 0⟩ ls = z at *
      unfold insS
      rw [List.pairwise_append]
      refine ⟨hs.sublist (List.take_sublist _ _), ?_, ?_⟩
      · rw [List.singleton_append, List.pairwise_cons]
        refine ⟨fun x hx => ?_, hs.sublist (List.drop_sublist _ _)⟩
        obtain ⟨j, hj, rfl⟩ := List.getElem_of_mem hx
        rw [List.getElem_drop]
        exact hq _ (by rw [List.length_drop] at hj; omega) (by omega)
      · intro x hx y hy
        obtain ⟨j, hj, rfl⟩ := List.getElem_of_mem hx
        rw [List.length_take] at hj
        rw [List.getElem_take]
        have h1 := hp j (by omega) (by omega)
        rw [List.mem_append, List.mem_singleton] at hy
        rcases hy with rfl | hy
        · exact h1
        · obtain ⟨l, hl', rfl⟩ := List.getElem_of_mem hy
          rw [List.length_drop] at hl'
          rw [List.getElem_drop]
          exact ltS_trans h1 (hq _ (by omega) (by omega))
  refine ⟨v.g, so, ?_, fun x hx => ?_, fun x hx => ?_, fun x hx => ?_⟩
  · have := v.le
    unfold putL
    split
    · simp; omega
    · rename_i c
      have c' : sgn ls s.t s.p s.o = false := by simpa using c
      rw [insS_len _ _ _ (posS_le _ _)]
      apply Nat.le_of_not_lt
      intro q
      exact hl ⟨c', by omega⟩
  · rcases put_mem hx with rfl | hx
    · omega
    · exact v.kd x hx
  · rcases put_mem hx with rfl | hx
    · exact hb1
    · exact v.ly x hx
  · rcases put_mem hx with rfl | hx
    · exact hb2
    · exact v.hs x hx
theorem val_of_vd {r : Rl} {ls : List Sg} (v : Vd r ls) (h0 : railErr r = 0) : valErr r ls = 0 := by
  have h1 : anyN (badK ls) 0 ls.length = false := anyN_f fun i _ hi => by
    have hk := v.kd ls[i] (List.getElem_mem hi)
    simp only [badK, List.getElem?_eq_getElem hi]
    by_cases i0 : 0 < i
    · have him : i - 1 < ls.length := by omega
      have hs := v.so
      rw [List.pairwise_iff_getElem] at hs
      have := hs (i - 1) i him hi (by omega)
      simp only [List.getElem?_eq_getElem him, this]
      simp; omega
    · simp; omega
  have h2 : anyN (badP r ls) 0 ls.length = false := anyN_f fun i _ hi => by
    simp only [badP, List.getElem?_eq_getElem hi, v.ly _ (List.getElem_mem hi), v.hs _ (List.getElem_mem hi)]
    rfl
  have := v.le
  rw [valErr, if_pos h0, if_neg (by rw [h1]; simp; omega), if_neg (by rw [h2]; simp)]
theorem put_sgn {r : Rl} {ls : List Sg} {s : Sg} (h : putE r ls s = 0) (v : Vd r ls) (t p o : Int) : sgn (putL ls s) t p o = (sgn ls t p o || (decide (t = s.t) && (decide (p = s.p) && decide (o = s.o)))) := by
  have v' := put_vd h
  rw [Bool.eq_iff_iff]
  simp only [Bool.or_eq_true, Bool.and_eq_true, decide_eq_true_eq]
  have i1 : sgn (putL ls s) t p o = true ↔ ∃ x ∈ putL ls s, eqS x ⟨t, p, o, 0⟩ := isAt_iff v'.so
  have i2 : sgn ls t p o = true ↔ ∃ x ∈ ls, eqS x ⟨t, p, o, 0⟩ := isAt_iff v.so
  rw [i1, i2]
  constructor
  · rintro ⟨x, hx, he⟩
    rcases put_mem hx with rfl | hx
    · right; obtain ⟨a, b, c⟩ := he; exact ⟨a.symm, b.symm, c.symm⟩
    · exact .inl ⟨x, hx, he⟩
  · rintro (⟨x, hx, he⟩ | ⟨rfl, rfl, rfl⟩)
    · unfold putL
      split
      · rename_i c
        have hz := sgn_lt c
        have hes := sgn_eq v.so c hz
        generalize posS ⟨s.t, s.p, s.o, 0⟩ ls = z at *
        obtain ⟨j, hj, rfl⟩ := List.getElem_of_mem hx
        by_cases e : z = j
        · subst e
          refine ⟨s, by rw [List.mem_iff_getElem]; exact ⟨z, by simpa using hz, by simp⟩, ?_⟩
          obtain ⟨a, b, c⟩ := he
          obtain ⟨a', b', c'⟩ := hes
          dsimp only at *
          exact ⟨a'.symm.trans a, b'.symm.trans b, c'.symm.trans c⟩
        · exact ⟨ls[j], by rw [List.mem_iff_getElem]; exact ⟨j, by simpa using hj, by rw [List.getElem_set_ne e]⟩, he⟩
      · refine ⟨x, ?_, he⟩
        unfold insS
        rw [← List.take_append_drop (posS ⟨s.t, s.p, s.o, 0⟩ ls) ls, List.mem_append] at hx
        rw [List.mem_append, List.mem_append]
        rcases hx with hx | hx
        · exact .inl hx
        · exact .inr (.inr hx)
    · refine ⟨s, ?_, rfl, rfl, rfl⟩
      unfold putL
      split
      · rename_i c
        have hz := sgn_lt c
        rw [List.mem_iff_getElem]
        exact ⟨posS ⟨s.t, s.p, s.o, 0⟩ ls, by simpa using hz, by simp⟩
      · unfold insS; simp
end Go.Proofs.Ytfocelelbcepnaa
end

section
set_option linter.unusedVariables false
set_option linter.unusedSimpArgs false
set_option maxHeartbeats 4000000
set_option maxRecDepth 20000
namespace Go.Proofs.Ytfocelelbcepnaa
open Go.Proofs.Ytfocelelbcepnaa.PM

theorem share {p q s : Int} (hp : has p s = true) (hq : has q s = true) (hne : p ≠ q) : prt p q = false := by
  have h1 := has_lt hp
  have h2 := has_lt hq
  have key : ∀ P Q : Fin 6, ∀ S : Fin 4, has (P : Nat) (S : Nat) = true → has (Q : Nat) (S : Nat) = true → P ≠ Q → prt (P : Nat) (Q : Nat) = false := by decide
  have := key ⟨p.toNat, by omega⟩ ⟨q.toNat, by omega⟩ ⟨s.toNat, by omega⟩
  dsimp only at this
  rw [Int.toNat_of_nonneg (by omega), Int.toNat_of_nonneg (by omega), Int.toNat_of_nonneg (by omega)] at this
  refine this hp hq (fun e => hne ?_)
  have := congrArg Fin.val e
  dsimp only at this
  omega
/-- The pieces that face a signal. -/
def Fac (r : Rl) (s : Sg) (T W z : Nat) : Prop := ∃ u q : Nat, z = 8 * u + q ∧ q < 6 ∧ lie r u q = true ∧ has q ((s.o + 2).tmod 4) = true ∧ ((s.o = 0 ∧ u = T + 1) ∨ (s.o = 1 ∧ u = T + W) ∨ (s.o = 2 ∧ u + 1 = T) ∨ (s.o = 3 ∧ u + W = T))
section
variable {r : Rl} {ls : List Sg} {s : Sg}
theorem fac_cn {ls' : List Sg} {T W z1 z2 : Nat} (g : Good r) (h1 : Fac r s T W z1) (h2 : Fac r s T W z2) : Cn (EE r ls') z1 z2 := by
  obtain ⟨u, q, rfl, hq6, hl, hh, hu⟩ := h1
  obtain ⟨u', q', rfl, hq6', hl', hh', hu'⟩ := h2
  have : u' = u := by omega
  subst this
  have hlt := lie_lt hl
  by_cases e : q = q'
  · subst e; exact .refl _
  · have hp := share hh hh' (by omega)
    have te : ∀ a b : Nat, b < a → a < 6 → lie r u' a = true → lie r u' b = true → prt a b = false → EE r ls' (8 * u' + a) (8 * u' + b) := by
      intro a b c1 c2 c3 c4 c5
      exact ⟨u', by omega, .inl ⟨a, b, by omega, c1, c2, c3, c4, c5, rfl, rfl⟩⟩
    rcases Nat.lt_or_gt_of_ne e with c | c
    · exact .one (.inr (te q' q c hq6' hl' hl (by rw [prt_comm]; exact hp)))
    · exact .one (.inl (te q q' c hq6 hl hl' hp))
theorem put_edge (h : putE r ls s = 0) (v : Vd r ls) {x y : Nat} : EE r (putL ls s) x y → EE r ls x y := by
  rintro ⟨t, ht, h1⟩
  have hs := put_sgn h v
  have no : ∀ {t p o : Int}, sgn (putL ls s) t p o = false → sgn ls t p o = false := fun {t p o} q => by
    rw [hs] at q
    exact (Bool.or_eq_false_iff.1 q).1
  refine ⟨t, ht, ?_⟩
  rcases h1 with h1 | ⟨c, p, q, a1, a2, a3, a4, a5, a6, a7, a8, a9, b1, b2⟩ | ⟨c, p, q, a1, a2, a3, a4, a5, a6, a7, a8, a9, b1, b2⟩
  · exact .inl h1
  · exact .inr (.inl ⟨c, p, q, a1, a2, a3, a4, a5, no a6, a7, a8, no a9, b1, b2⟩)
  · exact .inr (.inr ⟨c, p, q, a1, a2, a3, a4, a5, no a6, a7, a8, no a9, b1, b2⟩)
theorem put_cut (h : putE r ls s = 0) (v : Vd r ls) {T P W : Nat} (hT : s.t = T) (hP : s.p = P) (hW : r.w = W) {x y : Nat} (he : EE r ls x y) : EE r (putL ls s) x y ∨ (x = 8 * T + P ∧ Fac r s T W y) ∨ (y = 8 * T + P ∧ Fac r s T W x) := by
  have hs := put_sgn h v
  have hW1 : r.w.toNat = W := by rw [hW]; rfl
  have yes : ∀ {t p o : Int}, sgn ls t p o = false → ¬ (t = s.t ∧ p = s.p ∧ o = s.o) → sgn (putL ls s) t p o = false := fun {t p o} q c => by
    rw [hs, q, Bool.false_or]
    cases d : (decide (t = s.t) && (decide (p = s.p) && decide (o = s.o)))
    · rfl
    · simp only [Bool.and_eq_true, decide_eq_true_eq] at d
      exact absurd d c
  obtain ⟨t, ht, h1⟩ := he
  rcases h1 with h1 | ⟨c, p, q, a1, a2, a3, a4, a5, a6, a7, a8, a9, b1, b2⟩ | ⟨c, p, q, a1, a2, a3, a4, a5, a6, a7, a8, a9, b1, b2⟩
  · exact .inl ⟨t, ht, .inl h1⟩
  · by_cases c1 : (t : Int) = s.t ∧ (p : Int) = s.p ∧ (0 : Int) = s.o
    · refine .inr (.inl ⟨by omega, t + 1, q, b2, a3, a7, ?_, .inl ⟨c1.2.2.symm, by omega⟩⟩)
      rw [← c1.2.2]; exact a8
    · by_cases c2 : ((t + 1 : Nat) : Int) = s.t ∧ (q : Int) = s.p ∧ (0 + 2 : Int) = s.o
      · refine .inr (.inr ⟨by omega, t, p, b1, a2, a4, ?_, .inr (.inr (.inl ⟨c2.2.2.symm, by omega⟩))⟩)
        rw [← c2.2.2]; exact a5
      · exact .inl ⟨t, ht, .inr (.inl ⟨c, p, q, a1, a2, a3, a4, a5, yes a6 c1, a7, a8, yes a9 c2, b1, b2⟩)⟩
  · by_cases c1 : (t : Int) = s.t ∧ (p : Int) = s.p ∧ (1 : Int) = s.o
    · refine .inr (.inl ⟨by omega, t + r.w.toNat, q, b2, a3, a7, ?_, .inr (.inl ⟨c1.2.2.symm, by omega⟩)⟩)
      rw [← c1.2.2]; exact a8
    · by_cases c2 : ((t + r.w.toNat : Nat) : Int) = s.t ∧ (q : Int) = s.p ∧ (1 + 2 : Int) = s.o
      · refine .inr (.inr ⟨by omega, t, p, b1, a2, a4, ?_, .inr (.inr (.inr ⟨c2.2.2.symm, by omega⟩))⟩)
        rw [← c2.2.2]; exact a5
      · exact .inl ⟨t, ht, .inr (.inr ⟨c, p, q, a1, a2, a3, a4, a5, yes a6 c1, a7, a8, yes a9 c2, b1, b2⟩)⟩
theorem put_one (h : putE r ls s = 0) (v : Vd r ls) : ∃ a q, ∀ x y, EE r ls x y → Cn (fun u v => EE r (putL ls s) u v ∨ (u = a ∧ v = q)) x y := by
  have v' := put_vd h
  have hm : s ∈ putL ls s := by
    unfold putL
    split
    · rename_i c
      have hz := sgn_lt c
      rw [List.mem_iff_getElem]
      exact ⟨posS ⟨s.t, s.p, s.o, 0⟩ ls, by simpa using hz, by simp⟩
    · unfold insS; simp
  have hl := lie_lt (v'.ly s hm)
  obtain ⟨T, hT⟩ : ∃ T : Nat, s.t = T := ⟨s.t.toNat, by omega⟩
  obtain ⟨P, hP⟩ : ∃ P : Nat, s.p = P := ⟨s.p.toNat, by omega⟩
  obtain ⟨W, hW⟩ : ∃ W : Nat, r.w = W := ⟨r.w.toNat, by have := v.g.w0; omega⟩
  have up : ∀ {a q x y : Nat}, Cn (EE r (putL ls s)) x y → Cn (fun u v => EE r (putL ls s) u v ∨ (u = a ∧ v = q)) x y := fun c => c.mono fun _ _ => .inl
  by_cases hz : ∃ z, Fac r s T W z
  · obtain ⟨z, hz⟩ := hz
    refine ⟨8 * T + P, z, fun x y he => ?_⟩
    have ed : Cn (fun u v => EE r (putL ls s) u v ∨ (u = 8 * T + P ∧ v = z)) (8 * T + P) z := .one (.inl (.inr ⟨rfl, rfl⟩))
    rcases put_cut h v hT hP hW he with c | ⟨rfl, c⟩ | ⟨rfl, c⟩
    · exact .one (.inl (.inl c))
    · exact ed.trans (up (fac_cn v.g hz c))
    · exact (up (fac_cn v.g c hz)).trans ed.symm
  · refine ⟨8 * T + P, 8 * T + P, fun x y he => ?_⟩
    rcases put_cut h v hT hP hW he with c | ⟨_, c⟩ | ⟨_, c⟩
    · exact .one (.inl (.inl c))
    · exact absurd ⟨_, c⟩ hz
    · exact absurd ⟨_, c⟩ hz
/-- As many blocks, or one more. -/
theorem put_blks (h : putE r ls s = 0) (v : Vd r ls) : (blks r ls).length ≤ (blks r (putL ls s)).length ∧ (blks r (putL ls s)).length ≤ (blks r ls).length + 1 := by
  have v' := put_vd h
  have n1 := nums_is v
  have n2 := nums_is v'
  have l1 := num_len v
  have l2 := num_len v'
  obtain ⟨a, q, ho⟩ := put_one h v
  unfold blks
  rw [prt8_count, prt8_count, l1, l2]
  have hd : ∀ {i : Nat}, i < 8 * r.s.length → lie r ((i : Int) / 8) ((i : Int) % 8) = true → ∃ m m' : Nat, (numL r ls).getD i 0 = m ∧ IsNum (EE r ls) i m ∧ (numL r (putL ls s)).getD i 0 = m' ∧ IsNum (EE r (putL ls s)) i m' := fun {i} hi c => by
    obtain ⟨m, h1, h2⟩ := n1.on i (by omega) c
    obtain ⟨m', h3, h4⟩ := n2.on i (by omega) c
    exact ⟨m, m', by simp [h1], h2, by simp [h3], h4⟩
  have ho0 : ∀ {i : Nat} {l : List Sg} (w : Vd r l), i < 8 * r.s.length → (numL r l).getD i 0 = (i : Int) → lie r ((i : Int) / 8) ((i : Int) % 8) = true := fun {i l} w hi e => by
    cases c : lie r ((i : Int) / 8) ((i : Int) % 8)
    · have hlw := num_len w
      have := (nums_is w).off i (by omega) c
      rw [List.getD_eq_getElem?_getD, this] at e
      simp at e
    · rfl
  refine countP_one List.nodup_range (fun i hi hp => ?_) (fun i hi j hj qi pi qj pj => ?_)
  · rw [List.mem_range] at hi
    rw [decide_eq_true_eq] at hp ⊢
    obtain ⟨m, m', e1, e2, e3, e4⟩ := hd hi (ho0 v hi hp)
    have hmi : m = i := by omega
    subst hmi
    have : m' = m := by
      have c1 := e2.2 m' (e4.1.mono fun _ _ => put_edge h v)
      have c2 := e4.2 m (.refl _)
      omega
    omega
  · rw [List.mem_range] at hi hj
    rw [decide_eq_true_eq] at qi qj
    rw [decide_eq_false_iff_not] at pi pj
    obtain ⟨m, m', e1, e2, e3, e4⟩ := hd hi (ho0 v' hi qi)
    obtain ⟨n, n', f1, f2, f3, f4⟩ := hd hj (ho0 v' hj qj)
    have hm' : m' = i := by omega
    have hn' : n' = j := by omega
    subst hm' hn'
    exact lost_one ho e4 f4 e2 f2 (by omega) (by omega)
/-- What is in one block with it is in one without it. -/
theorem put_same (h : putE r ls s = 0) (v : Vd r ls) {i j : Nat} (hi : i < 8 * r.s.length) (hj : j < 8 * r.s.length) {n : Int} (h0 : 0 ≤ n) (e1 : (numL r (putL ls s)).getD i 0 = n) (e2 : (numL r (putL ls s)).getD j 0 = n) : (numL r ls).getD i 0 = (numL r ls).getD j 0 ∧ 0 ≤ (numL r ls).getD i 0 := by
  have v' := put_vd h
  have n1 := nums_is v
  have n2 := nums_is v'
  have l1 := num_len v
  have l2 := num_len v'
  have lies : ∀ {i : Nat}, i < 8 * r.s.length → (numL r (putL ls s)).getD i 0 = n → lie r ((i : Int) / 8) ((i : Int) % 8) = true := fun {i} hi e => by
    cases c : lie r ((i : Int) / 8) ((i : Int) % 8)
    · have := n2.off i (by omega) c
      rw [List.getD_eq_getElem?_getD, this] at e
      simp at e; omega
    · rfl
  obtain ⟨a, g1, g2⟩ := n2.on i (by omega) (lies hi e1)
  obtain ⟨b, g3, g4⟩ := n2.on j (by omega) (lies hj e2)
  obtain ⟨c, g5, g6⟩ := n1.on i (by omega) (lies hi e1)
  obtain ⟨d, g7, g8⟩ := n1.on j (by omega) (lies hj e2)
  rw [List.getD_eq_getElem?_getD, g1] at e1
  rw [List.getD_eq_getElem?_getD, g3] at e2
  simp only [Option.getD_some] at e1 e2
  have hab : a = b := by omega
  subst hab
  have hc : Cn (EE r ls) i j := (g2.1.trans g4.1.symm).mono fun _ _ => put_edge h v
  have : c = d := (g6.of_cn hc).uniq g8
  subst this
  rw [List.getD_eq_getElem?_getD, List.getD_eq_getElem?_getD, g5, g7]
  simp
end
end Go.Proofs.Ytfocelelbcepnaa
end
