/- Blocks: a signal more splits at most one block: the plain law. -/
import Derived.Test.YtfocelelbcepnaaBlockPut
import Derived.Test.YtfocelelbcepnaaBlockWhole
set_option linter.unusedVariables false
set_option linter.unusedSimpArgs false
set_option maxHeartbeats 4000000
set_option maxRecDepth 20000
namespace Go.Proofs.Ytfocelelbcepnaa
open Go.Proofs.Ytfocelelbcepnaa.PM

/-! ### What hangs together with an edge more -/
theorem cn_more {E : Nat → Nat → Prop} {a q : Nat} {x y : Nat} (h : Cn (fun u v => E u v ∨ (u = a ∧ v = q)) x y) : Cn E x y ∨ (Cn E x a ∧ Cn E q y) ∨ (Cn E x q ∧ Cn E a y) := by
  induction h with
  | refl => exact .inl (.refl _)
  | @step j k _ e ih =>
    rcases e with (e | ⟨rfl, rfl⟩) | (e | ⟨rfl, rfl⟩)
    · rcases ih with h | ⟨h1, h2⟩ | ⟨h1, h2⟩
      · exact .inl (h.step (.inl e))
      · exact .inr (.inl ⟨h1, h2.step (.inl e)⟩)
      · exact .inr (.inr ⟨h1, h2.step (.inl e)⟩)
    · rcases ih with h | ⟨h1, h2⟩ | ⟨h1, h2⟩
      · exact .inr (.inl ⟨h, .refl _⟩)
      · exact .inr (.inl ⟨h1, .refl _⟩)
      · exact .inl h1
    · rcases ih with h | ⟨h1, h2⟩ | ⟨h1, h2⟩
      · exact .inl (h.step (.inr e))
      · exact .inr (.inl ⟨h1, h2.step (.inr e)⟩)
      · exact .inr (.inr ⟨h1, h2.step (.inr e)⟩)
    · rcases ih with h | ⟨h1, h2⟩ | ⟨h1, h2⟩
      · exact .inr (.inr ⟨h, .refl _⟩)
      · exact .inl h1
      · exact .inr (.inr ⟨h1, .refl _⟩)
theorem cn_lift {E E' : Nat → Nat → Prop} (h : ∀ x y, E x y → Cn E' x y) {x y : Nat} (c : Cn E x y) : Cn E' x y := by
  induction c with
  | refl => exact .refl _
  | step _ e ih => exact e.elim (fun e => ih.trans (h _ _ e)) (fun e => ih.trans (h _ _ e).symm)
/-- A piece that is the first of its class with the edge less but not with it. -/
theorem lost_one {E E' : Nat → Nat → Prop} {a q : Nat} (h : ∀ x y, E x y → Cn (fun u v => E' u v ∨ (u = a ∧ v = q)) x y) {i j m n : Nat} (hi : IsNum E' i i) (hj : IsNum E' j j) (hm : IsNum E i m) (hn : IsNum E j n) (him : m ≠ i) (hjn : n ≠ j) : i = j := by
  have key : ∀ {i m : Nat}, IsNum E' i i → IsNum E i m → m ≠ i → (∃ k, Cn E' i a ∧ Cn E' q k ∧ k < i) ∨ (∃ k, Cn E' i q ∧ Cn E' a k ∧ k < i) := by
    intro i m hi hm him
    have hmi : m < i := by have := hm.2 i (.refl _); omega
    rcases cn_more (cn_lift h hm.1) with c | ⟨c1, c2⟩ | ⟨c1, c2⟩
    · have := hi.2 _ c; omega
    · exact .inl ⟨m, c1, c2, hmi⟩
    · exact .inr ⟨m, c1, c2, hmi⟩
  have eq : ∀ {z : Nat}, Cn E' i z → Cn E' j z → i = j := fun h1 h2 => by
    have c := h1.trans h2.symm
    have := hi.2 _ c
    have := hj.2 _ c.symm
    omega
  rcases key hi hm him with ⟨k, c1, c2, c3⟩ | ⟨k, c1, c2, c3⟩ <;> rcases key hj hn hjn with ⟨l, d1, d2, d3⟩ | ⟨l, d1, d2, d3⟩
  · exact eq c1 d1
  · have h1 := hj.2 k (d1.trans c2)
    have h2 := hi.2 l (c1.trans d2)
    omega
  · have h1 := hj.2 k (d1.trans c2)
    have h2 := hi.2 l (c1.trans d2)
    omega
  · exact eq c1 d1
theorem countP_one {α : Type} {p q : α → Bool} : ∀ {l : List α}, l.Nodup → (∀ x ∈ l, p x = true → q x = true) → (∀ x ∈ l, ∀ y ∈ l, q x = true → p x = false → q y = true → p y = false → x = y) → l.countP p ≤ l.countP q ∧ l.countP q ≤ l.countP p + 1
  | [], _, _, _ => by simp
  | x :: l, hn, h1, h2 => by
    rw [List.nodup_cons] at hn
    obtain ⟨i1, i2⟩ := countP_one (l := l) hn.2 (fun y hy => h1 y (List.mem_cons_of_mem _ hy)) (fun y hy z hz => h2 y (List.mem_cons_of_mem _ hy) z (List.mem_cons_of_mem _ hz))
    simp only [List.countP_cons]
    cases px : p x
    · cases qx : q x
      · simp; omega
      · have e : l.countP q = l.countP p := by
          refine List.countP_congr fun y hy => ⟨fun qy => ?_, fun py => h1 y (List.mem_cons_of_mem _ hy) py⟩
          cases py : p y
          · exact absurd (h2 x (by simp) y (List.mem_cons_of_mem _ hy) qx px qy py) (fun e => hn.1 (e ▸ hy))
          · rfl
        simp; omega
    · rw [h1 x (by simp) px]
      simp; omega
theorem prt8_count (of : List Int) : ∀ k, (prt8 of k).length = (List.range k).countP fun i => decide (of.getD i 0 = (i : Int))
  | 0 => rfl
  | k + 1 => by
    have ih := prt8_count of k
    rw [prt8_succ, List.range_succ, List.countP_append, ← ih, List.countP_cons, List.countP_nil]
    unfold addP
    by_cases h0 : of.getD k 0 < 0
    · rw [if_pos h0, decide_eq_false (by omega)]; simp
    · rw [if_neg h0]
      by_cases h1 : of.getD k 0 = (k : Int)
      · rw [if_pos h1, decide_eq_true h1]; simp
      · rw [if_neg h1, decide_eq_false h1]; simp
/-! ### What putting does to signals -/
theorem put_mem {ls : List Sg} {s x : Sg} (h : x ∈ putL ls s) : x = s ∨ x ∈ ls := by
  unfold putL at h
  split at h
  · rcases List.mem_or_eq_of_mem_set h with h | h
    · exact .inr h
    · exact .inl h
  · unfold insS at h
    rw [List.mem_append, List.mem_append, List.mem_singleton] at h
    rcases h with h | h | h
    · exact .inr (List.mem_of_mem_take h)
    · exact .inl h
    · exact .inr (List.mem_of_mem_drop h)
theorem eqS_lt {a b c : Sg} (h : eqS a b) : (ltS a c ↔ ltS b c) ∧ (ltS c a ↔ ltS c b) := by
  obtain ⟨h1, h2, h3⟩ := h
  unfold ltS
  rw [h1, h2, h3]
  exact ⟨Iff.rfl, Iff.rfl⟩
theorem put_vd {r : Rl} {ls : List Sg} {s : Sg} (h : putE r ls s = 0) : Vd r (putL ls s) := by
  have h0 : valErr r ls = 0 := by
    unfold putE at h
    split at h
    · assumption
    · exact h
  have v := vd_of h0
  rw [putE, if_pos h0] at h
  split at h
  · cases h
  rename_i hk
  split at h
  · cases h
  rename_i hb
  split at h
  · cases h
  rename_i hl
  have hb1 : lie r s.t s.p = true := by
    cases c : lie r s.t s.p
    · exact absurd (.inl c) hb
    · rfl
  have hb2 : has s.p s.o = true := by
    cases c : has s.p s.o
    · exact absurd (.inr c) hb
    · rfl
  have so : (putL ls s).Pairwise ltS := by
    have hs := v.so
    unfold putL
    split
    · rename_i c
      have hz := sgn_lt c
      have he := sgn_eq hs c hz
      generalize posS ⟨s.t, s.p, s.o, 0⟩ ls = z at *
      have he' : eqS ls[z] s := he
      rw [List.pairwise_iff_getElem] at hs ⊢
      intro i j hi hj hij
      simp only [List.length_set] at hi hj
      rw [List.getElem_set, List.getElem_set]
      have hh := hs i j hi hj hij
      split
      · rename_i e1
        subst e1
        rw [if_neg (by omega)]
        exact (eqS_lt he').1.1 hh
      · split
        · rename_i e2
          subst e2
          exact (eqS_lt he').2.1 hh
        · exact hh
    · rename_i c
      have hp : ∀ j (hj : j < ls.length), j < posS ⟨s.t, s.p, s.o, 0⟩ ls → ltS ls[j] s := fun j hj h => posS_lt (l := ⟨s.t, s.p, s.o, 0⟩) hj h
      have hq : ∀ j (hj : j < ls.length), posS ⟨s.t, s.p, s.o, 0⟩ ls ≤ j → ltS s ls[j] := fun j hj h => by
        have h1 := posS_ge hs (l := ⟨s.t, s.p, s.o, 0⟩) hj h
        have h2 : ¬ eqS ls[j] ⟨s.t, s.p, s.o, 0⟩ := fun q => c ((isAt_iff hs).2 ⟨ls[j], List.getElem_mem hj, q⟩)
        unfold ltS eqS at *
        dsimp only at *
        omega
      have hle := posS_le ⟨s.t, s.p, s.o, 0⟩ ls
      generalize posS ⟨s.t, s.p, s.o, 0⟩ ls = z at *
      unfold insS
      rw [List.pairwise_append]
      refine ⟨hs.sublist (List.take_sublist _ _), ?_, ?_⟩
      · rw [List.singleton_append, List.pairwise_cons]
        refine ⟨fun x hx => ?_, hs.sublist (List.drop_sublist _ _)⟩
        obtain ⟨j, hj, rfl⟩ := List.getElem_of_mem hx
        rw [List.getElem_drop]
        exact hq _ (by rw [List.length_drop] at hj; omega) (by omega)
      · intro x hx y hy
        obtain ⟨j, hj, rfl⟩ := List.getElem_of_mem hx
        rw [List.length_take] at hj
        rw [List.getElem_take]
        have h1 := hp j (by omega) (by omega)
        rw [List.mem_append, List.mem_singleton] at hy
        rcases hy with rfl | hy
        · exact h1
        · obtain ⟨l, hl', rfl⟩ := List.getElem_of_mem hy
          rw [List.length_drop] at hl'
          rw [List.getElem_drop]
          exact ltS_trans h1 (hq _ (by omega) (by omega))
  refine ⟨v.g, so, ?_, fun x hx => ?_, fun x hx => ?_, fun x hx => ?_⟩
  · have := v.le
    unfold putL
    split
    · simp; omega
    · rename_i c
      have c' : sgn ls s.t s.p s.o = false := by simpa using c
      rw [insS_len _ _ _ (posS_le _ _)]
      apply Nat.le_of_not_lt
      intro q
      exact hl ⟨c', by omega⟩
  · rcases put_mem hx with rfl | hx
    · omega
    · exact v.kd x hx
  · rcases put_mem hx with rfl | hx
    · exact hb1
    · exact v.ly x hx
  · rcases put_mem hx with rfl | hx
    · exact hb2
    · exact v.hs x hx
theorem val_of_vd {r : Rl} {ls : List Sg} (v : Vd r ls) (h0 : railErr r = 0) : valErr r ls = 0 := by
  have h1 : anyN (badK ls) 0 ls.length = false := anyN_f fun i _ hi => by
    have hk := v.kd ls[i] (List.getElem_mem hi)
    simp only [badK, List.getElem?_eq_getElem hi]
    by_cases i0 : 0 < i
    · have him : i - 1 < ls.length := by omega
      have hs := v.so
      rw [List.pairwise_iff_getElem] at hs
      have := hs (i - 1) i him hi (by omega)
      simp only [List.getElem?_eq_getElem him, this]
      simp; omega
    · simp; omega
  have h2 : anyN (badP r ls) 0 ls.length = false := anyN_f fun i _ hi => by
    simp only [badP, List.getElem?_eq_getElem hi, v.ly _ (List.getElem_mem hi), v.hs _ (List.getElem_mem hi)]
    rfl
  have := v.le
  rw [valErr, if_pos h0, if_neg (by rw [h1]; simp; omega), if_neg (by rw [h2]; simp)]
theorem put_sgn {r : Rl} {ls : List Sg} {s : Sg} (h : putE r ls s = 0) (v : Vd r ls) (t p o : Int) : sgn (putL ls s) t p o = (sgn ls t p o || (decide (t = s.t) && (decide (p = s.p) && decide (o = s.o)))) := by
  have v' := put_vd h
  rw [Bool.eq_iff_iff]
  simp only [Bool.or_eq_true, Bool.and_eq_true, decide_eq_true_eq]
  have i1 : sgn (putL ls s) t p o = true ↔ ∃ x ∈ putL ls s, eqS x ⟨t, p, o, 0⟩ := isAt_iff v'.so
  have i2 : sgn ls t p o = true ↔ ∃ x ∈ ls, eqS x ⟨t, p, o, 0⟩ := isAt_iff v.so
  rw [i1, i2]
  constructor
  · rintro ⟨x, hx, he⟩
    rcases put_mem hx with rfl | hx
    · right; obtain ⟨a, b, c⟩ := he; exact ⟨a.symm, b.symm, c.symm⟩
    · exact .inl ⟨x, hx, he⟩
  · rintro (⟨x, hx, he⟩ | ⟨rfl, rfl, rfl⟩)
    · unfold putL
      split
      · rename_i c
        have hz := sgn_lt c
        have hes := sgn_eq v.so c hz
        generalize posS ⟨s.t, s.p, s.o, 0⟩ ls = z at *
        obtain ⟨j, hj, rfl⟩ := List.getElem_of_mem hx
        by_cases e : z = j
        · subst e
          refine ⟨s, by rw [List.mem_iff_getElem]; exact ⟨z, by simpa using hz, by simp⟩, ?_⟩
          obtain ⟨a, b, c⟩ := he
          obtain ⟨a', b', c'⟩ := hes
          dsimp only at *
          exact ⟨a'.symm.trans a, b'.symm.trans b, c'.symm.trans c⟩
        · exact ⟨ls[j], by rw [List.mem_iff_getElem]; exact ⟨j, by simpa using hj, by rw [List.getElem_set_ne e]⟩, he⟩
      · refine ⟨x, ?_, he⟩
        unfold insS
        rw [← List.take_append_drop (posS ⟨s.t, s.p, s.o, 0⟩ ls) ls, List.mem_append] at hx
        rw [List.mem_append, List.mem_append]
        rcases hx with hx | hx
        · exact .inl hx
        · exact .inr (.inr hx)
    · refine ⟨s, ?_, rfl, rfl, rfl⟩
      unfold putL
      split
      · rename_i c
        have hz := sgn_lt c
        rw [List.mem_iff_getElem]
        exact ⟨posS ⟨s.t, s.p, s.o, 0⟩ ls, by simpa using hz, by simp⟩
      · unfold insS; simp
end Go.Proofs.Ytfocelelbcepnaa
