/- Blocks: a signal more splits at most one block: what is cut. -/
import Derived.Test.YtfocelelbcepnaaBlockSplit
set_option linter.unusedVariables false
set_option linter.unusedSimpArgs false
set_option maxHeartbeats 4000000
set_option maxRecDepth 20000
namespace Go.Proofs.Ytfocelelbcepnaa
open Go.Proofs.Ytfocelelbcepnaa.PM

theorem share {p q s : Int} (hp : has p s = true) (hq : has q s = true) (hne : p ≠ q) : prt p q = false := by
  have h1 := has_lt hp
  have h2 := has_lt hq
  have key : ∀ P Q : Fin 6, ∀ S : Fin 4, has (P : Nat) (S : Nat) = true → has (Q : Nat) (S : Nat) = true → P ≠ Q → prt (P : Nat) (Q : Nat) = false := by decide
  have := key ⟨p.toNat, by omega⟩ ⟨q.toNat, by omega⟩ ⟨s.toNat, by omega⟩
  dsimp only at this
  rw [Int.toNat_of_nonneg (by omega), Int.toNat_of_nonneg (by omega), Int.toNat_of_nonneg (by omega)] at this
  refine this hp hq (fun e => hne ?_)
  have := congrArg Fin.val e
  dsimp only at this
  omega
/-- The pieces that face a signal. -/
def Fac (r : Rl) (s : Sg) (T W z : Nat) : Prop := ∃ u q : Nat, z = 8 * u + q ∧ q < 6 ∧ lie r u q = true ∧ has q ((s.o + 2).tmod 4) = true ∧ ((s.o = 0 ∧ u = T + 1) ∨ (s.o = 1 ∧ u = T + W) ∨ (s.o = 2 ∧ u + 1 = T) ∨ (s.o = 3 ∧ u + W = T))
section
variable {r : Rl} {ls : List Sg} {s : Sg}
theorem fac_cn {ls' : List Sg} {T W z1 z2 : Nat} (g : Good r) (h1 : Fac r s T W z1) (h2 : Fac r s T W z2) : Cn (EE r ls') z1 z2 := by
  obtain ⟨u, q, rfl, hq6, hl, hh, hu⟩ := h1
  obtain ⟨u', q', rfl, hq6', hl', hh', hu'⟩ := h2
  have : u' = u := by omega
  subst this
  have hlt := lie_lt hl
  by_cases e : q = q'
  · subst e; exact .refl _
  · have hp := share hh hh' (by omega)
    have te : ∀ a b : Nat, b < a → a < 6 → lie r u' a = true → lie r u' b = true → prt a b = false → EE r ls' (8 * u' + a) (8 * u' + b) := by
      intro a b c1 c2 c3 c4 c5
      exact ⟨u', by omega, .inl ⟨a, b, by omega, c1, c2, c3, c4, c5, rfl, rfl⟩⟩
    rcases Nat.lt_or_gt_of_ne e with c | c
    · exact .one (.inr (te q' q c hq6' hl' hl (by rw [prt_comm]; exact hp)))
    · exact .one (.inl (te q q' c hq6 hl hl' hp))
theorem put_edge (h : putE r ls s = 0) (v : Vd r ls) {x y : Nat} : EE r (putL ls s) x y → EE r ls x y := by
  rintro ⟨t, ht, h1⟩
  have hs := put_sgn h v
  have no : ∀ {t p o : Int}, sgn (putL ls s) t p o = false → sgn ls t p o = false := fun {t p o} q => by
    rw [hs] at q
    exact (Bool.or_eq_false_iff.1 q).1
  refine ⟨t, ht, ?_⟩
  rcases h1 with h1 | ⟨c, p, q, a1, a2, a3, a4, a5, a6, a7, a8, a9, b1, b2⟩ | ⟨c, p, q, a1, a2, a3, a4, a5, a6, a7, a8, a9, b1, b2⟩
  · exact .inl h1
  · exact .inr (.inl ⟨c, p, q, a1, a2, a3, a4, a5, no a6, a7, a8, no a9, b1, b2⟩)
  · exact .inr (.inr ⟨c, p, q, a1, a2, a3, a4, a5, no a6, a7, a8, no a9, b1, b2⟩)
theorem put_cut (h : putE r ls s = 0) (v : Vd r ls) {T P W : Nat} (hT : s.t = T) (hP : s.p = P) (hW : r.w = W) {x y : Nat} (he : EE r ls x y) : EE r (putL ls s) x y ∨ (x = 8 * T + P ∧ Fac r s T W y) ∨ (y = 8 * T + P ∧ Fac r s T W x) := by
  have hs := put_sgn h v
  have hW1 : r.w.toNat = W := by rw [hW]; rfl
  have yes : ∀ {t p o : Int}, sgn ls t p o = false → ¬ (t = s.t ∧ p = s.p ∧ o = s.o) → sgn (putL ls s) t p o = false := fun {t p o} q c => by
    rw [hs, q, Bool.false_or]
    cases d : (decide (t = s.t) && (decide (p = s.p) && decide (o = s.o)))
    · rfl
    · simp only [Bool.and_eq_true, decide_eq_true_eq] at d
      exact absurd d c
  obtain ⟨t, ht, h1⟩ := he
  rcases h1 with h1 | ⟨c, p, q, a1, a2, a3, a4, a5, a6, a7, a8, a9, b1, b2⟩ | ⟨c, p, q, a1, a2, a3, a4, a5, a6, a7, a8, a9, b1, b2⟩
  · exact .inl ⟨t, ht, .inl h1⟩
  · by_cases c1 : (t : Int) = s.t ∧ (p : Int) = s.p ∧ (0 : Int) = s.o
    · refine .inr (.inl ⟨by omega, t + 1, q, b2, a3, a7, ?_, .inl ⟨c1.2.2.symm, by omega⟩⟩)
      rw [← c1.2.2]; exact a8
    · by_cases c2 : ((t + 1 : Nat) : Int) = s.t ∧ (q : Int) = s.p ∧ (0 + 2 : Int) = s.o
      · refine .inr (.inr ⟨by omega, t, p, b1, a2, a4, ?_, .inr (.inr (.inl ⟨c2.2.2.symm, by omega⟩))⟩)
        rw [← c2.2.2]; exact a5
      · exact .inl ⟨t, ht, .inr (.inl ⟨c, p, q, a1, a2, a3, a4, a5, yes a6 c1, a7, a8, yes a9 c2, b1, b2⟩)⟩
  · by_cases c1 : (t : Int) = s.t ∧ (p : Int) = s.p ∧ (1 : Int) = s.o
    · refine .inr (.inl ⟨by omega, t + r.w.toNat, q, b2, a3, a7, ?_, .inr (.inl ⟨c1.2.2.symm, by omega⟩)⟩)
      rw [← c1.2.2]; exact a8
    · by_cases c2 : ((t + r.w.toNat : Nat) : Int) = s.t ∧ (q : Int) = s.p ∧ (1 + 2 : Int) = s.o
      · refine .inr (.inr ⟨by omega, t, p, b1, a2, a4, ?_, .inr (.inr (.inr ⟨c2.2.2.symm, by omega⟩))⟩)
        rw [← c2.2.2]; exact a5
      · exact .inl ⟨t, ht, .inr (.inr ⟨c, p, q, a1, a2, a3, a4, a5, yes a6 c1, a7, a8, yes a9 c2, b1, b2⟩)⟩
theorem put_one (h : putE r ls s = 0) (v : Vd r ls) : ∃ a q, ∀ x y, EE r ls x y → Cn (fun u v => EE r (putL ls s) u v ∨ (u = a ∧ v = q)) x y := by
  have v' := put_vd h
  have hm : s ∈ putL ls s := by
    unfold putL
    split
    · rename_i c
      have hz := sgn_lt c
      rw [List.mem_iff_getElem]
      exact ⟨posS ⟨s.t, s.p, s.o, 0⟩ ls, by simpa using hz, by simp⟩
    · unfold insS; simp
  have hl := lie_lt (v'.ly s hm)
  obtain ⟨T, hT⟩ : ∃ T : Nat, s.t = T := ⟨s.t.toNat, by omega⟩
  obtain ⟨P, hP⟩ : ∃ P : Nat, s.p = P := ⟨s.p.toNat, by omega⟩
  obtain ⟨W, hW⟩ : ∃ W : Nat, r.w = W := ⟨r.w.toNat, by have := v.g.w0; omega⟩
  have up : ∀ {a q x y : Nat}, Cn (EE r (putL ls s)) x y → Cn (fun u v => EE r (putL ls s) u v ∨ (u = a ∧ v = q)) x y := fun c => c.mono fun _ _ => .inl
  by_cases hz : ∃ z, Fac r s T W z
  · obtain ⟨z, hz⟩ := hz
    refine ⟨8 * T + P, z, fun x y he => ?_⟩
    have ed : Cn (fun u v => EE r (putL ls s) u v ∨ (u = 8 * T + P ∧ v = z)) (8 * T + P) z := .one (.inl (.inr ⟨rfl, rfl⟩))
    rcases put_cut h v hT hP hW he with c | ⟨rfl, c⟩ | ⟨rfl, c⟩
    · exact .one (.inl (.inl c))
    · exact ed.trans (up (fac_cn v.g hz c))
    · exact (up (fac_cn v.g c hz)).trans ed.symm
  · refine ⟨8 * T + P, 8 * T + P, fun x y he => ?_⟩
    rcases put_cut h v hT hP hW he with c | ⟨_, c⟩ | ⟨_, c⟩
    · exact .one (.inl (.inl c))
    · exact absurd ⟨_, c⟩ hz
    · exact absurd ⟨_, c⟩ hz
/-- As many blocks, or one more. -/
theorem put_blks (h : putE r ls s = 0) (v : Vd r ls) : (blks r ls).length ≤ (blks r (putL ls s)).length ∧ (blks r (putL ls s)).length ≤ (blks r ls).length + 1 := by
  have v' := put_vd h
  have n1 := nums_is v
  have n2 := nums_is v'
  have l1 := num_len v
  have l2 := num_len v'
  obtain ⟨a, q, ho⟩ := put_one h v
  unfold blks
  rw [prt8_count, prt8_count, l1, l2]
  have hd : ∀ {i : Nat}, i < 8 * r.s.length → lie r ((i : Int) / 8) ((i : Int) % 8) = true → ∃ m m' : Nat, (numL r ls).getD i 0 = m ∧ IsNum (EE r ls) i m ∧ (numL r (putL ls s)).getD i 0 = m' ∧ IsNum (EE r (putL ls s)) i m' := fun {i} hi c => by
    obtain ⟨m, h1, h2⟩ := n1.on i (by omega) c
    obtain ⟨m', h3, h4⟩ := n2.on i (by omega) c
    exact ⟨m, m', by simp [h1], h2, by simp [h3], h4⟩
  have ho0 : ∀ {i : Nat} {l : List Sg} (w : Vd r l), i < 8 * r.s.length → (numL r l).getD i 0 = (i : Int) → lie r ((i : Int) / 8) ((i : Int) % 8) = true := fun {i l} w hi e => by
    cases c : lie r ((i : Int) / 8) ((i : Int) % 8)
    · have hlw := num_len w
      have := (nums_is w).off i (by omega) c
      rw [List.getD_eq_getElem?_getD, this] at e
      simp at e
    · rfl
  refine countP_one List.nodup_range (fun i hi hp => ?_) (fun i hi j hj qi pi qj pj => ?_)
  · rw [List.mem_range] at hi
    rw [decide_eq_true_eq] at hp ⊢
    obtain ⟨m, m', e1, e2, e3, e4⟩ := hd hi (ho0 v hi hp)
    have hmi : m = i := by omega
    subst hmi
    have : m' = m := by
      have c1 := e2.2 m' (e4.1.mono fun _ _ => put_edge h v)
      have c2 := e4.2 m (.refl _)
      omega
    omega
  · rw [List.mem_range] at hi hj
    rw [decide_eq_true_eq] at qi qj
    rw [decide_eq_false_iff_not] at pi pj
    obtain ⟨m, m', e1, e2, e3, e4⟩ := hd hi (ho0 v' hi qi)
    obtain ⟨n, n', f1, f2, f3, f4⟩ := hd hj (ho0 v' hj qj)
    have hm' : m' = i := by omega
    have hn' : n' = j := by omega
    subst hm' hn'
    exact lost_one ho e4 f4 e2 f2 (by omega) (by omega)
/-- What is in one block with it is in one without it. -/
theorem put_same (h : putE r ls s = 0) (v : Vd r ls) {i j : Nat} (hi : i < 8 * r.s.length) (hj : j < 8 * r.s.length) {n : Int} (h0 : 0 ≤ n) (e1 : (numL r (putL ls s)).getD i 0 = n) (e2 : (numL r (putL ls s)).getD j 0 = n) : (numL r ls).getD i 0 = (numL r ls).getD j 0 ∧ 0 ≤ (numL r ls).getD i 0 := by
  have v' := put_vd h
  have n1 := nums_is v
  have n2 := nums_is v'
  have l1 := num_len v
  have l2 := num_len v'
  have lies : ∀ {i : Nat}, i < 8 * r.s.length → (numL r (putL ls s)).getD i 0 = n → lie r ((i : Int) / 8) ((i : Int) % 8) = true := fun {i} hi e => by
    cases c : lie r ((i : Int) / 8) ((i : Int) % 8)
    · have := n2.off i (by omega) c
      rw [List.getD_eq_getElem?_getD, this] at e
      simp at e; omega
    · rfl
  obtain ⟨a, g1, g2⟩ := n2.on i (by omega) (lies hi e1)
  obtain ⟨b, g3, g4⟩ := n2.on j (by omega) (lies hj e2)
  obtain ⟨c, g5, g6⟩ := n1.on i (by omega) (lies hi e1)
  obtain ⟨d, g7, g8⟩ := n1.on j (by omega) (lies hj e2)
  rw [List.getD_eq_getElem?_getD, g1] at e1
  rw [List.getD_eq_getElem?_getD, g3] at e2
  simp only [Option.getD_some] at e1 e2
  have hab : a = b := by omega
  subst hab
  have hc : Cn (EE r ls) i j := (g2.1.trans g4.1.symm).mono fun _ _ => put_edge h v
  have : c = d := (g6.of_cn hc).uniq g8
  subst this
  rw [List.getD_eq_getElem?_getD, List.getD_eq_getElem?_getD, g5, g7]
  simp
end
end Go.Proofs.Ytfocelelbcepnaa
