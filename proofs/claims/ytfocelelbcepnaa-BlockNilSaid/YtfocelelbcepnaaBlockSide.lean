/- Blocks: the pieces of two tiles that meet at a side. -/
import Derived.Test.YtfocelelbcepnaaBlockJoin
set_option linter.unusedVariables false
set_option linter.unusedSimpArgs false
set_option maxHeartbeats 4000000
set_option maxRecDepth 20000
namespace Go.Proofs.Ytfocelelbcepnaa
open Go.Proofs.Ytfocelelbcepnaa.PM

/-- Pieces of two tiles hang together, those that were looked at. -/
def SE (r : Rl) (ls : List Sg) (t : Nat) (s : Int) (u : Nat) (P Q : Nat) (x y : Nat) : Prop := ∃ p q : Nat, (p < P ∨ (p = P ∧ q < Q)) ∧ p < 6 ∧ q < 6 ∧ lie r t p = true ∧ has p s = true ∧ sgn ls t p s = false ∧ lie r u q = true ∧ has q (s + 2) = true ∧ sgn ls u q (s + 2) = false ∧ x = 8 * t + p ∧ y = 8 * u + q
theorem joinSide_ok {r : Rl} (g : Good r) {nl : Nl} {ls : List Sg} (hl : ls.length ≤ 10000) (hs : ls.Pairwise ltS) {n t u : Nat} {s : Int} (hs01 : s = 0 ∨ s = 1) (hn : (n : Int) = 8 * (r.w * r.h)) (ht : (t : Int) < r.w * r.h) (hu : (u : Int) < r.w * r.h)
    {par : List Int} {H : Hp} {b gen : Nat} {E : Nat → Nat → Prop} (I : Inv n par E) (hb : H[b]? = some (bk 3 gen par)) :
    ∃ par', RO tb 89 [vR r, lst nl ls, mls Int b gen n, .int .i64 t, .int .i64 s, .int .i64 u] H = some (.tup [], H.set b (bk 3 gen par')) ∧ Inv n par' (fun x y => E x y ∨ SE r ls t s u 6 0 x y) := by
  have hm := g.mul
  have hn1 : n ≤ 100000 := by omega
  have hbl : b < H.length := (List.getElem?_eq_some_iff.1 hb).1
  have hbb : H[b] = bk 3 gen par := (List.getElem?_eq_some_iff.1 hb).2
  have hset : H.set b (bk 3 gen par) = H := by rw [← hbb]; exact List.set_getElem_self hbl
  have hmod : (s + 2).tmod 4 = s + 2 := by rcases hs01 with rfl | rfl <;> rfl
  obtain ⟨v, h', h1, hv, par', rfl, h2⟩ := RO_ex (T := tb) (f := 89) (F := pf89) (H := H) (args := [vR r, lst nl ls, mls Int b gen n, .int .i64 t, .int .i64 s, .int .i64 u]) (Rq := fun v h' => v = .tup [] ∧ ∃ par', h' = H.set b (bk 3 gen par') ∧ Inv n par' (fun x y => E x y ∨ SE r ls t s u 6 0 x y)) rfl rfl rfl (by
    simp (disch := first | omega | with_unfolding_all rfl) [pf89, env0_eq]
    refine G_loopK [2, 3, 4, 5, 6, 12] (fun (P : Nat) e h => P ≤ 6 ∧ get e 17 = .int .i64 (P : Int) ∧ ∃ par', h = H.set b (bk 3 gen par') ∧ Inv n par' (fun x y => E x y ∨ SE r ls t s u P 0 x y)) (fun P => 6 - P) (a₀ := 0) ?_ ?_
    · refine ⟨by omega, by simp, par, hset.symm, I.congr fun x y => ⟨.inl, fun q => q.resolve_right ?_⟩⟩
      rintro ⟨p, q, h, _⟩
      omega
    rintro P e h hk ⟨hP, g17, par1, rfl, I1⟩
    simp at hk
    simp (disch := first | omega | with_unfolding_all rfl) [hk, g17]
    refine G_brd (fun h1 => ?_) (fun h1 => ?_)
    · have hP5 : P < 6 := by omega
      have l1 := lies_ok g (t : Int) (P : Int)
      have l2 := end_ok (P : Int) s
      have l3 := stand_ok (nl := nl) hl hs (t : Int) (P : Int) s
      have no : ¬ (lie r t P = true ∧ has P s = true ∧ sgn ls t P s = false) → Inv n par1 (fun x y => E x y ∨ SE r ls t s u (P + 1) 0 x y) := fun hno => I1.congr fun x y => ⟨fun q => q.imp id fun ⟨p, q, a1, a2⟩ => ⟨p, q, by omega, a2⟩, fun q => q.imp id fun ⟨p, q, a1, a2, a3, a4, a5, a6, a7⟩ => ⟨p, q, by
        by_cases e : p = P
        · subst e; exact absurd ⟨a4, a5, a6⟩ hno
        · omega, a2, a3, a4, a5, a6, a7⟩⟩
      simp (disch := first | omega | with_unfolding_all rfl) [hk, g17, h1, l1]
      cases c1 : lie r t P
      · simp (disch := first | omega | with_unfolding_all rfl) [hk, g17, c1]
        exact ⟨P + 1, by omega, by omega, by omega, par1, rfl, no (by simp [c1])⟩
      simp (disch := first | omega | with_unfolding_all rfl) [hk, g17, c1, l2]
      cases c2 : has P s
      · simp (disch := first | omega | with_unfolding_all rfl) [hk, g17, c2]
        exact ⟨P + 1, by omega, by omega, by omega, par1, rfl, no (by simp [c2])⟩
      simp (disch := first | omega | with_unfolding_all rfl) [hk, g17, c2, l3]
      cases c3 : sgn ls t P s
      case true =>
        simp (disch := first | omega | with_unfolding_all rfl) [hk, g17, c3]
        exact ⟨P + 1, by omega, by omega, by omega, par1, rfl, no (by simp [c3])⟩
      simp (disch := first | omega | with_unfolding_all rfl) [hk, g17, c3]
      refine G_loopK [2, 3, 4, 5, 6, 12, 13, 17] (fun (Q : Nat) e h => Q ≤ 6 ∧ get e 38 = .int .i64 (Q : Int) ∧ ∃ par', h = H.set b (bk 3 gen par') ∧ Inv n par' (fun x y => E x y ∨ SE r ls t s u P Q x y)) (fun Q => 6 - Q) (a₀ := 0) ?_ ?_
      · exact ⟨by omega, by simp, par1, rfl, I1⟩
      rintro Q e h hk ⟨hQ, g38, par2, rfl, I2⟩
      simp at hk
      simp (disch := first | omega | with_unfolding_all rfl) [hk, g38]
      have nxt : ∀ par3, Inv n par3 (fun x y => (E x y ∨ SE r ls t s u P Q x y) ∨ ((lie r u Q = true ∧ has Q (s + 2) = true ∧ sgn ls u Q (s + 2) = false) ∧ x = 8 * t + P ∧ y = 8 * u + Q)) → Q < 6 → Inv n par3 (fun x y => E x y ∨ SE r ls t s u P (Q + 1) x y) := by
        intro par3 I3 hlt
        refine I3.congr fun x y => ⟨?_, ?_⟩
        · rintro ((q | ⟨p, q, a1, a2⟩) | ⟨⟨a1, a2, a3⟩, rfl, rfl⟩)
          · exact .inl q
          · exact .inr ⟨p, q, by omega, a2⟩
          · exact .inr ⟨P, Q, by omega, hP5, hlt, c1, c2, c3, a1, a2, a3, rfl, rfl⟩
        · rintro (q | ⟨p, q, a1, a2, a3, b1, b2, b3, a4, a5, a6, a7, a8⟩)
          · exact .inl (.inl q)
          · by_cases e : p = P ∧ q = Q
            · obtain ⟨rfl, rfl⟩ := e
              exact .inr ⟨⟨a4, a5, a6⟩, a7, a8⟩
            · exact .inl (.inr ⟨p, q, by omega, a2, a3, b1, b2, b3, a4, a5, a6, a7, a8⟩)
      refine G_brd (fun h2 => ?_) (fun h2 => ?_)
      · have hQP : Q < 6 := by omega
        have m1 := lies_ok g (u : Int) (Q : Int)
        have m2 := end_ok (Q : Int) (s + 2)
        have m3 := stand_ok (nl := nl) hl hs (u : Int) (Q : Int) (s + 2)
        have no2 : ¬ (lie r u Q = true ∧ has Q (s + 2) = true ∧ sgn ls u Q (s + 2) = false) → Inv n par2 (fun x y => E x y ∨ SE r ls t s u P (Q + 1) x y) := fun hno => nxt par2 (I2.congr fun x y => ⟨.inl, fun q => q.resolve_right fun q => hno q.1⟩) hQP
        simp (disch := first | omega | with_unfolding_all rfl) [hk, g38, h2, m1]
        cases d1 : lie r u Q
        · simp (disch := first | omega | with_unfolding_all rfl) [hk, g38, d1]
          exact ⟨Q + 1, by omega, by omega, by omega, par2, rfl, no2 (by simp [d1])⟩
        simp (disch := first | omega | with_unfolding_all rfl) [hk, g38, d1, m2, hmod]
        cases d2 : has Q (s + 2)
        · simp (disch := first | omega | with_unfolding_all rfl) [hk, g38, d2]
          exact ⟨Q + 1, by omega, by omega, by omega, par2, rfl, no2 (by simp [d2])⟩
        simp (disch := first | omega | with_unfolding_all rfl) [hk, g38, d2, m3, hmod]
        cases d3 : sgn ls u Q (s + 2)
        · simp (disch := first | omega | with_unfolding_all rfl) [hk, g38, d3]
          have hlP : 8 * t + P < n := by omega
          have hlQ : 8 * u + Q < n := by omega
          obtain ⟨par3, j1, I3⟩ := join_ok hn1 hlP hlQ (b := b) (gen := gen) (H := H.set b (bk 3 gen par2)) I2 (by simp [hbl])
          rw [List.set_set] at j1
          have n1 := number_ok (t := (t : Int)) (p := (P : Int)) (by omega) (by omega)
          have n2 := number_ok (t := (u : Int)) (p := (Q : Int)) (by omega) (by omega)
          push_cast at j1
          simp (disch := first | omega | with_unfolding_all rfl) [hk, g38, n1, n2, j1]
          exact ⟨Q + 1, by omega, by omega, by omega, par3, rfl, nxt par3 (I3.congr fun x y => ⟨fun q => q.imp id fun q => ⟨⟨d1, d2, d3⟩, q⟩, fun q => q.imp id fun q => q.2⟩) hQP⟩
        · simp (disch := first | omega | with_unfolding_all rfl) [hk, g38, d3]
          exact ⟨Q + 1, by omega, by omega, by omega, par2, rfl, no2 (by simp [d3])⟩
      · have hQP : Q = 6 := by omega
        subst hQP
        simp (disch := first | omega | with_unfolding_all rfl) [hk, g38, h2]
        refine ⟨P + 1, by omega, by omega, by omega, par2, rfl, I2.congr fun x y => ⟨?_, ?_⟩⟩
        · rintro (q | ⟨p, q, a1, a2⟩)
          · exact .inl q
          · exact .inr ⟨p, q, by omega, a2⟩
        · rintro (q | ⟨p, q, a1, a2⟩)
          · exact .inl q
          · exact .inr ⟨p, q, by omega, a2⟩
    · have : P = 6 := by omega
      subst this
      simp (disch := first | omega | with_unfolding_all rfl) [hk, g17, h1]
      exact ⟨par1, rfl, I1⟩)
  subst hv
  exact ⟨par', h1, h2⟩
end Go.Proofs.Ytfocelelbcepnaa
