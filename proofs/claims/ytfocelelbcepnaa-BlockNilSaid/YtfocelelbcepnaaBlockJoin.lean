/- Blocks: the pieces of a tile, and of two tiles, that hang together. -/
import Derived.Test.YtfocelelbcepnaaBlockUF
set_option linter.unusedVariables false
set_option linter.unusedSimpArgs false
set_option maxHeartbeats 4000000
set_option maxRecDepth 20000
namespace Go.Proofs.Ytfocelelbcepnaa
open Go.Proofs.Ytfocelelbcepnaa.PM

/-- A call with the caller's small heap, whose end is found on the way. -/
theorem RO_ex {T : Table} {f : Nat} {args : List PV} {H : Hp} {F : PFn} {Rq : PV → Hp → Prop} (hn : T.natO f args H = none) (hF : findF T.fns f = some F) (hl : args.length = F.np)
    (hg : G T [.code F.body] .normal (env0 args) H (fun x e h => ends x = true ∧ ∃ v, retV e h F.res = some v ∧ Rq v h)) : ∃ v h', RO T f args H = some (v, h') ∧ Rq v h' := by
  rw [G_code] at hg
  obtain ⟨q, hq, hg⟩ := hg
  rw [G_nil] at hg
  obtain ⟨h1, v, h2, h3⟩ := hg
  refine ⟨v, q.2.2, RO_of_G hn hF hl ?_, h3⟩
  rw [G_code]
  exact ⟨q, hq, by rw [G_nil]; exact ⟨h1, h2, rfl⟩⟩
/-- A call by value, whose result is found on the way. -/
theorem R_ex {T : Table} {f : Nat} {args : List PV} {F : PFn} {Rq : PV → Prop} (hn : T.nat f args = none) (hF : findF T.fns f = some F) (hl : args.length = F.np)
    (hg : G T [.code F.body] .normal (env0 args) [] (fun x e h => ends x = true ∧ ∃ v, (retV e h F.res).bind (frz h .any 64) = some v ∧ v.cleanB = true ∧ Rq v)) : ∃ v, R T f args = some v ∧ Rq v := by
  rw [G_code] at hg
  obtain ⟨q, hq, hg⟩ := hg
  rw [G_nil] at hg
  obtain ⟨h1, v, h2, h3, h4⟩ := hg
  refine ⟨v, R_of_G hn hF hl ?_, h4⟩
  rw [G_code]
  exact ⟨q, hq, by rw [G_nil]; exact ⟨h1, h2, h3⟩⟩
/-- Two pieces of one tile do not touch. -/
def prt (p q : Int) : Bool := decide (2 ≤ p) && (decide (2 ≤ q) && (decide (p - q = 2) || decide (q - p = 2)))
theorem part_ok {p q : Int} (hp : 0 ≤ p ∧ p < 6) (hq : 0 ≤ q ∧ q < 6) : R tb 107 [.int .i64 p, .int .i64 q] = some (.bool (prt p q)) := by
  refine R_of_G (F := pf107) rfl rfl rfl ?_
  simp (disch := first | omega | with_unfolding_all rfl) [pf107, env0_eq]
  by_cases a1 : 2 ≤ p
  case neg => simp (disch := first | omega | with_unfolding_all rfl) [a1, prt]
  by_cases a2 : 2 ≤ q
  case neg => simp (disch := first | omega | with_unfolding_all rfl) [a1, a2, prt]
  by_cases a3 : p - q = 2
  · simp (disch := first | omega | with_unfolding_all rfl) [a1, a2, a3, prt]
  · simp (disch := first | omega | with_unfolding_all rfl) [a1, a2, a3, prt]
theorem number_ok {t p : Int} (ht : 0 ≤ t ∧ t ≤ 100000) (hp : 0 ≤ p ∧ p < 6) : R tb 59 [.int .i64 t, .int .i64 p] = some (.int .i64 (8 * t + p)) := by
  refine R_of_G (F := pf59) rfl rfl rfl ?_
  simp (disch := first | omega | with_unfolding_all rfl) [pf59, env0_eq]
/-- A signal stands there. -/
def sgn (ls : List Sg) (t p o : Int) : Bool := isAt ⟨t, p, o, 0⟩ ls
theorem stand_ok {nl : Nl} {ls : List Sg} (hl : ls.length ≤ 10000) (hs : ls.Pairwise ltS) (t p o : Int) : R tb 109 [lst nl ls, .int .i64 t, .int .i64 p, .int .i64 o] = some (.bool (sgn ls t p o)) := by
  have h := at_ok (nl := nl) (l := ⟨t, p, o, 0⟩) hl hs
  simp only [vS] at h
  refine R_of_G (F := pf109) rfl rfl rfl ?_
  simp (disch := first | omega | with_unfolding_all rfl) [pf109, env0_eq, h, sgn]

/-- Pieces of a tile hang together, those that were looked at. -/
def TE (r : Rl) (t P Q : Nat) (x y : Nat) : Prop := ∃ p q : Nat, (p < P ∨ (p = P ∧ q < Q)) ∧ q < p ∧ p < 6 ∧ lie r t p = true ∧ lie r t q = true ∧ prt p q = false ∧ x = 8 * t + p ∧ y = 8 * t + q
theorem joinTile_ok {r : Rl} (g : Good r) {n t : Nat} (hn : (n : Int) = 8 * (r.w * r.h)) (ht : (t : Int) < r.w * r.h) {par : List Int} {H : Hp} {b gen : Nat} {E : Nat → Nat → Prop} (I : Inv n par E) (hb : H[b]? = some (bk 3 gen par)) :
    ∃ par', RO tb 88 [vR r, mls Int b gen n, .int .i64 t] H = some (.tup [], H.set b (bk 3 gen par')) ∧ Inv n par' (fun x y => E x y ∨ TE r t 6 0 x y) := by
  have hm := g.mul
  have hn1 : n ≤ 100000 := by omega
  have hbl : b < H.length := (List.getElem?_eq_some_iff.1 hb).1
  have hbb : H[b] = bk 3 gen par := (List.getElem?_eq_some_iff.1 hb).2
  have hset : H.set b (bk 3 gen par) = H := by rw [← hbb]; exact List.set_getElem_self hbl
  obtain ⟨v, h', h1, hv, par', rfl, h2⟩ := RO_ex (T := tb) (f := 88) (F := pf88) (H := H) (args := [vR r, mls Int b gen n, .int .i64 t]) (Rq := fun v h' => v = .tup [] ∧ ∃ par', h' = H.set b (bk 3 gen par') ∧ Inv n par' (fun x y => E x y ∨ TE r t 6 0 x y)) rfl rfl rfl (by
    simp (disch := first | omega | with_unfolding_all rfl) [pf88, env0_eq]
    refine G_loopK [1, 2, 3] (fun (P : Nat) e h => P ≤ 6 ∧ get e 8 = .int .i64 (P : Int) ∧ ∃ par', h = H.set b (bk 3 gen par') ∧ Inv n par' (fun x y => E x y ∨ TE r t P 0 x y)) (fun P => 6 - P) (a₀ := 0) ?_ ?_
    · refine ⟨by omega, by simp, par, hset.symm, I.congr fun x y => ⟨.inl, fun q => q.resolve_right ?_⟩⟩
      rintro ⟨p, q, h, _⟩
      omega
    rintro P e h hk ⟨hP, g8, par1, rfl, I1⟩
    simp at hk
    simp (disch := first | omega | with_unfolding_all rfl) [hk, g8]
    refine G_brd (fun h1 => ?_) (fun h1 => ?_)
    · have hP5 : P < 6 := by omega
      simp (disch := first | omega | with_unfolding_all rfl) [hk, g8, h1]
      refine G_loopK [1, 2, 3, 6, 8, 11] (fun (Q : Nat) e h => Q ≤ P ∧ get e 12 = .int .i64 (Q : Int) ∧ ∃ par', h = H.set b (bk 3 gen par') ∧ Inv n par' (fun x y => E x y ∨ TE r t P Q x y)) (fun Q => P - Q) (a₀ := 0) ?_ ?_
      · exact ⟨by omega, by simp, par1, rfl, I1⟩
      rintro Q e h hk ⟨hQ, g12, par2, rfl, I2⟩
      simp at hk
      simp (disch := first | omega | with_unfolding_all rfl) [hk, g12]
      have nxt : ∀ par3, Inv n par3 (fun x y => (E x y ∨ TE r t P Q x y) ∨ ((lie r t P = true ∧ lie r t Q = true ∧ prt P Q = false) ∧ x = 8 * t + P ∧ y = 8 * t + Q)) → Q < P → Inv n par3 (fun x y => E x y ∨ TE r t P (Q + 1) x y) := by
        intro par3 I3 hlt
        refine I3.congr fun x y => ⟨?_, ?_⟩
        · rintro ((q | ⟨p, q, a1, a2⟩) | ⟨⟨a1, a2, a3⟩, rfl, rfl⟩)
          · exact .inl q
          · exact .inr ⟨p, q, by omega, a2⟩
          · exact .inr ⟨P, Q, by omega, hlt, hP5, a1, a2, a3, rfl, rfl⟩
        · rintro (q | ⟨p, q, a1, a2, a3, a4, a5, a6, a7, a8⟩)
          · exact .inl (.inl q)
          · by_cases e : p = P ∧ q = Q
            · obtain ⟨rfl, rfl⟩ := e
              exact .inr ⟨⟨a4, a5, a6⟩, a7, a8⟩
            · exact .inl (.inr ⟨p, q, by omega, a2, a3, a4, a5, a6, a7, a8⟩)
      refine G_brd (fun h2 => ?_) (fun h2 => ?_)
      · have hQP : Q < P := by omega
        have l1 := lies_ok g (t : Int) (P : Int)
        have l2 := lies_ok g (t : Int) (Q : Int)
        have l3 := part_ok (p := (P : Int)) (q := (Q : Int)) (by omega) (by omega)
        have no : ¬ (lie r t P = true ∧ lie r t Q = true ∧ prt P Q = false) → Inv n par2 (fun x y => E x y ∨ TE r t P (Q + 1) x y) := fun hno => nxt par2 (I2.congr fun x y => ⟨.inl, fun q => q.resolve_right fun q => hno q.1⟩) hQP
        simp (disch := first | omega | with_unfolding_all rfl) [hk, g12, h2, l1]
        cases c1 : lie r t P
        · simp (disch := first | omega | with_unfolding_all rfl) [hk, g12, c1]
          exact ⟨Q + 1, by omega, by omega, by omega, par2, rfl, no (by simp [c1])⟩
        simp (disch := first | omega | with_unfolding_all rfl) [hk, g12, c1, l2]
        cases c2 : lie r t Q
        · simp (disch := first | omega | with_unfolding_all rfl) [hk, g12, c2]
          exact ⟨Q + 1, by omega, by omega, by omega, par2, rfl, no (by simp [c2])⟩
        simp (disch := first | omega | with_unfolding_all rfl) [hk, g12, c2, l3]
        cases c3 : prt P Q
        · simp (disch := first | omega | with_unfolding_all rfl) [hk, g12, c3]
          have hlP : 8 * t + P < n := by omega
          have hlQ : 8 * t + Q < n := by omega
          obtain ⟨par3, j1, I3⟩ := join_ok hn1 hlP hlQ (b := b) (gen := gen) (H := H.set b (bk 3 gen par2)) I2 (by simp [hbl])
          rw [List.set_set] at j1
          have n1 := number_ok (t := (t : Int)) (p := (P : Int)) (by omega) (by omega)
          have n2 := number_ok (t := (t : Int)) (p := (Q : Int)) (by omega) (by omega)
          push_cast at j1
          simp (disch := first | omega | with_unfolding_all rfl) [hk, g12, n1, n2, j1]
          exact ⟨Q + 1, by omega, by omega, by omega, par3, rfl, nxt par3 (I3.congr fun x y => ⟨fun q => q.imp id fun q => ⟨⟨c1, c2, c3⟩, q⟩, fun q => q.imp id fun q => q.2⟩) hQP⟩
        · simp (disch := first | omega | with_unfolding_all rfl) [hk, g12, c3]
          exact ⟨Q + 1, by omega, by omega, by omega, par2, rfl, no (by simp [c3])⟩
      · have hQP : Q = P := by omega
        subst hQP
        simp (disch := first | omega | with_unfolding_all rfl) [hk, g12, h2]
        refine ⟨Q + 1, by omega, by omega, by omega, par2, rfl, I2.congr fun x y => ⟨?_, ?_⟩⟩
        · rintro (q | ⟨p, q, a1, a2⟩)
          · exact .inl q
          · exact .inr ⟨p, q, by omega, a2⟩
        · rintro (q | ⟨p, q, a1, a2⟩)
          · exact .inl q
          · exact .inr ⟨p, q, by omega, a2⟩
    · have : P = 6 := by omega
      subst this
      simp (disch := first | omega | with_unfolding_all rfl) [hk, g8, h1]
      exact ⟨par1, rfl, I1⟩)
  subst hv
  exact ⟨par', h1, h2⟩
end Go.Proofs.Ytfocelelbcepnaa
