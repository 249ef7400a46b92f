/- Spans: whether two spans meet. -/
import Derived.Test.YtpnhdcjfhlcgoaaSpanDropA
set_option linter.unusedVariables false
set_option linter.unusedSimpArgs false
set_option maxHeartbeats 4000000
set_option maxRecDepth 20000
namespace Go.Proofs.Ytpnhdcjfhlcgoaa
open Go.Proofs.Ytpnhdcjfhlcgoaa.PM
variable {n2 : Nat → List PV → Hp → Option (PV × Hp)}

theorem MO {f : Nat} {args : List PV} {H H' : Hp} {r : PV} (h : RO tb f args H = some (r, H')) : RO (tbM n2) f args H = some (r, H') := by
  refine RO_nat ?_
  show (match RO tb f args H with | some r => some r | none => match natD f args H with | some r => some r | none => n2 f args H) = _
  rw [h]
def shareB (s t : Sp) : Bool := decide (s.a = t.a) || decide (s.a = t.b) || decide (s.b = t.a) || decide (s.b = t.b)
def mtS (l : Ld) (W : Nat) (s t : Sp) : Bool := shareB s t || (decide (s.k = t.k) && !(decide (s.k = 1) && !decide (lo l W t.a.toNat = lo l W s.a.toNat)) &&
  (inL (btw W t.a t.b) s.a || inL (btw W t.a t.b) s.b || inL (btw W s.a s.b) t.a || inL (btw W s.a s.b) t.b || (btw W s.a s.b).any (inL (btw W t.a t.b))))
theorem meets_ok {l : Ld} {W H : Nat} (hf : l.nl ≠ .bor) (g : Good l W H) {s t : Sp} {A B C D : Nat} (hA : s.a = A) (hB : s.b = B) (hC : t.a = C) (hD : t.b = D) (hab : A < B) (hcd : C < D) (hb : B < W * H) (hdd : D < W * H) (h1 : byI W A B ≠ 0) (h2 : byI W C D ≠ 0) :
    R (tbM n2) 51 [vL l, vSpan s.k s.a s.b s.u, vSpan t.k t.a t.b t.u] = some (.bool (mtS l W s t)) := by
  have hm : mtS l W s t = (shareB s t || (decide (s.k = t.k) && !(decide (s.k = 1) && !decide (lo l W t.a.toNat = lo l W s.a.toNat)) &&
    (inL (btw W t.a t.b) s.a || inL (btw W t.a t.b) s.b || inL (btw W s.a s.b) t.a || inL (btw W s.a s.b) t.b || (btw W s.a s.b).any (inL (btw W t.a t.b))))) := rfl
  have hsh : shareB s t = (decide (s.a = t.a) || decide (s.a = t.b) || decide (s.b = t.a) || decide (s.b = t.b)) := rfl
  have ba := M2 (n2 := n2) (base_ok hf g (t := A) (by omega))
  have bc := M2 (n2 := n2) (base_ok hf g (t := C) (by omega))
  have hcs := fun n => M2 (n2 := n2) (crossesT_ok hf g (k := s.k) (u := s.u) hab hb h1 n)
  have hct := fun n => M2 (n2 := n2) (crossesT_ok hf g (k := t.k) (u := t.u) hcd hdd h2 n)
  have hwh := wh_le g
  have hsq := fun (p q : Bool) => sqT_lst (p := p) (q := q) (w := W) (hh := H) (k := s.k) (a := A) (b := B) (u := s.u) (nl := l.nl) (ys := l.xs) (by have := g.w4; have := g.w32; omega) (by omega) h1
  have hbw := fun Hp => MO (n2 := n2) (between_ok (w := W) (hh := H) (k := s.k) (a := A) (b := B) (u := s.u) (ys := l.xs) hf Hp)
  obtain ⟨k, a, b, u⟩ := s
  obtain ⟨k', c, d, u'⟩ := t
  dsimp only at hA hB hC hD hm hsh hcs hct hsq hbw
  subst hA hB hC hD
  dsimp only [Int.toNat_natCast] at hm
  obtain ⟨w, hh, nl, xs⟩ := l
  obtain ⟨rfl, rfl, w4, w32, h4, h32, len, rg⟩ := g
  dsimp only at hf ba bc hcs hct hsq hbw
  generalize mtS ⟨W, H, nl, xs⟩ W ⟨k, A, B, u⟩ ⟨k', C, D, u'⟩ = r at *
  generalize shareB ⟨k, A, B, u⟩ ⟨k', C, D, u'⟩ = sh at *
  generalize lo ⟨W, H, nl, xs⟩ W = L at *
  generalize hi ⟨W, H, nl, xs⟩ W = U at *
  generalize btw W A B = ts at *
  generalize hy : inL (btw W C D) = y at *
  generalize hz : inL ts = z at *
  dsimp only
  refine R_of_G (F := pf51) (M_nat rfl) rfl rfl ?_
  simp (disch := first | omega | with_unfolding_all rfl) [pf51, env0_eq, hf]
  by_cases c1 : (A : Int) = C
  · have hr : r = true := by rw [hm, hsh]; simp [c1]
    simp (disch := first | omega | with_unfolding_all rfl) [c1, hr]
  simp (disch := first | omega | with_unfolding_all rfl) [c1]
  by_cases c2 : (A : Int) = D
  · have hr : r = true := by rw [hm, hsh]; simp [c2]
    simp (disch := first | omega | with_unfolding_all rfl) [c2, hr]
  simp (disch := first | omega | with_unfolding_all rfl) [c2]
  by_cases c3 : (B : Int) = C
  · have hr : r = true := by rw [hm, hsh]; simp [c3]
    simp (disch := first | omega | with_unfolding_all rfl) [c3, hr]
  simp (disch := first | omega | with_unfolding_all rfl) [c3]
  by_cases c4 : (B : Int) = D
  · have hr : r = true := by rw [hm, hsh]; simp [c4]
    simp (disch := first | omega | with_unfolding_all rfl) [c4, hr]
  simp (disch := first | omega | with_unfolding_all rfl) [c4]
  have hs0 : sh = false := by rw [hsh]; simp [c1, c2, c3, c4]
  rw [hs0, Bool.false_or] at hm
  clear hsh
  by_cases c5 : k = k'
  case neg =>
    have hr : r = false := by rw [hm, decide_eq_false c5]; simp
    simp (disch := first | omega | with_unfolding_all rfl) [c5, hr]
  simp (disch := first | omega | with_unfolding_all rfl) [c5, ba, bc]
  subst c5
  by_cases c6 : k = 1
  · subst c6
    by_cases c7 : L C = L A
    case neg =>
      have hr : r = false := by rw [hm]; simp [c7]
      simp (disch := first | omega | with_unfolding_all rfl) [c7, hr]
    have hg : (!(decide ((1 : Int) = 1) && !decide (L C = L A))) = true := by simp [c7]
    rw [hg, Bool.and_true, show decide ((1 : Int) = 1) = true by simp, Bool.true_and] at hm
    cases hp1 : y A
    case true =>
      have hr : r = true := by rw [hm]; simp [hp1]
      simp (disch := first | omega | with_unfolding_all rfl) [c7, hcs, hct, hp1, hf, hr]
    cases hp2 : y B
    case true =>
      have hr : r = true := by rw [hm]; simp [hp2]
      simp (disch := first | omega | with_unfolding_all rfl) [c7, hcs, hct, hp1, hp2, hf, hr]
    cases hp3 : z C
    case true =>
      have hr : r = true := by rw [hm]; simp [hp3]
      simp (disch := first | omega | with_unfolding_all rfl) [c7, hcs, hct, hp1, hp2, hp3, hf, hr]
    cases hp4 : z D
    case true =>
      have hr : r = true := by rw [hm]; simp [hp4]
      simp (disch := first | omega | with_unfolding_all rfl) [c7, hcs, hct, hp1, hp2, hp3, hp4, hf, hr]
    simp (disch := first | omega | with_unfolding_all rfl) [c7, hcs, hct, hp1, hp2, hp3, hp4, hf, hbw]
    refine G_rng (xs := ts) (hsq false false) (fun i h => h = [⟨4, 0, [.bool false]⟩] ∧ ∀ j (hj : j < ts.length), j < i → y ts[j] = false) ⟨rfl, fun j _ hj => absurd hj (Nat.not_lt_zero _)⟩ ?_ ?_
    · rintro i hi h' ⟨rfl, hzz⟩
      cases hyi : y ts[i]
      · simp (disch := first | omega | with_unfolding_all rfl) [hct, hyi, hf]
        intro j hj hji
        rcases Nat.lt_succ_iff_lt_or_eq.1 hji with q | rfl
        · exact hzz j hj q
        · exact hyi
      · have hr : r = true := by
          rw [hm, show ts.any y = true from any_at (f := y) hi hyi]
          simp
        simp (disch := first | omega | with_unfolding_all rfl) [hct, hyi, hf, hr]
    · rintro h' ⟨rfl, hzz⟩
      have hno : ts.any y = false := any_upto fun i hi => hzz i hi hi
      have hr : r = false := by rw [hm]; simp [hp1, hp2, hp3, hp4, hno]
      simp (disch := first | omega | with_unfolding_all rfl) [hr]
  · have hg : (!(decide (k = 1) && !decide (L C = L A))) = true := by simp [c6]
    rw [hg, Bool.and_true, show decide (k = k) = true by simp, Bool.true_and] at hm
    cases hp1 : y A
    case true =>
      have hr : r = true := by rw [hm]; simp [hp1]
      simp (disch := first | omega | with_unfolding_all rfl) [c6, hcs, hct, hp1, hf, hr]
    cases hp2 : y B
    case true =>
      have hr : r = true := by rw [hm]; simp [hp2]
      simp (disch := first | omega | with_unfolding_all rfl) [c6, hcs, hct, hp1, hp2, hf, hr]
    cases hp3 : z C
    case true =>
      have hr : r = true := by rw [hm]; simp [hp3]
      simp (disch := first | omega | with_unfolding_all rfl) [c6, hcs, hct, hp1, hp2, hp3, hf, hr]
    cases hp4 : z D
    case true =>
      have hr : r = true := by rw [hm]; simp [hp4]
      simp (disch := first | omega | with_unfolding_all rfl) [c6, hcs, hct, hp1, hp2, hp3, hp4, hf, hr]
    simp (disch := first | omega | with_unfolding_all rfl) [c6, hcs, hct, hp1, hp2, hp3, hp4, hf, hbw]
    refine G_rng (xs := ts) (hsq false false) (fun i h => h = [⟨4, 0, [.bool false]⟩] ∧ ∀ j (hj : j < ts.length), j < i → y ts[j] = false) ⟨rfl, fun j _ hj => absurd hj (Nat.not_lt_zero _)⟩ ?_ ?_
    · rintro i hi h' ⟨rfl, hzz⟩
      cases hyi : y ts[i]
      · simp (disch := first | omega | with_unfolding_all rfl) [hct, hyi, hf]
        intro j hj hji
        rcases Nat.lt_succ_iff_lt_or_eq.1 hji with q | rfl
        · exact hzz j hj q
        · exact hyi
      · have hr : r = true := by
          rw [hm, show ts.any y = true from any_at (f := y) hi hyi]
          simp
        simp (disch := first | omega | with_unfolding_all rfl) [hct, hyi, hf, hr]
    · rintro h' ⟨rfl, hzz⟩
      have hno : ts.any y = false := any_upto fun i hi => hzz i hi hi
      have hr : r = false := by rw [hm]; simp [hp1, hp2, hp3, hp4, hno]
      simp (disch := first | omega | with_unfolding_all rfl) [hr]
end Go.Proofs.Ytpnhdcjfhlcgoaa
