/- Airports: a plane that is alone comes in: the law's function. -/
import Derived.Test.YtmbknidfkddpfaaAirCome2
set_option linter.unusedVariables false
set_option linter.unusedSimpArgs false
set_option maxHeartbeats 4000000
set_option maxRecDepth 20000
namespace Go.Proofs.Ytmbknidfkddpfaa
open Go.Proofs.Ytmbknidfkddpfaa.PM

theorem comes_ok (f : Fd) (hf : f.nl ≠ .bor) (hb : f.nodes.length ≤ maxLen) (v : Int) : R tb 9 [vFd f, .int .i64 v] = some (.bool true) := by
  have hm : maxLen = 9223372036854775807 := rfl
  have h1 := large_ok f hf hb
  simp only [vFd] at h1
  refine R_of_G (F := pf9) rfl rfl rfl ?_
  simp (disch := first | omega | with_unfolding_all rfl) [pf9, env0_eq, h1]
  cases hl : large f
  case true => simp (disch := first | omega | with_unfolding_all rfl) [hl, known_ok]
  have hc := large_le hl
  have hb4 : f.nodes.length ≤ 400 := by
    simp only [large, Bool.or_eq_false_iff, decide_eq_false_iff_not] at hl
    omega
  simp (disch := first | omega | with_unfolding_all rfl) [hl, known_ok]
  refine G_grdn (fun h2 => ?_) (fun h2 => ?_)
  case refine_2 => simp (disch := first | omega | with_unfolding_all rfl) [h2, known_ok]
  simp (disch := first | omega | with_unfolding_all rfl) [h2, known_ok]
  refine G_brd (fun h3 => ?_) (fun h3 => ?_)
  · simp (disch := first | omega | with_unfolding_all rfl) [h3, known_ok]
  obtain ⟨nlw, hnlw, hway⟩ := Way_ok f hf hb4 hc f.inn 1
  simp only [vFd] at hway
  have harr := arrive_ok ⟨f, .ex, [⟨-1, 0, 0, v, 0⟩], 0⟩ hf (by simp) hb4 (by simp) hc 0
  simp only [vSk] at harr
  have hsk : fieldErr f = 0 → skyErr ⟨f, .ex, [⟨-1, 0, 0, v, 0⟩], 0⟩ = 0 := fun h0 => sky1 h0 (by omega) (by omega) ⟨by dsimp only; omega, by dsimp only; omega, by dsimp only; omega, by dsimp only; omega, by dsimp only; omega, by dsimp only; omega, by dsimp only; omega, by dsimp only; omega, by dsimp only; omega, by dsimp only; omega⟩ (by dsimp only; omega)
  by_cases h0 : fieldErr f = 0
  case neg =>
    have he : wayErr f f.inn 1 = fieldErr f := by unfold wayErr; rw [if_pos h0]
    have ha : arrErr ⟨f, .ex, [⟨-1, 0, 0, v, 0⟩], 0⟩ 0 ≠ 0 := by
      have : skyErr ⟨f, .ex, [⟨-1, 0, 0, v, 0⟩], 0⟩ ≠ 0 := by
        unfold skyErr; rw [if_pos h0]; exact h0
      unfold arrErr; rw [if_pos this]; exact this
    rw [if_pos ha] at harr
    simp only [vZ] at harr
    generalize arrErr ⟨f, .ex, [⟨-1, 0, 0, v, 0⟩], 0⟩ 0 = er at harr
    rw [he] at hway
    have hpl : PV.list .ex 5 [.int .i64 (-1), .int .i64 0, .int .i64 0, .int .i64 v, .int .i64 0] = lst .ex [(⟨-1, 0, 0, v, 0⟩ : Pl)] := rfl
    simp (disch := first | omega | with_unfolding_all rfl) [h2, h3, hway, h0, harr, known_ok, hpl]
  obtain ⟨hi0, hi1, hik⟩ := fieldErr_inn h0
  have he : wayErr f f.inn 1 = 0 := by
    unfold wayErr
    rw [if_neg (by simp [h0]), if_neg (by omega), if_neg (by omega)]
  have hR : wayR f f.inn 1 = wayX f.nodes f.inn.toNat 1 fT := by
    unfold wayR
    rw [if_neg (by simp [he])]
    exact wayX_congr fun k hk _ => noBar_t hk
  rw [hR, he] at hway
  have ha : arrErr ⟨f, .ex, [⟨-1, 0, 0, v, 0⟩], 0⟩ 0 = 0 := by
    unfold arrErr
    rw [if_neg (by simp [hsk h0]), if_neg (by simp)]
    rfl
  rw [if_neg (by simp [ha])] at harr
  simp only [vCp] at harr
  have hset : ([⟨-1, 0, 0, v, 0⟩] : List Pl).set (0 : Int).toNat (arrPl ⟨f, .ex, [⟨-1, 0, 0, v, 0⟩], 0⟩ (0 : Int).toNat) = [⟨f.inn, 1, 0, v, v⟩] := rfl
  rw [hset] at harr
  have hwl := wayX_len f.nodes f.inn.toNat 1 fT (by omega) hb4
  have hpl : PV.list .ex 5 [.int .i64 (-1), .int .i64 0, .int .i64 0, .int .i64 v, .int .i64 0] = lst .ex [(⟨-1, 0, 0, v, 0⟩ : Pl)] := rfl
  have hrn : ∀ k, k < (f.nodes.map cp).length → ∀ o ∈ onOf (f.nodes.map cp) k, 0 ≤ o ∧ o < (f.nodes.map cp).length := by
    intro k hk o ho
    rw [onOf_cp] at ho
    rw [List.length_map] at hk ⊢
    rw [on_eq hk] at ho
    exact fieldErr_on h0 _ (List.getElem_mem hk) o ho
  have hfe : fieldErr ⟨.any, f.nodes.map cp, f.inn⟩ = 0 := by rw [fieldErr_cp f.nl]; exact h0
  have hnl : (f.nodes.map cp).length = f.nodes.length := List.length_map ..
  have hst := fun (p : Pl) (now : Int) (hs : Sane (f.nodes.map cp) p) (h1 : p.since ≤ now) (h2 : 0 ≤ now) (h3 : now < 1600000) (h4 : 0 ≤ p.pos) => step1_ok f.nodes .any .any f.inn p now (by simp) (by simp) hb4 hc (sky1 hfe h2 (by omega) hs h1) h3 h4
  have hkd := kd_cp f.nodes f.inn.toNat
  have hwx := wayX_cp f.nodes f.inn.toNat 1 fT
  generalize f.nodes.map cp = ns at *
  cases hok : (wayX f.nodes f.inn.toNat 1 fT).2
  case false =>
    have hL : (wayX f.nodes f.inn.toNat 1 fT).1 = [] := by
      unfold wayX at hok ⊢
      split at hok
      · cases hok
      · rename_i q
        rw [if_neg q]
        split at hok
        · rename_i q2; rw [if_pos q2]
        · cases hok
    rw [hL] at hway
    rw [hok] at hway
    have hs0 := hst ⟨f.inn, 1, 0, v, v⟩ 0 ⟨by dsimp only; omega, by dsimp only; omega, by dsimp only; omega, by dsimp only; omega, by dsimp only; omega, by dsimp only; omega, by dsimp only; omega, by dsimp only; omega, by dsimp only; omega, by dsimp only; omega⟩ (by dsimp only; omega) (by omega) (by omega) hi0
    have hls : less1 ⟨f.inn, 1, 0, v, v⟩ = ⟨f.inn, 1, 0, v, v - 1⟩ := by unfold less1; dsimp only; rw [if_neg (by omega)]
    have ht : turnP ns [less1 ⟨f.inn, 1, 0, v, v⟩] (less1 ⟨f.inn, 1, 0, v, v⟩) = (⟨f.inn, 1, 0, v, v - 1⟩, false) := by
      rw [hls]
      unfold turnP
      split
      · rfl
      refine (if_neg (show ¬ endB 1 (kd ns f.inn.toNat) = true by rw [hkd, hik]; simp [endB])).trans ?_
      refine if_neg ?_
      show ¬ (wayX ns f.inn.toNat 1 (freeAt ns [⟨f.inn, 1, 0, v, v - 1⟩])).2 = true
      have := free1 ns ⟨f.inn, 1, 0, v, v - 1⟩ 1 hi0
      dsimp only at this
      rw [this, hwx, hok]; simp
    rw [ht] at hs0
    simp (disch := first | omega | with_unfolding_all rfl) [h2, h3, hway, h0, harr, known_ok, hpl]
    rw [G_unroll]
    have hl1 : ([⟨f.inn, 1, 0, v, v - 1⟩] : List Pl).length = 1 := rfl
    have hl2 : ([] : List Int).length = 0 := rfl
    simp (disch := first | omega | with_unfolding_all rfl) [hs0]
    rw [G_unroll]
    simp (disch := first | omega | with_unfolding_all rfl) [known_ok]
  rw [hok] at hway
  generalize hL : (wayX f.nodes f.inn.toNat 1 fT).1 = L at *
  have hmul0 : 0 ≤ v * (L.length : Int) := Int.mul_nonneg (by omega) (by omega)
  have hmul1 : v * (L.length : Int) ≤ 50 * 401 := Int.mul_le_mul (by omega) (by omega) (by omega) (by omega)
  obtain ⟨n, hn⟩ : ∃ n : Nat, v * (L.length : Int) = n := ⟨(v * (L.length : Int)).toNat, by omega⟩
  have hw0 : wayX ns f.inn.toNat 1 fT = (L, true) := by rw [hwx, ← hL, ← hok]
  simp (disch := first | omega | with_unfolding_all rfl) [h2, h3, hway, h0, harr, known_ok, hpl, hn]
  refine G_scanK [2, 5, 6, 8, 50] (fun t e h => get e 51 = .int .i64 (t : Int) ∧ ∃ x l L', Come ns v x l L' ∧ (t : Int) + l + v * (L'.length : Int) = v + n ∧ L'.getLast? = L.getLast? ∧ h = [⟨31, 0, [lst .any ns, .int .i64 f.inn, lst .any [(⟨x, 1, 0, v, l⟩ : Pl)], .int .i64 (t : Int)]⟩]) (fun _ => false) (n + 1) 0 ?_ (Nat.zero_le _) ?_
  · refine ⟨by simp, f.inn, v, L, ⟨hi0, by omega, by omega, by omega, hw0⟩, by omega, rfl, by simp⟩
  rintro t e h - ht - hk ⟨g1, x, l, L', hcm, hbud, hlast, rfl⟩
  simp at hk
  have hL0 : 1 ≤ L'.length := by
    have := hcm.way
    unfold wayX at this
    split at this
    · rw [← (Prod.mk.inj this).1]; simp
    · split at this
      · cases (Prod.mk.inj this).2
      · rw [← (Prod.mk.inj this).1]; simp [wayL]
  have hvl : v * 1 ≤ v * (L'.length : Int) := Int.mul_le_mul_of_nonneg_left (by omega) (by omega)
  have hl0 := hcm.l0
  have hl1 := hcm.l1
  have hx0 := hcm.x0
  have hx1 := hcm.x1
  have htn : (t : Int) < (n : Int) + 1 := by omega
  have hlz : ([] : List Int).length = 0 := rfl
  have hl01 : ([0] : List Int).length = 1 := rfl
  have hs := hst ⟨x, 1, 0, v, l⟩ t ⟨by dsimp only; omega, by dsimp only; omega, by dsimp only; omega, by dsimp only; omega, by dsimp only; omega, by dsimp only; omega, by dsimp only; omega, by dsimp only; omega, by dsimp only; omega, by dsimp only; omega⟩ (by dsimp only; omega) (by omega) (by omega) hx0
  rcases come_step hrn (by omega) (by omega) hcm with ⟨x', l', L'', h5, h6, h7, h8⟩ | ⟨h5, h6, h7⟩
  · rw [h5] at hs
    simp (disch := first | omega | with_unfolding_all rfl) [hk, g1, htn, hs]
    exact ⟨by omega, x', l', L'', h6, by omega, by rw [h8, hlast], rfl⟩
  · rw [h5] at hs
    have hp1 : ([⟨x, 0, 0, v, 0⟩] : List Pl).length = 1 := rfl
    have hLx : L.getLast? = some x := by rw [← hlast, h6]; rfl
    have hLp : 0 < L.length := by
      cases L with
      | nil => cases hLx
      | cons a b => simp
    have hLg : L[L.length - 1] = x := by
      rw [List.getLast?_eq_getElem?, List.getElem?_eq_getElem (by omega)] at hLx
      exact Option.some.inj hLx
    simp (disch := first | omega | with_unfolding_all rfl) [hk, g1, htn, hs, known_ok, hLg]
end Go.Proofs.Ytmbknidfkddpfaa
