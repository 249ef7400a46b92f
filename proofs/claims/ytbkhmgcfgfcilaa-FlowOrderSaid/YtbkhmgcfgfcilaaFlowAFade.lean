/- Links that have faded. -/
import Derived.Test.YtbkhmgcfgfcilaaPmNineteen
import Derived.Test.YtbkhmgcfgfcilaaFlowAVal
set_option linter.unusedVariables false
set_option linter.unusedSimpArgs false
set_option maxHeartbeats 1000000
namespace Go.Proofs.Ytbkhmgcfgfcilaa
open Go.Proofs.Ytbkhmgcfgfcilaa.PM

@[simp] theorem dec_lk (a b c : Int) : (Enc.dec [PV.int .i64 a, .int .i64 b, .int .i64 c] : Option Lk) = some ⟨a, b, c⟩ := rfl
@[simp] theorem cln_lk (l : Lk) : Enc.cln l = true := rfl
@[simp] theorem list_lk1 (nl : Nl) (a b c : Int) : PV.list nl 3 [.int .i64 a, .int .i64 b, .int .i64 c] = lst nl [(⟨a, b, c⟩ : Lk)] := rfl
theorem rooms {n : Int} {ls : List Lk} (h : valErr n ls = 0) (i : Nat) (hi : i < ls.length) : 1 ≤ ls[i].room ∧ ls[i].room ≤ 1000000 := by
  have hb : (List.range ls.length).any (badAt ls) = false := by
    cases hb : (List.range ls.length).any (badAt ls)
    · rfl
    · unfold valErr at h
      split at h
      · cases h
      split at h
      · cases h
      simp [hb] at h
  rw [List.any_eq_false] at hb
  have := hb i (List.mem_range.2 hi)
  simp [badAt, hi] at this
  omega
theorem sameLks_ok (n1 n2 : Nl) (xs : List Lk) (hb : xs.length ≤ maxLen) : R tb 14 [lst n1 xs, lst n2 xs] = some (.bool true) := by
  have hm : maxLen = 9223372036854775807 := rfl
  refine R_of_G (F := pf14) rfl rfl rfl ?_
  simp (disch := first | omega | with_unfolding_all rfl) [pf14, env0_eq]
  refine G_scanC [0, 1] 5 (fun _ => false) xs.length 0 (by simp) (Nat.zero_le _) ?_
  rintro i e - hi hz hk hci
  simp at hk
  simp (disch := first | omega | with_unfolding_all rfl) [hk, hci]
  refine G_brd (fun h => ?_) (fun h => ?_)
  · simp (disch := first | omega | with_unfolding_all rfl) [h]
  · simp (disch := first | omega | with_unfolding_all rfl) [h]
/-- The links that are left of the first ones. -/
def fadeN (ls : List Lk) (pc : Int) : Nat → List Lk
  | 0 => []
  | i + 1 => fadeN ls pc i ++ (match ls[i]? with | some l => if 0 < l.room * pc / 100 then [⟨l.fr, l.to, l.room * pc / 100⟩] else [] | none => [])
theorem fadeN_len (ls : List Lk) (pc : Int) (i : Nat) : (fadeN ls pc i).length ≤ i := by
  induction i with
  | zero => simp [fadeN]
  | succ i ih =>
    simp only [fadeN, List.length_append]
    have : (match ls[i]? with | some l => if 0 < l.room * pc / 100 then [(⟨l.fr, l.to, l.room * pc / 100⟩ : Lk)] else [] | none => []).length ≤ 1 := by
      split
      · split <;> simp
      · simp
    omega
def fadeErr (n : Int) (ls : List Lk) (pc : Int) : Int := if valErr n ls ≠ 0 then valErr n ls else if pc < 0 ∨ 100 < pc then 1 else 0
theorem mul_room {r pc : Int} (h1 : 1 ≤ r) (h2 : r ≤ 1000000) (h3 : 0 ≤ pc) (h4 : pc ≤ 100) : 0 ≤ r * pc ∧ r * pc ≤ 100000000 := by
  constructor
  · exact Int.mul_nonneg (by omega) h3
  · calc r * pc ≤ 1000000 * pc := Int.mul_le_mul_of_nonneg_right h2 h3
      _ ≤ 1000000 * 100 := Int.mul_le_mul_of_nonneg_left h4 (by omega)
theorem fade_ok (n : Int) (nl : Nl) (ls : List Lk) (hl : ls.length ≤ 2000) (pc : Int) :
    R tb 13 [.int .i64 n, lst nl ls, .int .i64 pc] = some (if fadeErr n ls pc ≠ 0 then .tup [.list .nil 1 [], .int .i64 (fadeErr n ls pc)] else .tup [lst .any (fadeN ls pc ls.length), .int .i64 0]) := by
  have hm : maxLen = 9223372036854775807 := rfl
  have hv := validate_ok n nl ls (by omega)
  refine R_of_G (F := pf13) rfl rfl rfl ?_
  simp (disch := first | omega | with_unfolding_all rfl) [pf13, env0_eq, hv]
  by_cases h0 : valErr n ls = 0
  case neg => simp (disch := first | omega | with_unfolding_all rfl) [h0, fadeErr]
  simp (disch := first | omega | with_unfolding_all rfl) [h0, within_ok]
  refine G_br (fun h1 => ?_) (fun h1 => ?_)
  case refine_2 =>
    have h1' : pc < 0 ∨ 100 < pc := by simp [wi] at h1; omega
    simp (disch := first | omega | with_unfolding_all rfl) [h1, h0, fadeErr, h1']
  have h1' : 0 ≤ pc ∧ pc ≤ 100 := by simpa [wi] using h1
  have he : fadeErr n ls pc = 0 := by simp [fadeErr, h0]; omega
  simp (disch := first | omega | with_unfolding_all rfl) [h1, he]
  refine G_scanK [2, 21, 22] (fun i e h => get e 23 = .int .i64 (i : Int) ∧ get e 9 = mls Lk 0 (fadeN ls pc i).length (fadeN ls pc i).length ∧ h = [bk 36 (fadeN ls pc i).length (fadeN ls pc i)]) (fun _ => false) ls.length 0 ?_ (Nat.zero_le _) ?_
  · simp [fadeN, mls]
  rintro i e h - hi hz hk ⟨g1, g2, rfl⟩
  simp at hk
  have hfl := fadeN_len ls pc i
  simp (disch := first | omega | with_unfolding_all rfl) [hk, g1, g2]
  refine G_brd (fun h2 => ?_) (fun h2 => ?_)
  · obtain ⟨hr1, hr2⟩ := rooms h0 i h2
    obtain ⟨hm1, hm2⟩ := mul_room hr1 hr2 h1'.1 h1'.2
    have hq : (ls[i].room * pc).tdiv 100 = ls[i].room * pc / 100 := tdiv_nn hm1
    have hf : fadeN ls pc (i + 1) = fadeN ls pc i ++ (if 0 < ls[i].room * pc / 100 then [⟨ls[i].fr, ls[i].to, ls[i].room * pc / 100⟩] else []) := by simp [fadeN, h2]
    simp (disch := first | omega | with_unfolding_all rfl) [h2, hq]
    refine G_brd (fun h3 => ?_) (fun h3 => ?_)
    · rw [if_pos h3] at hf
      simp (disch := first | omega | with_unfolding_all rfl) [h3, hf, h2]
    · rw [if_neg h3] at hf
      simp (disch := first | omega | with_unfolding_all rfl) [h3, hf, h2]
  · obtain rfl : i = ls.length := by omega
    simp (disch := first | omega | with_unfolding_all rfl) [h2]
theorem refFade_ok (n : Int) (nl : Nl) (ls : List Lk) (hl : ls.length ≤ 2000) (pc : Int) :
    R tb 12 [.int .i64 n, lst nl ls, .int .i64 pc] = some (if fadeErr n ls pc ≠ 0 then .tup [.list .nil 1 [], .int .i64 (fadeErr n ls pc)] else .tup [lst .any (fadeN ls pc ls.length), .int .i64 0]) := by
  have hm : maxLen = 9223372036854775807 := rfl
  have hv := refValidate_ok n nl ls (by omega)
  refine R_of_G (F := pf12) rfl rfl rfl ?_
  simp (disch := first | omega | with_unfolding_all rfl) [pf12, env0_eq, hv]
  by_cases h0 : valErr n ls = 0
  case neg => simp (disch := first | omega | with_unfolding_all rfl) [h0, fadeErr]
  simp (disch := first | omega | with_unfolding_all rfl) [h0]
  refine G_grdn (fun h1 => ?_) (fun h1 => ?_)
  case refine_2 => simp (disch := first | omega | with_unfolding_all rfl) [h1, h0, fadeErr]
  simp (disch := first | omega | with_unfolding_all rfl) [h1]
  refine G_brd (fun h2 => ?_) (fun h2 => ?_)
  · simp (disch := first | omega | with_unfolding_all rfl) [h1, h2, h0, fadeErr]
  have h1' : 0 ≤ pc ∧ pc ≤ 100 := by omega
  have he : fadeErr n ls pc = 0 := by simp [fadeErr, h0]; omega
  simp (disch := first | omega | with_unfolding_all rfl) [h2, he]
  refine G_scanK [1, 2] (fun i e h => get e 10 = .int .i64 (i : Int) ∧ get e 9 = mls Lk 0 (fadeN ls pc i).length (fadeN ls pc i).length ∧ h = [bk 36 (fadeN ls pc i).length (fadeN ls pc i)]) (fun _ => false) ls.length 0 ?_ (Nat.zero_le _) ?_
  · simp [fadeN, mls]
  rintro i e h - hi hz hk ⟨g1, g2, rfl⟩
  simp at hk
  have hfl := fadeN_len ls pc i
  simp (disch := first | omega | with_unfolding_all rfl) [hk, g1, g2]
  refine G_brd (fun h2 => ?_) (fun h2 => ?_)
  · obtain ⟨hr1, hr2⟩ := rooms h0 i h2
    obtain ⟨hm1, hm2⟩ := mul_room hr1 hr2 h1'.1 h1'.2
    have hq : (ls[i].room * pc).tdiv 100 = ls[i].room * pc / 100 := tdiv_nn hm1
    have hf : fadeN ls pc (i + 1) = fadeN ls pc i ++ (if 0 < ls[i].room * pc / 100 then [⟨ls[i].fr, ls[i].to, ls[i].room * pc / 100⟩] else []) := by simp [fadeN, h2]
    simp (disch := first | omega | with_unfolding_all rfl) [h2, hq]
    refine G_brd (fun h3 => ?_) (fun h3 => ?_)
    · rw [if_pos h3] at hf
      simp (disch := first | omega | with_unfolding_all rfl) [h3, hf, h2]
    · rw [if_neg h3] at hf
      simp (disch := first | omega | with_unfolding_all rfl) [h3, hf, h2]
  · obtain rfl : i = ls.length := by omega
    simp (disch := first | omega | with_unfolding_all rfl) [h2]
theorem fades_ok (n : Int) (nl : Nl) (hnl : nl ≠ .bor) (ls : List Lk) (pc : Int) : R tb 4 [.int .i64 n, lst nl ls, .int .i64 pc] = some (.bool true) := by
  have hm : maxLen = 9223372036854775807 := rfl
  have h1 := far_ok nl ls
  refine R_of_G (F := pf4) rfl rfl rfl ?_
  simp (disch := first | omega | with_unfolding_all rfl) [pf4, env0_eq, h1]
  by_cases hl : 2000 < ls.length
  · simp (disch := first | omega | with_unfolding_all rfl) [hl, known_ok]
  have h2 := fade_ok n nl ls (by omega) pc
  have h3 := refFade_ok n nl ls (by omega) pc
  by_cases he : fadeErr n ls pc = 0
  · have hfl := fadeN_len ls pc ls.length
    have h4 := sameLks_ok .any .any (fadeN ls pc ls.length) (by omega)
    simp (disch := first | omega | with_unfolding_all rfl) [hl, h2, h3, he, h4, known_ok]
  · have h4 : R tb 14 [.list .nil 1 [], .list .nil 1 []] = some (.bool true) := R_of (n := 100) (by kernel_rfl)
    simp (disch := first | omega | with_unfolding_all rfl) [hl, h2, h3, he, h4, known_ok]
end Go.Proofs.Ytbkhmgcfgfcilaa
