/- Links: the library's search. -/
import Derived.Test.YtbkhmgcfgfcilaaPmNineteen
import Derived.Test.YtbkhmgcfgfcilaaFlowAGr
import Derived.Test.YtbkhmgcfgfcilaaFlowAFade
set_option linter.unusedVariables false
set_option linter.unusedSimpArgs false
set_option maxHeartbeats 1000000
namespace Go.Proofs.Ytbkhmgcfgfcilaa
open Go.Proofs.Ytbkhmgcfgfcilaa.PM

theorem wrapu_in {a : Int} (h1 : 0 ≤ a) (h2 : a ≤ 9223372036854775807) : IntKind.u64.wrap a = a := by
  simp only [IntKind.wrap, IntKind.bits, IntKind.signed]
  simp
  omega
def fnd (l : Lk) (ls : List Lk) (p : Nat) : Bool := match ls[p]? with | some x => decide (x.fr = l.fr ∧ x.to = l.to) | none => false
theorem search_ok {nl : Nl} {ls : List Lk} {l : Lk} (hl : ls.length ≤ 10000) (hs : ls.Pairwise ltL) : ∃ p, p ≤ ls.length ∧ (∀ j (h : j < ls.length), j < p → ltL ls[j] l) ∧ (∀ j (h : j < ls.length), p ≤ j → ¬ ltL ls[j] l) ∧
    R tb 25 [lst nl ls, vLk l, .clo (.func 26) [] []] = some (.tup [.int .i64 p, .bool (fnd l ls p)]) := by
  rw [List.pairwise_iff_getElem] at hs
  obtain ⟨p, hp, h1, h2⟩ : ∃ p, p ≤ ls.length ∧ (∀ j (h : j < ls.length), j < p → ltL ls[j] l) ∧ (∀ j (h : j < ls.length), p ≤ j → ¬ ltL ls[j] l) := by
    refine ⟨ls.findIdx fun x => !decide (ltL x l), List.findIdx_le_length, fun j h hj => ?_, fun j h hj => ?_⟩
    · have := List.not_of_lt_findIdx hj
      simpa only [Bool.not_eq_false, Bool.not_eq_true', Bool.not_eq_false', decide_eq_true_eq] using this
    · have h3 : ls.findIdx (fun x => !decide (ltL x l)) < ls.length := by omega
      have h4 := List.findIdx_getElem (w := h3)
      have h5 : ¬ ltL ls[ls.findIdx fun x => !decide (ltL x l)] l := by
        simpa only [Bool.not_eq_true', decide_eq_false_iff_not] using h4
      intro h6
      by_cases e : j = ls.findIdx fun x => !decide (ltL x l)
      · subst e
        exact h5 h6
      · exact h5 (ltL_trans (hs _ j h3 h (by omega)) h6)
  refine ⟨p, hp, h1, h2, ?_⟩
  refine R_of_G (F := pf25) rfl rfl rfl ?_
  simp (disch := first | omega | with_unfolding_all rfl) [pf25, env0_eq]
  refine G_loopK [0, 2, 4, 8] (fun (a : Nat × Nat) e h => a.1 ≤ p ∧ p ≤ a.2 ∧ a.2 ≤ ls.length ∧ get e 9 = .int .i64 (a.1 : Int) ∧ get e 10 = .int .i64 (a.2 : Int) ∧ h = []) (fun a => a.2 - a.1) (a₀ := (0, ls.length)) ?_ ?_
  · simp; omega
  rintro ⟨i, j⟩ e h hk ⟨hi, hj, hjl, g9, g10, rfl⟩
  simp at hk
  dsimp only at hi hj hjl
  simp (disch := first | omega | with_unfolding_all rfl) [hk, g9, g10]
  refine G_brd (fun h => ?_) (fun h => ?_)
  · obtain ⟨m, hmD⟩ : ∃ m, m = (i + j) / 2 := ⟨_, rfl⟩
    have hmi : i ≤ m ∧ m < j := by omega
    have hm : IntKind.i64.wrap ((IntKind.u64.wrap ((i : Int) + (j : Int))).fdiv (2 ^ min 1 IntKind.u64.bits)) = (m : Int) := by
      rw [wrapu_in (a := (i : Int) + (j : Int)) (by omega) (by omega), show ((2 : Int) ^ min 1 IntKind.u64.bits) = 2 from rfl, Int.fdiv_eq_ediv_of_nonneg _ (by omega), IntKind.wrap_i64]
      omega
    have hcl := compareLinks_ok ls[m] l
    obtain ⟨c, hc⟩ : ∃ c, c = cmpLk ls[m] l := ⟨_, rfl⟩
    rw [← hc] at hcl
    have hclt : c < 0 ↔ ltL ls[m] l := by rw [hc]; exact cmp_lt _ _
    simp only [vLk] at hcl
    simp (disch := first | omega | with_unfolding_all rfl) [hk, g9, g10, hm, h, hcl]
    refine G_brd (fun h3 => ?_) (fun h3 => ?_)
    · have h4 := hclt.1 h3
      have h5 : m < p := by
        apply Nat.lt_of_not_le
        intro q
        exact h2 m (by omega) q h4
      simp (disch := first | omega | with_unfolding_all rfl) [hk, g9, g10]
      exact ⟨m + 1, j, by omega, by omega, by omega, by omega, by omega, by omega⟩
    · have h4 : ¬ ltL ls[m] l := fun q => h3 (hclt.2 q)
      have h5 : p ≤ m := by
        apply Nat.le_of_not_lt
        intro q
        exact h4 (h1 m (by omega) q)
      simp (disch := first | omega | with_unfolding_all rfl) [hk, g9, g10]
      exact ⟨i, m, by omega, by omega, by omega, by omega, by omega, by omega⟩
  · have hip : i = p := by omega
    subst hip
    simp (disch := first | omega | with_unfolding_all rfl) [hk, g9, g10, h]
    refine G_grdd (fun h3 => ?_) (fun h3 => ?_)
    · have hcl := compareLinks_ok ls[i] l
      have hce := cmp_eq ls[i] l
      obtain ⟨c, hc⟩ : ∃ c, c = cmpLk ls[i] l := ⟨_, rfl⟩
      rw [← hc] at hcl hce
      simp only [vLk] at hcl
      have hf : fnd l ls i = decide (c = 0) := by simp [fnd, h3, hce]
      rw [hf]
      simp (disch := first | omega | with_unfolding_all rfl) [hk, g9, g10, h3, hcl]
    · have hf : fnd l ls i = false := by simp [fnd, h3]
      rw [hf]
      simp (disch := first | omega | with_unfolding_all rfl) [hk, g9, g10, h3]
end Go.Proofs.Ytbkhmgcfgfcilaa
