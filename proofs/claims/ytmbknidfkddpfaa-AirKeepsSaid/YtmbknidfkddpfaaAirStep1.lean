/- Airports: a tick: what is free, whose turn it is, in plain terms and of the small functions. -/
import Derived.Test.YtmbknidfkddpfaaAirStable
import Derived.Test.YtmbknidfkddpfaaAirWays
set_option linter.unusedVariables false
set_option linter.unusedSimpArgs false
set_option maxHeartbeats 1000000
namespace Go.Proofs.Ytmbknidfkddpfaa
open Go.Proofs.Ytmbknidfkddpfaa.PM

@[simp] theorem pureB_agg1 (ys : List PV) : PV.pureB (.agg ys) = PV.pureLB ys := by rw [PV.pureB]
@[simp] theorem pureLB_mls {α : Type} [Enc α] (b g n : Nat) (r : List PV) : PV.pureLB (mls α b g n :: r) = false := by rw [PV.pureLB, pureB_mls, Bool.false_and]

def hitK (pl : List Pl) (k : Int) (j : Nat) : Bool := match pl[j]? with | some q => decide (q.pos = k) | none => false
def freeAt (ns : List Nd) (pl : List Pl) (k : Nat) : Bool := decide (kd ns k = 0) || !anyN (hitK pl k) 0 pl.length
theorem least_ex {f : Nat → Bool} : ∀ n, f n = true → ∃ j, j ≤ n ∧ f j = true ∧ ∀ i, i < j → f i = false := by
  intro n
  induction n using Nat.strongRecOn with
  | _ n ih =>
    intro hn
    by_cases h : ∃ i, i < n ∧ f i = true
    · obtain ⟨i, hi, hf⟩ := h
      obtain ⟨j, h1, h2, h3⟩ := ih i hi hf
      exact ⟨j, by omega, h2, h3⟩
    · refine ⟨n, Nat.le_refl _, hn, fun i hi => ?_⟩
      cases hf : f i
      · rfl
      · exact absurd ⟨i, hi, hf⟩ h
theorem eqPos_ok (p : Pl) (b : Bool) (k : Int) : R tb 42 [.agg [.int .i64 p.pos, .int .i64 p.wish, .int .i64 p.since, .int .i64 p.speed, .int .i64 p.left], .pptr b [.int .i64 k] 0] = some (.bool (decide (p.pos = k))) := by
  refine R_of_G (F := pf42) rfl rfl rfl ?_
  simp (disch := first | omega | with_unfolding_all rfl) [pf42, env0_eq]
theorem contains_ok (nl : Nl) (pl : List Pl) (hb : pl.length ≤ 400) (b : Bool) (k : Int) : R tb 41 [lst nl pl, .clo (.func 42) [] [.pptr b [.int .i64 k] 0]] = some (.bool (anyN (hitK pl k) 0 pl.length)) := by
  have h1 : ∃ x : Int, R tb 53 [lst nl pl, .clo (.func 42) [] [.pptr b [.int .i64 k] 0]] = some (.int .i64 x) ∧ decide (0 ≤ x) = anyN (hitK pl k) 0 pl.length := by
    cases ha : anyN (hitK pl k) 0 pl.length
    · refine ⟨-1, ?_, by decide⟩
      refine R_of_G (F := pf53) rfl rfl rfl ?_
      simp (disch := first | omega | with_unfolding_all rfl) [pf53, env0_eq]
      refine G_scanC [0, 1, 7] 8 (fun _ => false) pl.length 0 (by simp) (Nat.zero_le _) ?_
      rintro i e - hi hz hk hci
      simp at hk
      simp (disch := first | omega | with_unfolding_all rfl) [hk, hci]
      refine G_brd (fun h2 => ?_) (fun h2 => ?_)
      · have h3 := anyN_off ha (Nat.zero_le i) h2
        have h4 : decide (pl[i].pos = k) = false := by simpa [hitK, h2] using h3
        simp (disch := first | omega | with_unfolding_all rfl) [h2, eqPos_ok, h4]
      · simp (disch := first | omega | with_unfolding_all rfl) [h2]
    · have hex : ∃ j, j < pl.length ∧ hitK pl k j = true ∧ ∀ i, i < j → hitK pl k i = false := by
        obtain ⟨i, -, h1, h2⟩ := anyN_of ha
        obtain ⟨j, hj, h3, h4⟩ := least_ex i h2
        exact ⟨j, by omega, h3, h4⟩
      obtain ⟨j, hj, hh, hmin⟩ := hex
      refine ⟨j, ?_, by simp⟩
      refine R_of_G (F := pf53) rfl rfl rfl ?_
      simp (disch := first | omega | with_unfolding_all rfl) [pf53, env0_eq]
      refine G_scanC [0, 1, 7] 8 (fun _ => false) j 0 (by simp) (Nat.zero_le _) ?_
      rintro i e - hi hz hk hci
      simp at hk
      have hil : i < pl.length := by omega
      have hd : hitK pl k i = decide (pl[i].pos = k) := by simp [hitK, hil]
      simp (disch := first | omega | with_unfolding_all rfl) [hk, hci, hil]
      by_cases hij : i = j
      · subst hij
        rw [hh] at hd
        simp (disch := first | omega | with_unfolding_all rfl) [hk, hci, eqPos_ok, ← hd]
      · have := hmin i (by omega)
        rw [this] at hd
        simp (disch := first | omega | with_unfolding_all rfl) [hk, hci, eqPos_ok, ← hd]
        omega
  obtain ⟨x, h1, h2⟩ := h1
  refine R_of_G (F := pf41) rfl rfl rfl ?_
  simp (disch := first | omega | with_unfolding_all rfl) [pf41, env0_eq, h1, h2]
theorem free40_ok (b : Bool) (nl nl2 : Nl) (ns : List Nd) (inn : Int) (pl : List Pl) (hb : pl.length ≤ 400) (now : Int) (k : Nat) (hk : k < ns.length) : R tb 40 [.int .i64 k, .pptr b [lst nl ns, .int .i64 inn, lst nl2 pl, .int .i64 now] 0] = some (.bool (freeAt ns pl k)) := by
  have hno := nodeOf_ok ⟨nl, ns, inn⟩ k (by omega) (by simp; omega)
  simp only [vFd, Int.toNat_natCast] at hno
  have hc := fun b => contains_ok nl2 pl hb b k
  refine R_of_G (F := pf40) rfl rfl rfl ?_
  simp (disch := first | omega | with_unfolding_all rfl) [pf40, env0_eq, hno, many_ok]
  refine G_grdn (fun h => ?_) (fun h => ?_)
  · simp (disch := first | omega | with_unfolding_all rfl) [h, hc, freeAt]
  · simp (disch := first | omega | with_unfolding_all rfl) [h, freeAt]
/-- The planes' order. -/
def since (pl : List Pl) (x : Int) : Int := match pl[x.toNat]? with | some p => p.since | none => 0
theorem cmp39 (b : Bool) (fd1 fd2 : PV) (nl : Nl) (pl : List Pl) (now : Int) (hs : ∀ p ∈ pl, 0 ≤ p.since ∧ p.since ≤ 1600000) : Cmp 39 [.pptr b [fd1, fd2, lst nl pl, .int .i64 now] 0] (since pl) (fun x => 0 ≤ x ∧ x < pl.length) := by
  refine ⟨fun H => rfl, fun x y hx hy => ⟨since pl x - since pl y, ?_, by omega⟩⟩
  have hx1 : x.toNat < pl.length := by omega
  have hy1 : y.toNat < pl.length := by omega
  have h1 := hs _ (List.getElem_mem hx1)
  have h2 := hs _ (List.getElem_mem hy1)
  refine R_of_G (F := pf39) rfl rfl rfl ?_
  simp (disch := first | omega | with_unfolding_all rfl) [pf39, env0_eq, since, hx1, hy1]
def ordN (pl : List Pl) : Nat → List Int
  | 0 => []
  | i + 1 => ordN pl i ++ (match pl[i]? with | some p => if 0 ≤ p.pos then [(i : Int)] else [] | none => [])
theorem ordN_lt (pl : List Pl) (i : Nat) : ∀ x ∈ ordN pl i, 0 ≤ x ∧ x < i ∧ ∃ p, pl[x.toNat]? = some p ∧ 0 ≤ p.pos := by
  induction i with
  | zero => intro x h; cases h
  | succ i ih =>
    intro x h
    simp only [ordN, List.mem_append] at h
    rcases h with h | h
    · have := ih x h; exact ⟨this.1, by omega, this.2.2⟩
    · split at h
      · rename_i p hp
        split at h
        · rename_i hpos
          rw [List.mem_singleton.1 h]
          exact ⟨by omega, by omega, p, by simpa using hp, hpos⟩
        · cases h
      · cases h
theorem ordN_pair (pl : List Pl) (i : Nat) : (ordN pl i).Pairwise (· < ·) := by
  induction i with
  | zero => exact List.Pairwise.nil
  | succ i ih =>
    simp only [ordN]
    rw [List.pairwise_append]
    refine ⟨ih, ?_, fun x hx y hy => ?_⟩
    · split
      · split <;> simp
      · simp
    · split at hy
      · split at hy
        · rw [List.mem_singleton.1 hy]; exact (ordN_lt pl i x hx).2.1
        · cases hy
      · cases hy
theorem ordN_len (pl : List Pl) (i : Nat) : (ordN pl i).length ≤ i := by
  induction i with
  | zero => simp [ordN]
  | succ i ih =>
    simp only [ordN, List.length_append]
    have : (match pl[i]? with | some p => if 0 ≤ p.pos then [(i : Int)] else [] | none => []).length ≤ 1 := by
      split
      · split <;> simp
      · simp
    omega
end Go.Proofs.Ytmbknidfkddpfaa
