/- Spans: lists that are right, as plain facts. -/
import Derived.Test.YtpnhdcjfhlcgoaaSpanAddA
set_option linter.unusedVariables false
set_option linter.unusedSimpArgs false
set_option maxHeartbeats 1000000
namespace Go.Proofs.Ytpnhdcjfhlcgoaa
open Go.Proofs.Ytpnhdcjfhlcgoaa.PM

def Srt (ss : List Sp) : Prop := ss.Pairwise fun x y => ltS x y = true
theorem ltS_tr {x y z : Sp} (h1 : ltS x y = true) (h2 : ltS y z = true) : ltS x z = true := by rw [ltS_iff] at *; omega
theorem ltS_irr (x : Sp) : ltS x x = false := by rw [ltS_no]; omega
theorem ltS_asym {x y : Sp} (h : ltS x y = true) : ltS y x = false := by rw [ltS_iff] at h; rw [ltS_no]; omega
theorem srt_iff (ss : List Sp) : Srt ss ↔ ∀ i, 0 < i → i < ss.length → ltS (spn ss (i - 1)) (spn ss i) = true := by
  constructor
  · intro h i h0 hi
    have := List.pairwise_iff_getElem.1 h (i - 1) i (by omega) hi (by omega)
    rwa [spn_get, spn_get] at this
  · intro h
    refine List.pairwise_iff_getElem.2 fun i j hi hj hij => ?_
    rw [spn_get, spn_get]
    clear hi
    induction j with
    | zero => omega
    | succ j ih =>
      have h1 := h (j + 1) (by omega) hj
      rw [Nat.add_sub_cancel] at h1
      rcases Nat.lt_or_ge i j with q | q
      · exact ltS_tr (ih (by omega) q) h1
      · obtain rfl : i = j := by omega
        exact h1
theorem lst_iff (l : Ld) (ss : List Sp) : lstErr l ss = 0 ↔ landErr l = 0 ∧ Srt ss ∧ ∀ s ∈ ss, errS l s = 0 := by
  have hbad : ∀ i, badS l ss i = false ↔ ((0 < i → ltS (spn ss (i - 1)) (spn ss i) = true) ∧ errS l (spn ss i) = 0) := by
    intro i
    unfold badS
    by_cases h0 : 0 < i <;> simp [h0]
  constructor
  · intro h
    unfold lstErr at h
    split at h
    · rename_i h1
      split at h
      · cases h
      rename_i h2
      have h3 := fun i hi => (hbad i).1 (anyN_off (by simpa using h2) (Nat.zero_le i) hi)
      refine ⟨h1, (srt_iff ss).2 fun i h0 hi => (h3 i hi).1 h0, fun s hs => ?_⟩
      obtain ⟨i, hi, rfl⟩ := List.getElem_of_mem hs
      rw [spn_get]
      exact (h3 i hi).2
    · rename_i h1; exact absurd h h1
  · rintro ⟨h1, h2, h3⟩
    unfold lstErr
    rw [if_pos h1, if_neg]
    have : anyN (badS l ss) 0 ss.length = false := anyN_f fun j h0 hj => (hbad j).2 ⟨fun q => (srt_iff ss).1 h2 j q (by omega), by
      have := h3 ss[j] (List.getElem_mem (by omega))
      rwa [spn_get] at this⟩
    rw [this]
    simp
theorem srt_nodup {ss : List Sp} (h : Srt ss) : ss.Nodup := by
  refine List.Pairwise.imp (fun {x y} hxy => ?_) h
  rintro rfl
  rw [ltS_irr] at hxy
  cases hxy
theorem srt_uniq {l1 l2 : List Sp} (h1 : Srt l1) (h2 : Srt l2) (hp : l1.Perm l2) : l1 = l2 :=
  hp.eq_of_pairwise (fun a b _ _ ha hb => by rw [ltS_asym ha] at hb; cases hb) h1 h2
theorem srtS_perm (zs : List Sp) : (srtS zs).Perm zs := List.mergeSort_perm zs _
theorem srtS_srt {zs : List Sp} (hn : zs.Nodup) : Srt (srtS zs) := by
  have h1 : (srtS zs).Pairwise fun x y => (!(ltOf cmS) y x) = true := List.pairwise_mergeSort (fun a b c h1 h2 => by
    rw [ltOf_cmS] at *
    simp only [Bool.not_eq_true'] at *
    rw [ltS_no] at *
    omega) (fun a b => by
    rw [ltOf_cmS, ltOf_cmS]
    cases h : ltS a b
    · simp
    · simp [ltS_asym h]) zs
  have h2 : (srtS zs).Nodup := (srtS_perm zs).nodup_iff.2 hn
  refine (List.Pairwise.and h1 h2).imp (fun {x y} hxy => ?_)
  obtain ⟨h3, h4⟩ := hxy
  rw [ltOf_cmS] at h3
  cases h5 : ltS x y
  · exact absurd (ltS_tot h5 (by simpa using h3)) h4
  · rfl

/-- No two of the spans meet. -/
def NM (l : Ld) (ss : List Sp) : Prop := ss.Pairwise fun x y => mtS l l.w.toNat x y = false ∨ mtS l l.w.toNat y x = false
theorem share_self (s : Sp) : shareB s s = true := by simp [shareB]
theorem mt_share {l : Ld} {W : Nat} {s t : Sp} (h : mtS l W s t = false) : shareB s t = false := by
  unfold mtS at h
  simp only [Bool.or_eq_false_iff] at h
  exact h.1
theorem share_comm (s t : Sp) : shareB s t = shareB t s := by
  have : ∀ p q : Bool, (p = true ↔ q = true) → p = q := by decide
  apply this
  simp only [shareB, Bool.or_eq_true, decide_eq_true_eq]
  omega
theorem addE_0 {l : Ld} {ss : List Sp} {s : Sp} (h : addE l ss s = 0) : lstErr l ss = 0 ∧ errS l s = 0 ∧ (∀ t ∈ ss, mtS l l.w.toNat s t = false) ∧ ss.length < 40 := by
  unfold addE at h
  split at h
  · rename_i h1; exact absurd h h1
  · split at h
    · rename_i h1; exact absurd h h1
    · split at h
      · cases h
      · split at h
        · cases h
        · rename_i h1 h2 h3 h4
          refine ⟨by simpa using h1, by simpa using h2, fun t ht => ?_, by omega⟩
          have h5 : ss.any (mtS l l.w.toNat s) = false := by simpa using h3
          rw [List.any_eq_false] at h5
          simpa using h5 t ht
theorem add_nodup {l : Ld} {ss : List Sp} {s : Sp} (h : addE l ss s = 0) : (ss ++ [s]).Nodup := by
  obtain ⟨h1, _, h3, _⟩ := addE_0 h
  have hn := srt_nodup ((lst_iff l ss).1 h1).2.1
  rw [List.nodup_append]
  refine ⟨hn, by simp, fun a ha b hb => ?_⟩
  simp only [List.mem_singleton] at hb
  subst hb
  rintro rfl
  have := mt_share (h3 a ha)
  rw [share_self] at this
  cases this
theorem add_lst {l : Ld} {ss : List Sp} {s : Sp} (h : addE l ss s = 0) : lstErr l (srtS (ss ++ [s])) = 0 := by
  obtain ⟨h1, h2, h3, _⟩ := addE_0 h
  obtain ⟨h4, h5, h6⟩ := (lst_iff l ss).1 h1
  refine (lst_iff _ _).2 ⟨h4, srtS_srt (add_nodup h), fun t ht => ?_⟩
  rw [(srtS_perm _).mem_iff, List.mem_append, List.mem_singleton] at ht
  rcases ht with ht | rfl
  · exact h6 t ht
  · exact h2
theorem NM_sym {l : Ld} : ∀ {x y : Sp}, (mtS l l.w.toNat x y = false ∨ mtS l l.w.toNat y x = false) → (mtS l l.w.toNat y x = false ∨ mtS l l.w.toNat x y = false) := fun h => h.symm
theorem add_NM {l : Ld} {ss : List Sp} {s : Sp} (h : addE l ss s = 0) (hn : NM l ss) : NM l (srtS (ss ++ [s])) := by
  obtain ⟨h1, h2, h3, _⟩ := addE_0 h
  refine ((srtS_perm _).pairwise_iff NM_sym).2 ?_
  rw [List.pairwise_append]
  refine ⟨hn, List.pairwise_singleton _ _, fun a ha b hb => ?_⟩
  simp only [List.mem_singleton] at hb
  subst hb
  exact .inr (h3 a ha)
theorem NM_at {l : Ld} {ss : List Sp} (h : NM l ss) {i j : Nat} (hi : i < ss.length) (hj : j < ss.length) (hij : i ≠ j) : mtS l l.w.toNat (spn ss i) (spn ss j) = false ∨ mtS l l.w.toNat (spn ss j) (spn ss i) = false := by
  have key : ∀ i j, i < ss.length → j < ss.length → i < j → mtS l l.w.toNat (spn ss i) (spn ss j) = false ∨ mtS l l.w.toNat (spn ss j) (spn ss i) = false := fun i j hi hj hij => by
    have := List.pairwise_iff_getElem.1 h i j hi hj hij
    rwa [spn_get, spn_get] at this
  rcases Nat.lt_or_ge i j with q | q
  · exact key i j hi hj q
  · exact (key j i hj hi (by omega)).symm
theorem NM_share {l : Ld} {ss : List Sp} (h : NM l ss) {i j : Nat} (hi : i < ss.length) (hj : j < ss.length) (hij : i ≠ j) : shareB (spn ss i) (spn ss j) = false := by
  rcases NM_at h hi hj hij with q | q
  · exact mt_share q
  · rw [share_comm]; exact mt_share q
/-- Dropping what was added. -/
theorem add_drop {l : Ld} {ss : List Sp} {s : Sp} (h : addE l ss s = 0) {n : Int} (hn : n = s.a ∨ n = s.b) :
    ∃ i, hdF (srtS (ss ++ [s])) n = some i ∧ spn (srtS (ss ++ [s])) i = s ∧ (srtS (ss ++ [s])).take i ++ (srtS (ss ++ [s])).drop (i + 1) = ss := by
  obtain ⟨h1, h2, h3, _⟩ := addE_0 h
  obtain ⟨h4, h5, h6⟩ := (lst_iff l ss).1 h1
  have hp := srtS_perm (ss ++ [s])
  have hs := srtS_srt (add_nodup h)
  generalize srtS (ss ++ [s]) = a at *
  have hsa : s ∈ a := hp.mem_iff.2 (by simp)
  obtain ⟨j, hj, hjs⟩ := List.getElem_of_mem hsa
  rw [spn_get] at hjs
  have hHs : isH n s = true := by unfold isH; rcases hn with rfl | rfl <;> simp
  cases hF : hdF a n with
  | none =>
    unfold hdF firstN at hF
    rw [List.find?_eq_none] at hF
    have := hF j (List.mem_range.2 hj)
    rw [hjs, hHs] at this
    simp at this
  | some i =>
    obtain ⟨hi, hH, _⟩ := hdF_spec hF
    have hia : spn a i ∈ ss ++ [s] := hp.mem_iff.1 (by rw [← spn_get hi]; exact List.getElem_mem hi)
    have his : spn a i = s := by
      rw [List.mem_append, List.mem_singleton] at hia
      rcases hia with q | q
      · exfalso
        have h7 := mt_share (h3 _ q)
        unfold isH at hH
        unfold shareB at h7
        simp only [Bool.or_eq_true, decide_eq_true_eq, Bool.or_eq_false_iff, decide_eq_false_iff_not] at hH h7
        omega
      · exact q
    refine ⟨i, rfl, his, ?_⟩
    have e1 : a = a.take i ++ s :: a.drop (i + 1) := by
      rw [← his, ← spn_get hi, List.getElem_cons_drop, List.take_append_drop]
    have hsub : (a.take i ++ a.drop (i + 1)).Sublist a := by
      conv => rhs; rw [e1]
      exact List.Sublist.append_left (List.sublist_cons_self _ _) _
    refine srt_uniq (List.Pairwise.sublist hsub hs) h5 ?_
    have hp2 : (s :: (a.take i ++ a.drop (i + 1))).Perm (s :: ss) := by
      refine (List.perm_middle.symm.trans ?_).trans (hp.trans (List.perm_append_singleton s ss))
      rw [← e1]
    exact hp2.cons_inv
end Go.Proofs.Ytpnhdcjfhlcgoaa
