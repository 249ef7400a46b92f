/- Spans: lists that are made by adding, as plain facts. -/
import Derived.Test.YtpnhdcjfhlcgoaaSpanBack
set_option linter.unusedVariables false
set_option linter.unusedSimpArgs false
set_option maxHeartbeats 1000000
namespace Go.Proofs.Ytpnhdcjfhlcgoaa
open Go.Proofs.Ytpnhdcjfhlcgoaa.PM

def pr (W : Nat) (s : Sp) : Int := prI s.k (btw W s.a s.b).length
def sumC (W : Nat) (L : List Sp) : Int := (L.map (pr W)).sum
def sumK (F : List Sp) : Int := (F.map fun s => 1 - s.k).sum
theorem sumC_perm {W : Nat} {L M : List Sp} (h : L.Perm M) : sumC W L = sumC W M := by
  induction h with
  | nil => rfl
  | cons x _ ih => simpa [sumC] using ih
  | swap x y l => simp only [sumC, List.map_cons, List.sum_cons]; omega
  | trans _ _ h1 h2 => exact h1.trans h2
theorem sumC_add {W : Nat} {L : List Sp} {s : Sp} : sumC W (srtS (L ++ [s])) = sumC W L + pr W s := by
  rw [sumC_perm (srtS_perm _)]
  simp [sumC]
theorem sumC_take {W : Nat} {L : List Sp} {i : Nat} (hi : i < L.length) : sumC W (L.take (i + 1)) = sumC W (L.take i) + pr W (spn L i) := by
  rw [List.take_succ_eq_append_getElem hi, spn_get hi]
  simp [sumC]
theorem sumK_take {F : List Sp} {i : Nat} (hi : i < F.length) : sumK (F.take (i + 1)) = sumK (F.take i) + (1 - (spn F i).k) := by
  rw [List.take_succ_eq_append_getElem hi, spn_get hi]
  simp [sumK]
theorem sumC_rg {W : Nat} : ∀ {L : List Sp}, (∀ s ∈ L, 0 ≤ pr W s ∧ pr W s ≤ 1000000) → 0 ≤ sumC W L ∧ sumC W L ≤ L.length * 1000000
  | [], _ => by simp [sumC]
  | s :: L, h => by
    have h1 := h s (by simp)
    have h2 := sumC_rg (L := L) fun t ht => h t (by simp [ht])
    unfold sumC at h2 ⊢
    simp only [List.map_cons, List.sum_cons, List.length_cons]
    push_cast
    omega
theorem sumK_rg : ∀ {F : List Sp}, (∀ s ∈ F, s.k = 0 ∨ s.k = 1) → 0 ≤ sumK F ∧ sumK F ≤ F.length
  | [], _ => by simp [sumK]
  | s :: F, h => by
    have h1 := h s (by simp)
    have h2 := sumK_rg (F := F) fun t ht => h t (by simp [ht])
    unfold sumK at h2 ⊢
    simp only [List.map_cons, List.sum_cons, List.length_cons]
    push_cast
    omega
theorem sumK_0 : ∀ {F : List Sp}, (∀ s ∈ F, s.k = 1) → sumK F = 0
  | [], _ => rfl
  | s :: F, h => by
    have h1 := h s (by simp)
    have h2 := sumK_0 (F := F) fun t ht => h t (by simp [ht])
    unfold sumK at h2 ⊢
    simp only [List.map_cons, List.sum_cons]
    omega
theorem sumK_1 : ∀ {F : List Sp}, (∀ s ∈ F, s.k = 0 ∨ s.k = 1) → (F.Pairwise fun x y => ¬ (x.k = 0 ∧ y.k = 0)) → sumK F ≤ 1
  | [], _, _ => by simp [sumK]
  | s :: F, h, hp => by
    have h1 := h s (by simp)
    rw [List.pairwise_cons] at hp
    have h2 := sumK_1 (F := F) (fun t ht => h t (by simp [ht])) hp.2
    rcases h1 with h1 | h1
    · have h3 := sumK_0 (F := F) fun t ht => by
        have := hp.1 t ht
        rcases h t (by simp [ht]) with q | q
        · exact absurd ⟨h1, q⟩ this
        · exact q
      unfold sumK at h3 ⊢
      simp only [List.map_cons, List.sum_cons]
      omega
    · unfold sumK at h2 ⊢
      simp only [List.map_cons, List.sum_cons]
      omega
theorem mt_over {l : Ld} {W : Nat} {x y : Sp} {t : Int} (hx : x.k = 0) (hy : y.k = 0) (h1 : ovp W t x = true) (h2 : ovp W t y = true) : mtS l W x y = true := by
  unfold ovp at h1 h2
  have h3 : (btw W x.a x.b).any (inL (btw W y.a y.b)) = true := by
    rw [List.any_eq_true]
    refine ⟨t, ?_, h2⟩
    unfold inL at h1
    rw [List.any_eq_true] at h1
    obtain ⟨z, hz, hzt⟩ := h1
    have : z = t := by simpa using hzt
    rwa [← this]
  unfold mtS
  simp [hx, hy, h3]
theorem over_1 {l : Ld} {L : List Sp} (h : Made l L) (t : Int) : sumK (L.filter (ovp l.w.toNat t)) ≤ 1 ∧ 0 ≤ sumK (L.filter (ovp l.w.toNat t)) := by
  have hk : ∀ s ∈ L.filter (ovp l.w.toNat t), s.k = 0 ∨ s.k = 1 := by
    intro s hs
    rw [List.mem_filter] at hs
    rcases h with rfl | h
    · simp at hs
    · have := ((lst_iff l L).1 h.1).2.2 s hs.1
      obtain ⟨hk, _⟩ := sErr_0 this
      exact hk
  refine ⟨sumK_1 hk ?_, (sumK_rg hk).1⟩
  have h2 : (L.filter (ovp l.w.toNat t)).Pairwise fun x y => mtS l l.w.toNat x y = false ∨ mtS l l.w.toNat y x = false := List.Pairwise.filter _ h.nm
  refine (List.Pairwise.imp_of_mem (fun {x y} hx hy hxy => ?_) h2)
  rintro ⟨kx, ky⟩
  rw [List.mem_filter] at hx hy
  rcases hxy with q | q
  · rw [mt_over kx ky hx.2 hy.2] at q; cases q
  · rw [mt_over ky kx hy.2 hx.2] at q; cases q
end Go.Proofs.Ytpnhdcjfhlcgoaa
