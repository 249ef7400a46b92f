/- Demand: the shares, as plain facts; tables of rows. -/
import Derived.Test.YtbkhmgcfgfcilaaFlowADem1
set_option linter.unusedVariables false
set_option linter.unusedSimpArgs false
set_option maxHeartbeats 1000000
set_option maxRecDepth 20000
namespace Go.Proofs.Ytbkhmgcfgfcilaa
open Go.Proofs.Ytbkhmgcfgfcilaa.PM

def sumN (f : Nat → Int) (k : Nat) : Int := ((List.range k).map f).sum
theorem sumN_succ (f : Nat → Int) (k : Nat) : sumN f (k + 1) = sumN f k + f k := by simp [sumN, List.range_succ]
theorem sumN_le {f g : Nat → Int} : ∀ k, (∀ i, i < k → f i ≤ g i) → sumN f k ≤ sumN g k
  | 0, _ => by simp [sumN]
  | k + 1, h => by
    rw [sumN_succ, sumN_succ]
    have h1 := sumN_le k fun i hi => h i (by omega)
    have h2 := h k (by omega)
    omega
theorem sumN_const (c : Int) : ∀ k, sumN (fun _ => c) k = k * c
  | 0 => by simp [sumN]
  | k + 1 => by
    rw [sumN_succ, sumN_const c k, Int.natCast_succ, Int.add_mul, Int.one_mul]
theorem sumN_add (f g : Nat → Int) : ∀ k, sumN (fun i => f i + g i) k = sumN f k + sumN g k
  | 0 => by simp [sumN]
  | k + 1 => by
    simp only [sumN_succ, sumN_add f g k]
    omega
theorem sumN_mul (c : Int) (f : Nat → Int) : ∀ k, sumN (fun i => c * f i) k = c * sumN f k
  | 0 => by simp [sumN]
  | k + 1 => by
    simp only [sumN_succ, sumN_mul c f k]
    rw [Int.mul_add]
theorem sumN_congr {f g : Nat → Int} {k : Nat} (h : ∀ i, i < k → f i = g i) : sumN f k = sumN g k := by
  have h1 := sumN_le k fun i hi => Int.le_of_eq (h i hi)
  have h2 := sumN_le k fun i hi => Int.le_of_eq (h i hi).symm
  omega
/-- All but one. -/
theorem sumN_but (f : Nat → Int) (a : Nat) : ∀ k, sumN (fun i => if i = a then 0 else f i) k = sumN f k - (if a < k then f a else 0)
  | 0 => by simp [sumN]
  | k + 1 => by
    rw [sumN_succ, sumN_succ, sumN_but f a k]
    by_cases h1 : k = a
    · subst h1; simp
    · by_cases h2 : a < k
      · simp [h1, h2, show a < k + 1 by omega]; omega
      · simp [h1, h2, show ¬ a < k + 1 by omega]
def okS (S : List Int) : Prop := ∀ i, i < S.length → 0 ≤ zz S i ∧ zz S i ≤ 1000000
def totS (S : List Int) : Int := sumN (zz S) S.length
def othS (S : List Int) (a : Nat) : Int := totS S - zz S a
theorem tot_rg {S : List Int} (h : okS S) (k : Nat) (hk : k ≤ S.length) : 0 ≤ sumN (zz S) k ∧ sumN (zz S) k ≤ k * 1000000 := by
  have h1 := sumN_le (f := fun _ => 0) (g := zz S) k fun i hi => (h i (by omega)).1
  have h2 := sumN_le (f := zz S) (g := fun _ => 1000000) k fun i hi => (h i (by omega)).2
  rw [sumN_const] at h1 h2
  omega
theorem oth_eq {S : List Int} {a : Nat} (ha : a < S.length) : othS S a = sumN (fun b => if b = a then 0 else zz S b) S.length := by
  rw [sumN_but, if_pos ha]; rfl
theorem oth_ge {S : List Int} (h : okS S) {a b : Nat} (ha : a < S.length) (hb : b < S.length) (hab : b ≠ a) : zz S b ≤ othS S a := by
  rw [oth_eq ha]
  have h1 := sumN_but (fun i => if i = a then 0 else zz S i) b S.length
  rw [if_pos hb, if_neg hab] at h1
  have h2 := sumN_le (f := fun _ => 0) (g := fun i => if i = b then 0 else if i = a then 0 else zz S i) S.length fun i hi => by
    split
    · omega
    · split
      · omega
      · exact (h i hi).1
  rw [sumN_const] at h2
  omega
def qq (S : List Int) (a b : Nat) : Int := if b = a then 0 else if 0 < othS S a then zz S a * zz S b / othS S a else 0
theorem qq_rg {S : List Int} (h : okS S) {a b : Nat} (ha : a < S.length) (hb : b < S.length) : 0 ≤ qq S a b ∧ qq S a b ≤ zz S a := by
  have h1 := h a ha
  have h2 := h b hb
  unfold qq
  split
  · omega
  · rename_i hab
    split
    · rename_i hT
      have h3 := oth_ge h ha hb hab
      refine ⟨Int.ediv_nonneg (Int.mul_nonneg h1.1 h2.1) (by omega), ?_⟩
      refine Int.ediv_le_of_le_mul hT ?_
      exact Int.mul_le_mul_of_nonneg_left h3 h1.1
    · omega
def bR (S : List Int) (a k : Nat) : List Int := (List.range k).map (qq S a) ++ List.replicate (S.length - k) 0
theorem len_bR {S : List Int} {a k : Nat} (hk : k ≤ S.length) : (bR S a k).length = S.length := by simp [bR]; omega
theorem bR_set {S : List Int} {a k : Nat} (hk : k < S.length) : (bR S a k).set k (qq S a k) = bR S a (k + 1) := by
  unfold bR
  rw [List.set_append_right _ _ (by simp), List.range_succ, List.map_append, List.append_assoc]
  congr 1
  have : S.length - k = (S.length - (k + 1)) + 1 := by omega
  rw [this, List.replicate_succ]
  simp
theorem bR_same {S : List Int} {a k : Nat} (hk : k < S.length) (h : qq S a k = 0) : bR S a (k + 1) = bR S a k := by
  unfold bR
  rw [List.range_succ, List.map_append, List.append_assoc]
  congr 1
  have : S.length - k = (S.length - (k + 1)) + 1 := by omega
  rw [this, List.replicate_succ]
  simp [h]
theorem bR_get {S : List Int} {a k b : Nat} (hk : k ≤ S.length) (hb : b < S.length) : zz (bR S a k) b = if b < k then qq S a b else 0 := by
  unfold bR zz
  rw [List.getD_eq_getElem?_getD]
  by_cases h : b < k
  · rw [List.getElem?_append_left (by simpa using h)]
    simp [h]
  · rw [List.getElem?_append_right (by simp; omega)]
    simp [h, List.getElem?_replicate]
    split <;> rfl
def leftS (S : List Int) (a k : Nat) : Int := zz S a - sumN (qq S a) k
theorem left_rg {S : List Int} (h : okS S) {a : Nat} (ha : a < S.length) (k : Nat) (hk : k ≤ S.length) : leftS S a k ≤ 1000000 ∧ -(k * 1000000) ≤ leftS S a k := by
  have h0 := h a ha
  have h1 := sumN_le (f := fun _ => 0) (g := qq S a) k fun i hi => (qq_rg h ha (by omega)).1
  have h2 := sumN_le (f := qq S a) (g := fun _ => 1000000) k fun i hi => Int.le_trans (qq_rg h ha (by omega)).2 h0.2
  rw [sumN_const] at h1 h2
  unfold leftS
  omega
def demRow (S : List Int) (a : Nat) : List Int := incR (bR S a S.length) ((ordS S a).take (leftS S a S.length).toNat)
theorem len_demRow (S : List Int) (a : Nat) : (demRow S a).length = S.length := by unfold demRow; rw [len_incR, len_bR (Nat.le_refl _)]
def demRows (S : List Int) (k : Nat) : List (List Int) := (List.range k).map (demRow S)
theorem demRows_succ (S : List Int) (k : Nat) : demRows S (k + 1) = demRows S k ++ [demRow S k] := by simp [demRows, List.range_succ]
@[simp] theorem len_demRows (S : List Int) (k : Nat) : (demRows S k).length = k := by simp [demRows]

/-- Cells that name rows of their own. -/
def Rows (h : Hp) (n : Nat) (cells : List PV) (rows : List (List Int)) : Prop :=
  cells.length = rows.length ∧ ∀ j (hj : j < rows.length), rows[j].length = n ∧ ∃ ix, cells[j]? = some (.msl true ix 0 0 n 1) ∧ 0 < ix ∧ h[ix]? = some (bk 3 0 rows[j])
theorem Rows.app {h : Hp} {n : Nat} {cells : List PV} {rows : List (List Int)} (H : Rows h n cells rows) (X : Hp) : Rows (h ++ X) n cells rows := by
  refine ⟨H.1, fun j hj => ?_⟩
  obtain ⟨h0, ix, h1, h2, h3⟩ := H.2 j hj
  exact ⟨h0, ix, h1, h2, by rw [List.getElem?_append_left (List.getElem?_eq_some_iff.1 h3).1]; exact h3⟩
theorem Rows.set0 {h : Hp} {n : Nat} {cells : List PV} {rows : List (List Int)} (H : Rows h n cells rows) (B : Blk) : Rows (h.set 0 B) n cells rows := by
  refine ⟨H.1, fun j hj => ?_⟩
  obtain ⟨h0, ix, h1, h2, h3⟩ := H.2 j hj
  exact ⟨h0, ix, h1, h2, by rw [List.getElem?_set_ne (by omega)]; exact h3⟩
theorem Rows.snoc {h : Hp} {n : Nat} {cells : List PV} {rows : List (List Int)} (H : Rows h n cells rows) {r : List Int} {ix : Nat} (hr : r.length = n) (hx : 0 < ix) (hh : h[ix]? = some (bk 3 0 r)) : Rows h n (cells ++ [.msl true ix 0 0 n 1]) (rows ++ [r]) := by
  refine ⟨by simp [H.1], fun j hj => ?_⟩
  by_cases hjr : j < rows.length
  · rw [List.getElem_append_left hjr, List.getElem?_append_left (by rw [H.1]; exact hjr)]
    exact H.2 j hjr
  · obtain rfl : j = rows.length := by simp at hj; omega
    rw [List.getElem_append_right (Nat.le_refl _), List.getElem?_append_right (by rw [H.1]; exact Nat.le_refl _)]
    simp [H.1, hr]
    exact ⟨ix, rfl, hx, hh⟩
def tabV (rows : List (List Int)) : PV := .list .any 1 (rows.map fun r => lst .any r)
theorem mapO_of {f : PV → Option PV} : ∀ (xs ys : List PV), xs.length = ys.length → (∀ j (h : j < xs.length) (h' : j < ys.length), f xs[j] = some ys[j]) → mapO f xs = some ys
  | [], [], _, _ => rfl
  | [], _ :: _, h, _ => by simp at h
  | _ :: _, [], h, _ => by simp at h
  | x :: xs, y :: ys, h, hf => by
    have h0 := hf 0 (by simp) (by simp)
    have h1 := mapO_of xs ys (by simpa using h) fun j h h' => hf (j + 1) (by simpa using h) (by simpa using h')
    simp only [List.getElem_cons_zero] at h0
    rw [mapO_cons, h0, h1]
    rfl
theorem clean_rows : ∀ rows : List (List Int), PV.cleanLB (rows.map fun r => (lst .any r : PV)) = true
  | [] => rfl
  | r :: rows => by
    show (_ && PV.cleanLB (rows.map fun r => (lst .any r : PV))) = true
    rw [clean_rows rows, Bool.and_true]
    show (PV.list .any 1 (cl r)).cleanB = true
    simp [PV.cleanB, clean_cl]
theorem frzRows {h : Hp} {n g k : Nat} {cells : List PV} {rows : List (List Int)} (H : Rows h n cells rows) (h0 : h[0]? = some ⟨22, g, cells⟩) : frz h .any (k + 3) (.msl true 0 g 0 cells.length 1) = some (tabV rows) := by
  have hf : frz h .any (k + 3) (.msl true 0 g 0 cells.length 1) = if cells.length = 0 then some (.list .any 1 []) else
      (srcOf (.msl true 0 g 0 cells.length 1) 1 h).bind fun ys => (mapO (frz h .any (k + 2)) ys).bind fun ys' => if Nl.any == .bor || PV.cleanLB ys' then some (.list .any 1 ys') else none := rfl
  rw [hf]
  split
  · rename_i hz
    have : rows = [] := List.length_eq_zero_iff.1 (by rw [← H.1]; exact hz)
    subst this
    rfl
  · rename_i hz
    have hs : srcOf (.msl true 0 g 0 cells.length 1) 1 h = some cells := by
      simp [srcOf, h0, hz]
    have hm : mapO (frz h .any (k + 2)) cells = some (rows.map fun r => lst .any r) := by
      refine mapO_of _ _ (by simp [H.1]) fun j hj hj' => ?_
      obtain ⟨hl, ix, h1, _, h3⟩ := H.2 j (by rw [← H.1]; exact hj)
      rw [List.getElem?_eq_getElem hj, Option.some.injEq] at h1
      rw [h1, List.getElem_map]
      have := frz_mlsC (α := Int) (H := h) (nl' := .any) (n := k) (b := ix) (gen := 0) (m := n)
      refine this.trans ?_
      rw [h3, frzB_bk hl.symm]
      simp
    rw [hs]
    simp only [Option.bind_some]
    rw [hm]
    simp only [Option.bind_some]
    rw [clean_rows]
    rfl
end Go.Proofs.Ytbkhmgcfgfcilaa
