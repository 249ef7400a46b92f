/- Airports: the order of the planes' turns, of the document's answer. -/
import Derived.Test.YtmbknidfkddpfaaPmTwenty
import Derived.Test.YtmbknidfkddpfaaAirStep1
set_option linter.unusedVariables false
set_option linter.unusedSimpArgs false
set_option maxHeartbeats 4000000
namespace Go.Proofs.Ytmbknidfkddpfaa
open Go.Proofs.Ytmbknidfkddpfaa.PM

section
variable {key : Int → Int}
theorem ins_pair {l : List Int} {i : Int} {a : Nat} (hl : l.Pairwise (tl key)) (hlt : ∀ x ∈ l, x < i) (ha : a ≤ l.length) (h0 : a = 0 ∨ ∃ (h : a - 1 < l.length), key l[a - 1] ≤ key i)
    (h1 : ∀ j (hj : j < l.length), a ≤ j → key i < key l[j]) : (l.take a ++ i :: l.drop a).Pairwise (tl key) := by
  have hle : ∀ x ∈ l.take a, tl key x i := by
    intro x hx
    obtain ⟨j, hj, rfl⟩ := List.getElem_of_mem hx
    rw [List.length_take] at hj
    rw [List.getElem_take]
    have hxi := hlt l[j] (List.getElem_mem (by omega))
    rcases h0 with h0 | ⟨h0, h2⟩
    · omega
    · by_cases hja : j = a - 1
      · subst hja
        unfold tl; omega
      · have := List.pairwise_iff_getElem.1 hl j (a - 1) (by omega) (by omega) (by omega)
        unfold tl at *; omega
  have hge : ∀ x ∈ l.drop a, tl key i x := by
    intro x hx
    obtain ⟨j, hj, rfl⟩ := List.getElem_of_mem hx
    rw [List.length_drop] at hj
    rw [List.getElem_drop]
    have := h1 (a + j) (by omega) (by omega)
    exact .inl this
  have hl' := hl
  rw [← List.take_append_drop a l, List.pairwise_append] at hl'
  rw [List.pairwise_append]
  refine ⟨hl'.1, List.pairwise_cons.2 ⟨hge, hl'.2.1⟩, fun x hx y hy => ?_⟩
  rcases List.mem_cons.1 hy with rfl | hy
  · exact hle x hx
  · exact hl'.2.2 x hx y hy
theorem ins_sort {l M : List Int} {i : Int} {a : Nat} (hl : l = sortT key M) (hM : M.Nodup) (hlt : ∀ x ∈ M, x < i) (ha : a ≤ l.length) (h0 : a = 0 ∨ ∃ (h : a - 1 < l.length), key l[a - 1] ≤ key i)
    (h1 : ∀ j (hj : j < l.length), a ≤ j → key i < key l[j]) : l.take a ++ i :: l.drop a = sortT key (M ++ [i]) := by
  subst hl
  refine sortT_uniq ?_ (ins_pair (sortT_pair key M hM) (fun x hx => hlt x ((sortT_perm key M).mem_iff.1 hx)) ha h0 h1)
  have h2 : (List.take a (sortT key M) ++ i :: List.drop a (sortT key M)).Perm (i :: (List.take a (sortT key M) ++ List.drop a (sortT key M))) := List.perm_middle
  rw [List.take_append_drop] at h2
  exact (h2.trans ((sortT_perm key M).cons i)).trans (List.perm_append_singleton i M).symm
end
theorem srcI {b off len gen : Nat} {H : Hp} {g : Nat} {l : List Int} (hb : H[b]? = some (bk 3 gen l)) (hg : g = gen) (ho : off + len ≤ l.length) : srcOf (.msl true b g off len 1) 1 H = some (cl ((l.drop off).take len)) := by
  subst hg
  simp only [srcOf, hb, bk, if_true]
  have h1 : ∀ l : List Int, cl l = l.map (fun x => PV.int .i64 x) := by
    intro l
    induction l with
    | nil => rfl
    | cons x l ih => rw [cl_cons, ih]; rfl
  by_cases h0 : len = 0
  · subst h0; simp [h1]
  · rw [if_neg h0, if_pos (by simp [h1]; omega)]
    simp [h1]
@[simp] theorem hp_last (h : Hp) (x : Blk) : (h ++ [x] : Hp)[List.length h]? = some x := by simp
@[simp] theorem hp_set (h : Hp) (x y : Blk) : (h ++ [x] : Hp).set (List.length h) y = h ++ [y] := by simp
theorem slI_lo {b gen n : Nat} {i : Int} (h0 : 0 ≤ i) (h1 : i ≤ n) : evSlc 1 (mls Int b gen n) (some (.int .i64 i)) none none = some (.msl true b gen i.toNat (n - i.toNat) 1) := by
  have h2 : i.toNat ≤ n := by omega
  show evSlc 1 (.msl true b gen 0 n 1) _ _ _ = _
  simp only [evSlc, optIx, ixIn, if_true, if_pos h0, Option.bind_some, Nat.zero_add, Nat.mul_one, h2, Nat.le_refl, and_self]
theorem slI_hi {b gen n : Nat} {i : Int} (h0 : 0 ≤ i) (h1 : i ≤ n) : evSlc 1 (mls Int b gen n) none (some (.int .i64 i)) none = some (mls Int b gen i.toNat) := by
  have h2 : i.toNat ≤ n := by omega
  show evSlc 1 (.msl true b gen 0 n 1) _ _ _ = some (.msl true b gen 0 i.toNat 1)
  simp only [evSlc, optIx, ixIn, if_true, if_pos h0, Option.bind_some, Nat.zero_add, Nat.zero_mul, Nat.sub_zero, h2, Nat.zero_le, and_self]
theorem appNil {b gen a : Nat} {H : Hp} {l : List Int} (hb : H[b]? = some (bk 3 gen l)) (ha : a ≤ l.length) (hl : l.length ≤ 400) : evApp 3 1 8 (.list .nil 1 []) (mls Int b gen a) H = if a = 0 then some (.list .nil 1 [], H) else some (mls Int H.length 1 a, H ++ [bk 3 1 (l.take a)]) := by
  have hs : srcOf (mls Int b gen a) 1 H = some (cl (l.take a)) := srcI (off := 0) hb rfl (by omega)
  split
  · subst a
    exact evApp_nil (α := Int) (nl := .nil) (xs := []) (by rw [hs]; rfl)
  · have := evApp_lst (α := Int) (nl := .nil) (xs := []) (e := 3) (bytes := 8) (H := H) rfl (.inl rfl) hs (by intro q; have := congrArg List.length q; rw [List.length_take] at this; simp only [List.length_nil] at this; omega) (by simp; omega)
    rw [show (([] : List Int).length + (l.take a).length) = a by simp; omega] at this
    exact this
theorem appOne {b gen off len : Nat} {H : Hp} {l : List Int} {x : Int} (hb : H[b]? = some (bk 3 gen l)) (ha : off + len = l.length) (hl : l.length ≤ 400) : evApp 3 1 8 (lst .ex [x]) (.msl true b gen off len 1) H = if len = 0 then some (lst .ex [x], H) else some (mls Int H.length 1 (len + 1), H ++ [bk 3 1 (x :: l.drop off)]) := by
  have hs := srcI (off := off) (len := len) hb rfl (by omega)
  rw [List.take_of_length_le (by simp; omega)] at hs
  split
  · subst len
    exact evApp_nil (α := Int) (nl := .ex) (xs := [x]) (by rw [hs, List.drop_of_length_le (by omega)]; rfl)
  · have := evApp_lst (α := Int) (nl := .ex) (xs := [x]) (e := 3) (bytes := 8) (H := H) rfl (.inr rfl) hs (by intro q; have := congrArg List.length q; simp at this; omega) (by simp; omega)
    rw [show (([x] : List Int).length + (l.drop off).length) = len + 1 by simp; omega] at this
    exact this
theorem appMls {b gen n c g m : Nat} {H : Hp} {xs ys : List Int} (hb : H[b]? = some (bk 3 gen xs)) (hc : H[c]? = some (bk 3 g ys)) (hn : n = xs.length) (hm : m = ys.length) (hy : ys ≠ []) (hl : n + m ≤ 800) : evApp 3 1 8 (mls Int b gen n) (mls Int c g m) H = some (mls Int b (gen + 1) (n + m), H.set b (bk 3 (gen + 1) (xs ++ ys))) := by
  subst hm
  exact evApp_mls rfl (srcOf_mls hc rfl rfl) hy hb hn (by omega)
theorem appNilA {c g m : Nat} {H : Hp} {ys : List Int} (hc : H[c]? = some (bk 3 g ys)) (hm : m = ys.length) (hy : ys ≠ []) (hl : m ≤ 800) : evApp 3 1 8 (.list .nil 1 []) (mls Int c g m) H = some (mls Int H.length 1 m, H ++ [bk 3 1 ys]) := by
  subst hm
  have := evApp_lst (α := Int) (nl := .nil) (xs := []) (e := 3) (bytes := 8) (H := H) rfl (.inl rfl) (srcOf_mls (s := 1) hc rfl rfl) hy (by simp; omega)
  rw [show (([] : List Int).length + ys.length) = ys.length by simp] at this
  exact this
/-- The list of turns, in the heap. -/
def Ord (pls : List Pl) (i : Nat) (v : PV) (h : Hp) : Prop :=
  (ordN pls i = [] ∧ v = .list .nil 1 []) ∨ ∃ b gen, b < h.length ∧ sortT (since pls) (ordN pls i) ≠ [] ∧ v = mls Int b gen (ordN pls i).length ∧ h[b]? = some (bk 3 gen (sortT (since pls) (ordN pls i)))
theorem Ord.app {pls : List Pl} {i : Nat} {v : PV} {h : Hp} (x : Blk) (H : Ord pls i v h) : Ord pls i v (h ++ [x]) := by
  rcases H with H | ⟨b, gen, g2, g3, g4, g5⟩
  · exact .inl H
  · exact .inr ⟨b, gen, by rw [List.length_append]; exact Nat.lt_add_right _ g2, g3, g4, by rw [List.getElem?_append_left g2]; exact g5⟩
theorem line_ok (nl : Nl) (pls : List Pl) (hb : pls.length ≤ 400) :
    R tb 45 [lst nl pls] = some (if ordN pls pls.length = [] then .list .nil 1 [] else lst .any (sortT (since pls) (ordN pls pls.length))) := by
  have hm : maxLen = 9223372036854775807 := rfl
  refine R_of_G (F := pf45) rfl rfl rfl ?_
  simp (disch := first | omega | with_unfolding_all rfl) [pf45, env0_eq]
  refine G_scanK [0, 8, 9] (fun i e h => get e 10 = .int .i64 (i : Int) ∧ Ord pls i (get e 3) h) (fun _ => false) pls.length 0 ?_ (Nat.zero_le _) ?_
  · simp [Ord, ordN]
  rintro i e h - hi - hk ⟨g1, g2⟩
  simp at hk
  have hol := ordN_len pls i
  simp (disch := first | omega | with_unfolding_all rfl) [hk, g1]
  refine G_brd (fun h1 => ?_) (fun h1 => ?_)
  case refine_2 =>
    obtain rfl : i = pls.length := by omega
    rcases g2 with ⟨g2, g3⟩ | ⟨b, gen, g2, g3, g4, g5⟩
    · simp (disch := first | omega | with_unfolding_all rfl) [h1, g2, g3]
    · have hne : ordN pls pls.length ≠ [] := by intro q; rw [q] at g3; exact g3 rfl
      have hgb : h[b] = bk 3 gen (sortT (since pls) (ordN pls pls.length)) := by
        rw [List.getElem?_eq_getElem g2] at g5; exact Option.some.inj g5
      have hsl : (sortT (since pls) (ordN pls pls.length)).length = (ordN pls pls.length).length := (sortT_perm _ _).length_eq
      simp (disch := first | omega | with_unfolding_all rfl) [h1, g2, g4, hgb, hne]
  have hof : ordN pls (i + 1) = ordN pls i ++ (if 0 ≤ pls[i].pos then [(i : Int)] else []) := by simp [ordN, h1]
  simp (disch := first | omega | with_unfolding_all rfl) [h1]
  refine G_brd (fun h2 => ?_) (fun h2 => ?_)
  · rw [if_neg (by omega), List.append_nil] at hof
    simp (disch := first | omega | with_unfolding_all rfl) [h1, h2]
    have := g2.app ⟨47, 0, [.int .i64 pls[i].pos, .int .i64 pls[i].wish, .int .i64 pls[i].since, .int .i64 pls[i].speed, .int .i64 pls[i].left]⟩
    unfold Ord at this ⊢
    rw [hof]
    exact this
  rw [if_pos (by omega)] at hof
  simp (disch := first | omega | with_unfolding_all rfl) [h1, h2]
  have hsl : (sortT (since pls) (ordN pls i)).length = (ordN pls i).length := (sortT_perm _ _).length_eq
  have g3 := g2.app ⟨47, 0, [.int .i64 pls[i].pos, .int .i64 pls[i].wish, .int .i64 pls[i].since, .int .i64 pls[i].speed, .int .i64 pls[i].left]⟩
  have hlast := hp_last h ⟨47, 0, [.int .i64 pls[i].pos, .int .i64 pls[i].wish, .int .i64 pls[i].since, .int .i64 pls[i].speed, .int .i64 pls[i].left]⟩
  have hz : List.length h < List.length (h ++ [(⟨47, 0, [.int .i64 pls[i].pos, .int .i64 pls[i].wish, .int .i64 pls[i].since, .int .i64 pls[i].speed, .int .i64 pls[i].left]⟩ : Blk)]) := by simp
  generalize h ++ [(⟨47, 0, [.int .i64 pls[i].pos, .int .i64 pls[i].wish, .int .i64 pls[i].since, .int .i64 pls[i].speed, .int .i64 pls[i].left]⟩ : Blk)] = H1 at *
  generalize List.length h = bp at *
  clear g2
  generalize PM.get e 3 = v3 at *
  rcases g3 with ⟨g2, rfl⟩ | ⟨b, gen, g2, g3, rfl, g5⟩
  · have n1 : evSlc 1 (.list .nil 1 []) (some (.int .i64 0)) none none = some (.list .nil 1 []) := rfl
    have n2 : evSlc 1 (.list .nil 1 []) none (some (.int .i64 0)) none = some (.list .nil 1 []) := rfl
    have n3 : ∀ H : Hp, evApp 3 1 8 (lst .ex [(i : Int)]) (.list .nil 1 []) H = some (lst .ex [(i : Int)], H) := fun H => evApp_nil rfl
    have n4 : ∀ H : Hp, evApp 3 1 8 (.list .nil 1 []) (.list .nil 1 []) H = some (.list .nil 1 [], H) := fun H => rfl
    have n5 : evApp 3 1 8 (.list .nil 1 []) (lst .ex [(i : Int)]) H1 = some (mls Int H1.length 1 1, H1 ++ [bk 3 1 [(i : Int)]]) := evApp_lst (α := Int) (nl := .nil) (xs := []) (ys := [(i : Int)]) rfl (.inl rfl) rfl (by simp) (by simp)
    have hof' : sortT (since pls) (ordN pls (i + 1)) = [(i : Int)] := by rw [hof, g2]; rfl
    simp (disch := first | omega | with_unfolding_all rfl)
    rw [G_unroll]
    simp (disch := first | omega | with_unfolding_all rfl) [n1, n2, n3, n4, n5]
    refine .inr ⟨List.length H1, 1, by simp, by rw [hof']; simp, by rw [hof, g2]; rfl, by rw [hof']; simp⟩
  have hgb : H1[b] = bk 3 gen (sortT (since pls) (ordN pls i)) := by
    rw [List.getElem?_eq_getElem g2] at g5; exact Option.some.inj g5
  have hgp : H1[bp] = ⟨47, 0, [PV.int IntKind.i64 pls[i].pos, PV.int IntKind.i64 pls[i].wish, PV.int IntKind.i64 pls[i].since, PV.int IntKind.i64 pls[i].speed, PV.int IntKind.i64 pls[i].left]⟩ := by
    rw [List.getElem?_eq_getElem hz] at hlast; exact Option.some.inj hlast
  have hdom : ∀ x ∈ ordN pls i, 0 ≤ x ∧ x < i := fun x hx => ⟨(ordN_lt _ _ x hx).1, (ordN_lt _ _ x hx).2.1⟩
  have hM : (ordN pls i).Nodup := (ordN_pair pls i).imp (fun h e => by omega)
  have hseti : since pls i = pls[i].since := by simp [since, h1]
  have hfin := fun (a : Nat) ha h0 h1 => ins_sort (key := since pls) (i := (i : Int)) (a := a) (l := sortT (since pls) (ordN pls i)) (M := ordN pls i) rfl hM (fun x hx => (hdom x hx).2) ha h0 h1
  have hdl : ∀ x ∈ sortT (since pls) (ordN pls i), 0 ≤ x ∧ x < i := fun x hx => hdom x ((sortT_perm _ _).mem_iff.1 hx)
  rw [← hof] at hfin
  have hnl : (ordN pls (i + 1)).length = (ordN pls i).length + 1 := by rw [hof]; simp
  have hol2 := ordN_len pls (i + 1)
  unfold Ord
  generalize sortT (since pls) (ordN pls (i + 1)) = l' at *
  generalize sortT (since pls) (ordN pls i) = l at *
  generalize hN' : (ordN pls (i + 1)).length = N' at *
  generalize hN : (ordN pls i).length = N at *
  have hlN : 0 < N := by
    rw [← hsl]; exact List.length_pos_iff.2 g3
  simp (disch := first | omega | with_unfolding_all rfl)
  refine G_scanK [0, 3, 4, 5, 8, 9, 10] (fun k e h => get e 6 = .int .i64 ((N - k : Nat) : Int) ∧ h = H1 ∧ ∀ j (hj : j < l.length), N - k ≤ j → pls[i].since < since pls l[j]) (fun _ => false) N 0 ?_ (Nat.zero_le _) ?_
  · refine ⟨by simp, rfl, fun j hj h => by omega⟩
  rintro k e h - hkN - hk2 ⟨g6, rfl, g7⟩
  simp at hk2
  simp (disch := first | omega | with_unfolding_all rfl) [hk2, g6]
  refine G_grdd (fun h3 => ?_) (fun h3 => ?_)
  · have hxk : N - k - 1 < l.length := by omega
    have hd := hdl _ (List.getElem_mem hxk)
    have hi2 : l[N - k - 1].toNat < pls.length := by omega
    simp (disch := first | omega | with_unfolding_all rfl) [h3, hk2, g6, hgb, hgp]
    refine G_brd (fun h4 => ?_) (fun h4 => ?_)
    · simp (disch := first | omega | with_unfolding_all rfl) [h3, h4, hk2, g6]
      refine ⟨by omega, by omega, fun j hj h5 => ?_⟩
      by_cases h6 : j = N - k - 1
      · subst h6; simpa [since, hi2] using h4
      · exact g7 j hj (by omega)
    have hL := hfin (N - k) (by omega) (.inr ⟨hxk, by rw [hseti]; simpa [since, hi2] using h4⟩) (by rw [hseti]; exact g7)
    have hLl := congrArg List.length hL
    simp at hLl
    have sA := slI_lo (b := b) (gen := gen) (n := N) (i := ((N - k : Nat) : Int)) (by omega) (by omega)
    have sB := slI_hi (b := b) (gen := gen) (n := N) (i := ((N - k : Nat) : Int)) (by omega) (by omega)
    rw [Int.toNat_natCast] at sA sB
    have aA := appOne (x := (i : Int)) (off := N - k) (len := N - (N - k)) g5 (by omega) (by omega)
    by_cases hk0 : k = 0
    · subst hk0
      rw [if_pos (by omega)] at aA
      have aB := appNil (a := N - 0) g5 (by omega) (by omega)
      rw [if_neg (by omega)] at aB
      rw [List.take_of_length_le (by omega)] at aB
      rw [List.take_of_length_le (by omega), List.drop_of_length_le (by omega)] at hL
      simp only [Nat.sub_zero, Nat.sub_self] at sA sB aA aB hL
      have aC : evApp 3 1 8 (mls Int h.length 1 N) (lst .ex [(i : Int)]) (h ++ [bk 3 1 l]) = some (mls Int h.length 2 (N + 1), (h ++ [bk 3 1 l]).set h.length (bk 3 2 (l ++ [(i : Int)]))) :=
        evApp_mls (α := Int) (ys := [(i : Int)]) rfl rfl (by simp) (by simp) (by omega) (by simp; omega)
      rw [hp_set, hL] at aC
      simp (disch := first | omega | with_unfolding_all rfl) [h3, h4, sA, sB, aA, aB, aC]
      exact .inr ⟨List.length h, by simp, by intro q; rw [q] at hLl; simp at hLl, 2, by rw [hnl], by simp⟩
    rw [if_neg (by omega)] at aA
    have hA5 : (h ++ [bk 3 1 ((i : Int) :: l.drop (N - k))])[b]? = some (bk 3 gen l) := by rw [List.getElem?_append_left g2]; exact g5
    have aB := appNil (a := N - k) hA5 (by omega) (by omega)
    rw [if_neg (by omega)] at aB
    have e1 : h ++ [bk 3 1 ((i : Int) :: l.drop (N - k))] ++ [bk 3 1 (l.take (N - k))] = h ++ [bk 3 1 ((i : Int) :: l.drop (N - k)), bk 3 1 (l.take (N - k))] := by simp
    have e2 : List.length (h ++ [bk 3 1 ((i : Int) :: l.drop (N - k))]) = List.length h + 1 := by simp
    rw [e1, e2] at aB
    have aC := appMls (H := h ++ [bk 3 1 ((i : Int) :: l.drop (N - k)), bk 3 1 (l.take (N - k))]) (b := List.length h + 1) (c := List.length h) (gen := 1) (g := 1) (n := N - k) (m := N - (N - k) + 1) (xs := l.take (N - k)) (ys := (i : Int) :: l.drop (N - k)) (by simp) (by simp) (by simp; omega) (by simp; omega) (by simp) (by omega)
    rw [hL] at aC
    have e3 : (h ++ [bk 3 1 ((i : Int) :: l.drop (N - k)), bk 3 1 (l.take (N - k))]).set (List.length h + 1) (bk 3 (1 + 1) l') = h ++ [bk 3 1 ((i : Int) :: l.drop (N - k)), bk 3 2 l'] := by simp
    rw [e3] at aC
    simp (disch := first | omega | with_unfolding_all rfl) [h3, h4, sA, sB, aA, aB, aC]
    exact .inr ⟨List.length h + 1, by simp, by intro q; rw [q] at hLl; simp at hLl, 2, by congr 1; omega, by simp⟩
  have hkN2 : k = N := by omega
  subst hkN2
  have sA := slI_lo (b := b) (gen := gen) (n := k) (i := 0) (by omega) (by omega)
  have sB := slI_hi (b := b) (gen := gen) (n := k) (i := 0) (by omega) (by omega)
  have aA := appOne (x := (i : Int)) (off := 0) (len := k) g5 (by omega) (by omega)
  rw [if_neg (by omega)] at aA
  have hA5 : (h ++ [bk 3 1 ((i : Int) :: l.drop 0)])[b]? = some (bk 3 gen l) := by rw [List.getElem?_append_left g2]; exact g5
  have aB := appNil (a := 0) hA5 (by omega) (by omega)
  rw [if_pos rfl] at aB
  rw [Int.toNat_zero] at sA sB
  rw [Nat.sub_zero] at sA
  have hL := hfin 0 (by omega) (.inl rfl) (by intro j hj _; rw [hseti]; exact g7 j hj (by omega))
  rw [List.drop_zero] at aA aB hL
  rw [List.take_zero, List.nil_append] at hL
  rw [hL] at aA aB
  have hLl := congrArg List.length hL
  simp at hLl
  have aA' : evApp 3 1 8 (lst .ex [(i : Int)]) (mls Int b gen k) h = some (mls Int (List.length h) 1 (k + 1), h ++ [bk 3 1 l']) := aA
  have aC := appNilA (H := h ++ [bk 3 1 l']) (c := List.length h) (g := 1) (m := k + 1) (ys := l') (by simp) (by omega) (by intro q; rw [q] at hLl; simp at hLl) (by omega)
  simp (disch := first | omega | with_unfolding_all rfl) [h3, hk2, g6, sA, sB, aA', aB, aC]
  exact .inr ⟨List.length h + 1, by simp, by intro q; rw [q] at hLl; simp at hLl, 1, by rw [hnl], by simp⟩
end Go.Proofs.Ytmbknidfkddpfaa
