/- Spans: the held tiles, as the program finds them. -/
import Derived.Test.YtpnhdcjfhlcgoaaSpanHold
import Derived.Test.YtpnhdcjfhlcgoaaSpanNat
set_option linter.unusedVariables false
set_option linter.unusedSimpArgs false
set_option maxHeartbeats 4000000
set_option maxRecDepth 20000
namespace Go.Proofs.Ytpnhdcjfhlcgoaa
open Go.Proofs.Ytpnhdcjfhlcgoaa.PM

/-- What one span holds, in the program's order. -/
def hld1 (W : Nat) (s : Sp) : List Int := [s.a, s.b] ++ (if s.k = 1 then [] else btw W s.a s.b)
def hld (W : Nat) (ss : List Sp) : List Int := ss.flatMap (hld1 W)
noncomputable def tb2 : Table := tbN natO2
theorem frz_cut {gen k : Nat} {H : Hp} (A Z : List Int) : frzB Int H .any k (some (bk 3 gen (A ++ Z))) gen A.length = some (lst .any A) := by
  unfold frzB
  split
  · rename_i h0
    rw [List.length_eq_zero_iff.1 h0]; rfl
  · have h2 : mapO (frz H .any (k + 1)) (cl A) = some (cl A) := mapO_cl .any k A
    have h3 : List.take (A.length * Enc.sz Int) (cl (A ++ Z)) = cl A := by
      rw [cl_append, List.take_append_of_le_length (by simp), ← length_cl, List.take_length]
    simp only [Option.bind_some]
    rw [if_pos ⟨trivial, by simp⟩]
    simp only [Option.bind_some, h3, h2]
    rw [if_pos (by simp)]
    rfl
theorem natO2_49 {b gen n : Nat} {H : Hp} : natO2 49 [.msl true b gen 0 n 1] H = if n = 0 then some (.tup [], H) else
      (H[b]?).bind fun B => if B.gen = gen ∧ B.e = 3 then (decI B.xs).bind fun zs => if zs.length = n ∧ n < 4611686018427387904 then some (.tup [], H.set b (bk 3 gen (srt zs))) else none else none := by
  with_unfolding_all rfl
theorem natO2_50 {b gen n : Nat} {H : Hp} : natO2 50 [.msl true b gen 0 n 1] H = if n = 0 then some (.msl true b gen 0 0 1, H) else
      (H[b]?).bind fun B => if B.gen = gen ∧ B.e = 3 then (decI B.xs).bind fun zs => if zs.length = n ∧ n < 4611686018427387904 then some (mls Int b gen (Lib.compact zs).length, H.set b (bk 3 gen (Lib.compact zs ++ List.replicate (zs.length - (Lib.compact zs).length) 0))) else none else none := by
  with_unfolding_all rfl
theorem natO2_47 {args : List PV} {H : Hp} : natO2 47 args H = none := by
  unfold natO2
  split
  · rfl
  · rfl
theorem sort_call {gen : Nat} {L : List Int} (hl : L.length < 4611686018427387904) : RO tb2 49 [mls Int 0 gen L.length] [bk 3 gen L] = some (.tup [], [bk 3 gen (srt L)]) := by
  refine ROn rfl (natO2_49.trans ?_)
  by_cases h : L.length = 0
  · rw [List.length_eq_zero_iff.1 h]
    simp [srt]
  · rw [if_neg h]
    simp only [List.getElem?_cons_zero, Option.bind_some, decI_cl]
    rw [if_pos ⟨trivial, trivial⟩, if_pos ⟨trivial, hl⟩]
    rfl
theorem compact_call {gen : Nat} {L : List Int} (hl : L.length < 4611686018427387904) : RO tb2 50 [mls Int 0 gen L.length] [bk 3 gen L] = some (mls Int 0 gen (Lib.compact L).length, [bk 3 gen (Lib.compact L ++ List.replicate (L.length - (Lib.compact L).length) 0)]) := by
  refine ROn rfl (natO2_50.trans ?_)
  by_cases h : L.length = 0
  · rw [List.length_eq_zero_iff.1 h]
    rfl
  · rw [if_neg h]
    simp only [List.getElem?_cons_zero, Option.bind_some, decI_cl]
    rw [if_pos ⟨trivial, trivial⟩, if_pos ⟨trivial, hl⟩]
    rfl

def heE (l : Ld) (ss : List Sp) : Int := lstErr l ss
noncomputable def heV (l : Ld) (ss : List Sp) : PV := if lstErr l ss = 0 then lst .any (Lib.compact (srt (hld l.w.toNat ss))) else .list .nil 1 []
theorem held_ok {l : Ld} (hf : l.nl ≠ .bor) (hb : l.xs.length ≤ 3000) {snl : Nl} {ss : List Sp} (hss : ss.length ≤ 300) : R tb2 26 [vL l, lst snl ss] = some (.tup [heV l ss, .int .i64 (lstErr l ss)]) := by
  have h1 := R2 (n2 := natO2) (list_ok hf hb (snl := snl) hss)
  have h4 : heV l ss = if lstErr l ss = 0 then lst .any (Lib.compact (srt (hld l.w.toNat ss))) else .list .nil 1 [] := rfl
  have h0 := fun h => lst_0 (l := l) (ss := ss) h
  have hgw := fun (h : landErr l = 0) => And.intro (good_nat h).w (And.intro (good_nat h).w4 (good_nat h).w32)
  have hse : ∀ s, errS l s = sErr l l.w.toNat l.h.toNat s.k s.a s.b s.u := fun _ => rfl
  have hwh := fun (h : landErr l = 0) => wh_le (good_nat h)
  generalize heV l ss = rv at *
  generalize hle : lstErr l ss = le at *
  obtain ⟨w, hh, nl, xs⟩ := l
  dsimp only at hf h1 h4 hse hgw hwh
  change R (tbN natO2) 26 _ = _
  refine R_of_G (F := pf26) (tbN_nat rfl) rfl rfl ?_
  by_cases c : le = 0
  case neg =>
    rw [if_neg c] at h4
    simp (disch := first | omega | with_unfolding_all rfl) [pf26, env0_eq, hf, h1, c, h4]
  rw [if_pos c] at h4
  obtain ⟨h01, h02⟩ := h0 c
  obtain ⟨hw, hw4, hw32⟩ := hgw h01
  have hwh := hwh h01
  simp (disch := first | omega | with_unfolding_all rfl) [pf26, env0_eq, hf, h1, c]
  generalize w.toNat = W at *
  subst hw
  refine G_loop (fun i e h => i ≤ ss.length ∧ ∃ gen, h = [bk 3 gen (hld W (ss.take i))] ∧ get e 2 = .pptr (!(nl != .bor)) [.int .i64 (W : Int), .int .i64 hh, lst nl xs] 0 ∧ get e 7 = mls Int 0 gen (hld W (ss.take i)).length ∧ get e 16 = lst snl ss ∧ get e 17 = .int .i64 (ss.length : Int) ∧ get e 18 = .int .i64 (i : Int)) (fun i => ss.length - i) (a₀ := 0) ?_ ?_
  · exact ⟨Nat.zero_le _, 0, by simp [hld], by simp, by simp [hld], by simp, by simp, by simp⟩
  rintro i e h ⟨hi, gen, rfl, g2, g7, g16, g17, g18⟩
  have htk : ∀ hlt : i < ss.length, hld W (ss.take (i + 1)) = hld W (ss.take i) ++ hld1 W (spn ss i) := fun hlt => by
    rw [List.take_succ_eq_append_getElem hlt, spn_get hlt]
    simp [hld]
  have hlen : ∀ j, j ≤ ss.length → (hld W (ss.take j)).length ≤ j * 12 := by
    intro j
    induction j with
    | zero => intro _; simp [hld]
    | succ j ih =>
      intro hj
      have hlt : j < ss.length := by omega
      have hs := h02 j hlt
      rw [hse] at hs
      obtain ⟨_, A, B, hA, hB, hab, hBN, hd, _, hn⟩ := sErr_0 hs
      rw [List.take_succ_eq_append_getElem hlt, spn_get hlt]
      have h3 : (hld1 W (spn ss j)).length ≤ 12 := by
        unfold hld1
        rw [hA, hB]
        split <;> simp <;> omega
      have h4 := ih (by omega)
      simp only [hld, List.flatMap_append, List.flatMap_cons, List.flatMap_nil, List.append_nil, List.length_append] at h4 ⊢
      omega
  have hL := hlen i hi
  simp (disch := first | omega | with_unfolding_all rfl) [g2, g7, g16, g17, g18]
  refine G_brd (fun hlt => ?_) (fun hlt => ?_)
  · have htk := htk hlt
    have hs := h02 i hlt
    rw [hse] at hs
    obtain ⟨hk, A, B, hA, hB, hab, hBN, hd, _, hn⟩ := sErr_0 hs
    generalize hld W (ss.take i) = L at *
    have hap := evApp_mls (α := Int) (H := [bk 3 gen L, ⟨26, 0, [.int .i64 (spn ss i).k, .int .i64 A, .int .i64 B, .int .i64 (spn ss i).u]⟩]) (e := 3) (s := 1) (bytes := 8) (b := 0) (gen := gen) (n := L.length) (x := lst .ex [(A : Int), (B : Int)]) (ys := [(A : Int), (B : Int)]) rfl rfl (by simp) rfl rfl (by simp; omega)
    rw [evApp_mls_lst, if_pos (show (1 : Nat) = Enc.sz Int from rfl), if_neg (by simp)] at hap
    have hap2 : appB Int (some (bk 3 gen L)) [bk 3 gen L, ⟨26, 0, [.int .i64 (spn ss i).k, .int .i64 A, .int .i64 B, .int .i64 (spn ss i).u]⟩] 0 gen L.length 3 8 [(A : Int), (B : Int)] =
        some (mls Int 0 (gen + 1) (L.length + 2), [bk 3 (gen + 1) (L ++ [(A : Int), (B : Int)]), ⟨26, 0, [.int .i64 (spn ss i).k, .int .i64 A, .int .i64 B, .int .i64 (spn ss i).u]⟩]) := hap
    simp (disch := first | omega | with_unfolding_all rfl) [hlt, spn_get, hA, hB, hf, hap2]
    by_cases hk1 : (spn ss i).k = 1
    · have hh1 : hld1 W (spn ss i) = [(A : Int), (B : Int)] := by unfold hld1; rw [if_pos hk1, hA, hB]; rfl
      rw [hh1] at htk
      simp (disch := first | omega | with_unfolding_all rfl) [hk1, trimOk]
      exact ⟨i + 1, by omega, by omega, gen + 1, ⟨rfl, by rw [htk]⟩, by rw [htk]; simp, by push_cast; rfl⟩
    · have hh1 : hld1 W (spn ss i) = [(A : Int), (B : Int)] ++ btw W A B := by unfold hld1; rw [if_neg hk1, hA, hB]
      rw [hh1] at htk
      have hbw := fun H => RO2 (n2 := natO2) (between_ok (w := W) (hh := hh) (k := (spn ss i).k) (a := A) (b := B) (u := (spn ss i).u) (ys := xs) hf H)
      have has := appSeq_ok (n2 := natO2) (fun args H => natO2_47) (w := W) (hh := hh) (k := (spn ss i).k) (a := A) (b := B) (u := (spn ss i).u) (nl := nl) (xs := xs) (by omega) (by omega) hd (H := [bk 3 (gen + 1) (L ++ [(A : Int), (B : Int)]), ⟨26, 0, [.int .i64 (spn ss i).k, .int .i64 A, .int .i64 B, .int .i64 (spn ss i).u]⟩]) (c := 0) (gen := gen + 1) (n := L.length + 2) (L := L ++ [(A : Int), (B : Int)]) rfl (by simp) (by omega)
      simp (disch := first | omega | with_unfolding_all rfl) [hk1, hf, hbw, has, trimOk]
      exact ⟨i + 1, by omega, by omega, _, ⟨rfl, by rw [htk]; simp⟩, by rw [htk]; congr 1; simp; omega, by push_cast; rfl⟩
  · have hil : i = ss.length := by omega
    subst hil
    rw [List.take_length] at *
    have hsc := sort_call (gen := gen) (L := hld W ss) (by omega)
    have hcc := compact_call (gen := gen) (L := srt (hld W ss)) (by rw [len_srt]; omega)
    rw [len_srt] at hcc
    have hfz := fun k => frz_cut (gen := gen) (k := k) (H := [bk 3 gen (Lib.compact (srt (hld W ss)) ++ List.replicate ((hld W ss).length - (Lib.compact (srt (hld W ss))).length) 0)]) (Lib.compact (srt (hld W ss))) (List.replicate ((hld W ss).length - (Lib.compact (srt (hld W ss))).length) 0)
    change RO (tbN natO2) 49 _ _ = _ at hsc
    change RO (tbN natO2) 50 _ _ = _ at hcc
    simp (disch := first | omega | with_unfolding_all rfl) [hsc, hcc, hfz, h4]
end Go.Proofs.Ytpnhdcjfhlcgoaa
