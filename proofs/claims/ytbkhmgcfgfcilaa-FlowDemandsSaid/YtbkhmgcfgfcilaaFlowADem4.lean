/- Demand, as the reference finds it. -/
import Derived.Test.YtbkhmgcfgfcilaaFlowADem3
set_option linter.unusedVariables false
set_option linter.unusedSimpArgs false
set_option maxHeartbeats 4000000
set_option maxRecDepth 20000
namespace Go.Proofs.Ytbkhmgcfgfcilaa
open Go.Proofs.Ytbkhmgcfgfcilaa.PM

def dn (S : List Int) (a j : Nat) : List Bool := (List.range S.length).map fun b : Nat => decide ((b : Int) ∈ (ordS S a).take j)
@[simp] theorem len_dn (S : List Int) (a j : Nat) : (dn S a j).length = S.length := by simp [dn]
theorem dn_get {S : List Int} {a j b : Nat} (h : b < (dn S a j).length) : (dn S a j)[b] = decide ((b : Int) ∈ (ordS S a).take j) := by simp [dn]
theorem dn_0 (S : List Int) (a : Nat) : dn S a 0 = List.replicate S.length false := by
  unfold dn
  rw [List.eq_replicate_iff]
  refine ⟨by simp, fun b hb => ?_⟩
  rw [List.mem_map] at hb
  obtain ⟨i, _, rfl⟩ := hb
  simp
theorem dn_set {S : List Int} {a j m : Nat} (hj : j < (ordS S a).length) (hm : (ordS S a)[j] = (m : Int)) : (dn S a j).set m true = dn S a (j + 1) := by
  apply List.ext_getElem
  · simp
  · intro b h1 h2
    rw [List.getElem_set, dn_get]
    have htk : (ordS S a).take (j + 1) = (ordS S a).take j ++ [(m : Int)] := by rw [List.take_succ_eq_append_getElem hj, hm]
    split
    · rename_i e
      subst e
      symm
      rw [dn_get, decide_eq_true_eq, htk]
      simp
    · rename_i e
      rw [dn_get, htk]
      have : ((b : Int) ∈ List.take j (ordS S a) ++ [(m : Int)]) ↔ (b : Int) ∈ List.take j (ordS S a) := by
        rw [List.mem_append, List.mem_singleton]
        constructor
        · rintro (h | h)
          · exact h
          · omega
        · exact .inl
      simp only [this]
theorem stRawApp {g : Nat} {cells : List PV} {H : Hp} {x : PV} (h0 : H[0]? = some ⟨22, g, cells⟩) {ix : Nat} (hix : H[ix]? = some ⟨22, 0, [x]⟩) (hl : cells.length ≤ 40) (hne : 0 < ix) :
    evApp 22 1 24 (.msl true 0 g 0 cells.length 1) (.msl true ix 0 0 1 1) H = some (.msl true 0 (g + 1) 0 (cells.length + 1) 1, H.set 0 ⟨22, g + 1, cells ++ [x]⟩) := by
  have hs : srcOf (.msl true ix 0 0 1 1) 1 H = some [x] := by simp [srcOf, hix]
  simp only [evApp, hs, Option.bind_some]
  rw [if_neg (by simp)]
  simp [h0]
  omega
theorem demRow_0 {S : List Int} (h : okS S) {a : Nat} (ha : a < S.length) (hT : ¬ 0 < othS S a) : demRow S a = bR S a 0 := by
  have hq : ∀ b, qq S a b = 0 := fun b => by
    unfold qq
    rw [if_neg hT]
    split <;> rfl
  have h1 : ∀ k, k ≤ S.length → bR S a k = bR S a 0 := by
    intro k
    induction k with
    | zero => intro _; rfl
    | succ k ih => intro hk; rw [bR_same (by omega) (hq k), ih (by omega)]
  have h2 : ordS S a = [] := by
    rw [List.eq_nil_iff_forall_not_mem]
    intro x hx
    obtain ⟨b, rfl, hb, hm⟩ := ordS_mem.1 hx
    unfold may at hm
    simp only [Bool.and_eq_true, decide_eq_true_eq] at hm
    have := oth_ge h ha hb hm.1
    omega
  unfold demRow
  rw [h1 _ (Nat.le_refl _), h2]
  simp [incR]
theorem next_st {S : List Int} {a : Nat} {h : Hp} {cells : List PV} (hR : Rows h S.length cells (demRows S a)) (hh0 : 0 < h.length) (J : Hp) (B : Blk) : Rows (h.set 0 B ++ bk 3 0 (demRow S a) :: J) S.length (cells ++ [mls Int h.length 0 S.length]) (demRows S (a + 1)) := by
  rw [demRows_succ]
  refine Rows.snoc (ix := h.length) ((hR.set0 _).app _) (len_demRow S a) hh0 ?_
  rw [List.getElem?_append_right (by simp), List.length_set, Nat.sub_self]
  rfl
theorem demandR_ok {nl : Nl} (hf : nl ≠ .bor) {S : List Int} (hl : S.length ≤ 300) : R tb 8 [lst nl S] = some (.tup [demV S, .int .i64 (demE S)]) := by
  have hE : demE S = if 40 < S.length then 4 else if badS S then 1 else 0 := rfl
  have hV : demV S = if demE S = 0 then tabV (demRows S S.length) else .list .nil 1 [] := rfl
  have hok := fun h => demE_ok (S := S) h
  generalize demV S = rV at *
  generalize demE S = rE at *
  refine R_of_G (F := pf8) rfl rfl rfl ?_
  by_cases c : 40 < S.length
  · rw [if_pos c] at hE
    subst hE
    rw [if_neg (by omega)] at hV
    subst hV
    have c' : (40 : Int) < S.length := by omega
    simp (disch := first | omega | with_unfolding_all rfl) [pf8, env0_eq, c']
  rw [if_neg c] at hE
  have c' : ¬ (40 : Int) < S.length := by omega
  simp (disch := first | omega | with_unfolding_all rfl) [pf8, env0_eq, c']
  refine G_scan (fun i e h => h = [] ∧ get e 0 = lst nl S ∧ get e 4 = .int .i64 (i : Int))
    (fun i => !wi (zz S i) 1000000) S.length 0 ?_ (Nat.zero_le _) ?_
  · simp
  rintro i e h - hi hz ⟨rfl, g0, g4⟩
  simp (disch := first | omega | with_unfolding_all rfl) [g0, g4]
  refine G_brd (fun hlt => ?_) (fun hlt => ?_)
  · have hbad : wi (zz S i) 1000000 = false → badS S = true := fun h => any_t (f := fun i => !wi (zz S i) 1000000) hlt (by simp [h])
    have hwi : wi (zz S i) 1000000 = decide (0 ≤ zz S i ∧ zz S i ≤ 1000000) := rfl
    simp (disch := first | omega | with_unfolding_all rfl) [hlt, zz_get]
    by_cases c1 : zz S i < 0
    · have hc : wi (zz S i) 1000000 = false := by rw [hwi, decide_eq_false_iff_not]; omega
      rw [if_pos (hbad hc)] at hE
      subst hE
      rw [if_neg (by omega)] at hV
      subst hV
      simp (disch := first | omega | with_unfolding_all rfl) [c1]
    · simp (disch := first | omega | with_unfolding_all rfl) [c1, hlt, zz_get]
      by_cases c2 : 1000000 < zz S i
      · have hc : wi (zz S i) 1000000 = false := by rw [hwi, decide_eq_false_iff_not]; omega
        rw [if_pos (hbad hc)] at hE
        subst hE
        rw [if_neg (by omega)] at hV
        subst hV
        simp (disch := first | omega | with_unfolding_all rfl) [c2]
      · have hc : wi (zz S i) 1000000 = true := by rw [hwi, decide_eq_true_eq]; omega
        simp (disch := first | omega | with_unfolding_all rfl) [c2, hlt, hc]
  · have hno : badS S = false := any_f fun j hj => hz j (Nat.zero_le _) (by omega)
    rw [hno, if_neg (by simp)] at hE
    subst hE
    rw [if_pos rfl] at hV
    subst hV
    obtain ⟨hl40, hS⟩ := hok rfl
    clear hz hno hok
    simp (disch := first | omega | with_unfolding_all rfl) []
    have htr := tot_rg hS S.length (Nat.le_refl _)
    refine G_loop (fun a e h => a ≤ S.length ∧ get e 0 = lst nl S ∧ get e 5 = mls Int 0 a a ∧ get e 6 = .int .i64 (a : Int) ∧
      ∃ cells, h[0]? = some ⟨22, a, cells⟩ ∧ Rows h S.length cells (demRows S a)) (fun a => S.length - a) (a₀ := 0) ?_ ?_
    · refine ⟨Nat.zero_le _, rfl, rfl, rfl, [], rfl, rfl, fun j hj => absurd hj (by simp)⟩
    clear g0 g4
    rintro a e h ⟨ha, g0, g5, g6, cells, h0, hR⟩
    have hcl : cells.length = a := by rw [hR.1]; simp
    have hh0 : 0 < h.length := (List.getElem?_eq_some_iff.1 h0).1
    simp (disch := first | omega | with_unfolding_all rfl) [g0, g5, g6]
    refine G_brd (fun hlt => ?_) (fun hlt => ?_)
    · obtain ⟨r0, r1⟩ := hS a hlt
      have hbR0 : List.replicate S.length (0 : Int) = bR S a 0 := by simp [bR]
      simp (disch := first | omega | with_unfolding_all rfl) [hlt, zz_get, hbR0]
      have hof : othS S a = sumN (fun b => if b = a then 0 else zz S b) S.length := oth_eq hlt
      have horg : ∀ k, k ≤ S.length → 0 ≤ sumN (fun b => if b = a then 0 else zz S b) k ∧ sumN (fun b => if b = a then 0 else zz S b) k ≤ k * 1000000 := fun k hk => by
        have h1 := sumN_le (f := fun _ => 0) (g := fun b => if b = a then 0 else zz S b) k fun b hb => by
          split
          · omega
          · exact (hS b (by omega)).1
        have h2 := sumN_le (f := fun b => if b = a then 0 else zz S b) (g := fun _ => 1000000) k fun b hb => by
          split
          · omega
          · exact (hS b (by omega)).2
        rw [sumN_const] at h1 h2
        omega
      refine G_loop (fun b e h' => b ≤ S.length ∧ get e 0 = lst nl S ∧ get e 5 = mls Int 0 a a ∧ get e 6 = .int .i64 (a : Int) ∧ get e 7 = mls Int h.length 0 S.length ∧ get e 8 = .int .i64 (sumN (fun b => if b = a then 0 else zz S b) b) ∧ get e 9 = .int .i64 (zz S a) ∧
        get e 10 = .int .i64 (b : Int) ∧ h' = h ++ [bk 3 0 (bR S a 0)]) (fun b => S.length - b) (a₀ := 0) ?_ ?_
      · refine ⟨Nat.zero_le _, rfl, rfl, rfl, rfl, ?_, rfl, rfl, rfl⟩
        simp [sumN]
      clear g0 g5 g6
      rintro b e h' ⟨hb, g0, g5, g6, g7, g8, g9, g10, rfl⟩
      simp (disch := first | omega | with_unfolding_all rfl) [g0, g5, g6, g7, g8, g9, g10]
      refine G_brd (fun hlb => ?_) (fun hlb => ?_)
      · have hsu := sumN_succ (fun b => if b = a then 0 else zz S b) b
        obtain ⟨o0, o1⟩ := horg b hb
        obtain ⟨o2, o3⟩ := horg (b + 1) (by omega)
        rw [hsu] at o2 o3
        by_cases c1 : b = a
        · rw [if_pos c1] at hsu o2 o3
          have c1' : (b : Int) = a := by omega
          simp (disch := first | omega | with_unfolding_all rfl) [hlb, zz_get, c1']
          exact ⟨b + 1, by omega, by omega, by rw [hsu]; omega, by push_cast; omega⟩
        · rw [if_neg c1] at hsu o2 o3
          have c1' : ¬ (b : Int) = a := by omega
          simp (disch := first | omega | with_unfolding_all rfl) [hlb, zz_get, c1']
          exact ⟨b + 1, by omega, by omega, by rw [hsu], by push_cast; rfl⟩
      · obtain rfl : b = S.length := by omega
        rw [← hof] at g8 ⊢
        have hosr := horg S.length (Nat.le_refl _)
        rw [← hof] at hosr
        by_cases c2 : 0 < othS S a
        case neg =>
          have hd0 := demRow_0 hS hlt c2
          rw [← hd0]
          have hap : evApp 22 1 24 (mls Int 0 a a) (mls Int (h.length + 1) 0 1) (h ++ [bk 3 0 (demRow S a), ⟨22, 0, [mls Int h.length 0 S.length]⟩]) =
              some (mls Int 0 (a + 1) (a + 1), (h ++ [bk 3 0 (demRow S a), ⟨22, 0, [mls Int h.length 0 S.length]⟩]).set 0 ⟨22, a + 1, cells ++ [mls Int h.length 0 S.length]⟩) := by
            have := stRawApp (H := h ++ [bk 3 0 (demRow S a), ⟨22, 0, [mls Int h.length 0 S.length]⟩]) (ix := h.length + 1) (x := mls Int h.length 0 S.length) (by rw [List.getElem?_append_left hh0]; exact h0) (by simp) (by omega) (by omega)
            rw [hcl] at this
            exact this
          have hnx := next_st hR hh0 [⟨22, 0, [mls Int h.length 0 S.length]⟩] ⟨22, a + 1, cells ++ [mls Int h.length 0 S.length]⟩
          simp (disch := first | omega | with_unfolding_all rfl) [c2, evBslm, hap]
          exact ⟨a + 1, by omega, by omega, rfl, by push_cast; rfl, cells ++ [mls Int h.length 0 S.length], by simp [hh0], hnx⟩
        have hPb : ∀ X : Blk, (h ++ [X])[h.length]? = some X := fun X => by simp
        have hPs : ∀ X Y : Blk, (h ++ [X]).set h.length Y = h ++ [Y] := fun X Y => by simp
        simp (disch := first | omega | with_unfolding_all rfl) [c2]
        refine G_loop (fun b e h' => b ≤ S.length ∧ get e 0 = lst nl S ∧ get e 5 = mls Int 0 a a ∧ get e 6 = .int .i64 (a : Int) ∧ get e 7 = mls Int h.length 0 S.length ∧ get e 8 = .int .i64 (othS S a) ∧ get e 9 = .int .i64 (leftS S a b) ∧
          get e 11 = .int .i64 (b : Int) ∧ h' = h ++ [bk 3 0 (bR S a b)]) (fun b => S.length - b) (a₀ := 0) ?_ ?_
        · refine ⟨Nat.zero_le _, rfl, rfl, rfl, rfl, rfl, ?_, rfl, rfl⟩
          simp [leftS, sumN]
        clear g0 g5 g6 g7 g8 g9 g10
        rintro b e h' ⟨hb, g0, g5, g6, g7, g8, g9, g11, rfl⟩
        simp (disch := first | omega | with_unfolding_all rfl) [g0, g5, g6, g7, g8, g9, g11]
        obtain ⟨l0, l1⟩ := left_rg hS hlt b hb
        refine G_brd (fun hlb => ?_) (fun hlb => ?_)
        · have hqd : qq S a b = if b = a then 0 else if 0 < othS S a then zz S a * zz S b / othS S a else 0 := rfl
          have hls : leftS S a (b + 1) = leftS S a b - qq S a b := by unfold leftS; rw [sumN_succ]; omega
          obtain ⟨l2, l3⟩ := left_rg hS hlt (b + 1) (by omega)
          simp (disch := first | omega | with_unfolding_all rfl) [hlb, zz_get]
          by_cases c1 : b = a
          · rw [if_pos c1] at hqd
            have c1' : (b : Int) = a := by omega
            have hb2 := bR_same hlb hqd
            rw [hqd] at hls
            simp (disch := first | omega | with_unfolding_all rfl) [c1']
            exact ⟨b + 1, by omega, by omega, by rw [hls]; omega, by push_cast; omega, by rw [hb2]⟩
          have c1' : ¬ (b : Int) = a := by omega
          rw [if_neg c1, if_pos c2] at hqd
          obtain ⟨b0, b1⟩ := hS b hlb
          have hmul : 0 ≤ zz S a * zz S b ∧ zz S a * zz S b ≤ 1000000 * 1000000 := ⟨Int.mul_nonneg r0 b0, Int.mul_le_mul r1 b1 b0 (by omega)⟩
          obtain ⟨q0, q1⟩ := qq_rg hS hlt hlb
          have hbs := bR_set (S := S) (a := a) hlb
          have hbl := len_bR (S := S) (a := a) hb
          have hbl2 := len_bR (S := S) (a := a) (k := b + 1) (by omega)
          have hbg := bR_get (S := S) (a := a) (k := b + 1) (by omega) hlb
          rw [if_pos (by omega)] at hbg
          have hwr : IntKind.wrap .i64 ((zz S a * zz S b).tdiv (othS S a)) = qq S a b := by rw [wrap_tdiv c2 hmul.1 (by omega), hqd]
          have hth0 : othS S a ≠ 0 := by omega
          simp (disch := first | omega | with_unfolding_all rfl) [c1', hlt, hlb, hPb, hPs, hwr, hbs, hbl, hbl2, zz_get, hbg, hth0]
          exact ⟨b + 1, by omega, by omega, by rw [hls], by push_cast; rfl, rfl⟩
        · obtain rfl : b = S.length := by omega
          clear hPb hPs
          have hd0 := dn_0 S a
          simp (disch := first | omega | with_unfolding_all rfl) [← hd0]
          have hlr := left_rg hS hlt S.length (Nat.le_refl _)
          have hol := ordS_len S a
          have hmem : ∀ j, (h : j < (ordS S a).length) → ∃ b : Nat, (ordS S a)[j] = (b : Int) ∧ b < S.length := fun j h => by
            obtain ⟨b, h1, h2, _⟩ := ordS_mem.1 (List.getElem_mem h)
            exact ⟨b, h1, h2⟩
          have hdrw : demRow S a = incR (bR S a S.length) ((ordS S a).take (leftS S a S.length).toNat) := rfl
          generalize hL : leftS S a S.length = L at *
          clear g0 g5 g6 g7 g8 g9 g11
          refine G_loop (fun (j : Nat) e h' => j ≤ (ordS S a).length ∧ ((j : Int) ≤ L ∨ j = 0) ∧ get e 0 = lst nl S ∧ get e 5 = mls Int 0 a a ∧ get e 6 = .int .i64 (a : Int) ∧ get e 7 = mls Int h.length 0 S.length ∧ get e 9 = .int .i64 (L - j) ∧
            get e 12 = mls Bool (h.length + 1) 0 S.length ∧ h' = h ++ [bk 3 0 (incR (bR S a S.length) ((ordS S a).take j)), bk 4 0 (dn S a j)]) (fun j => (ordS S a).length - j) (a₀ := 0) ?_ ?_
          · refine ⟨Nat.zero_le _, .inr rfl, rfl, rfl, rfl, rfl, ?_, rfl, rfl⟩
            simp
          rintro j e h' ⟨hj, hjL, g0, g5, g6, g7, g9, g12, rfl⟩
          simp (disch := first | omega | with_unfolding_all rfl) [g0, g5, g6, g7, g9, g12]
          by_cases c3 : (j : Int) < L
          case neg =>
            have hdr : incR (bR S a S.length) ((ordS S a).take j) = demRow S a := by
              rw [hdrw]
              congr 2
              omega
            have hap : evApp 22 1 24 (mls Int 0 a a) (mls Int (h.length + 2) 0 1) (h ++ [bk 3 0 (demRow S a), bk 4 0 (dn S a j), ⟨22, 0, [mls Int h.length 0 S.length]⟩]) =
                some (mls Int 0 (a + 1) (a + 1), (h ++ [bk 3 0 (demRow S a), bk 4 0 (dn S a j), ⟨22, 0, [mls Int h.length 0 S.length]⟩]).set 0 ⟨22, a + 1, cells ++ [mls Int h.length 0 S.length]⟩) := by
              have := stRawApp (H := h ++ [bk 3 0 (demRow S a), bk 4 0 (dn S a j), ⟨22, 0, [mls Int h.length 0 S.length]⟩]) (ix := h.length + 2) (x := mls Int h.length 0 S.length) (by rw [List.getElem?_append_left hh0]; exact h0) (by simp) (by omega) (by omega)
              rw [hcl] at this
              exact this
            have hnx := next_st hR hh0 [bk 4 0 (dn S a j), ⟨22, 0, [mls Int h.length 0 S.length]⟩] ⟨22, a + 1, cells ++ [mls Int h.length 0 S.length]⟩
            rw [hdr]
            simp (disch := first | omega | with_unfolding_all rfl) [c3, evBslm, hap]
            exact ⟨a + 1, by omega, by omega, rfl, by push_cast; rfl, cells ++ [mls Int h.length 0 S.length], by simp [hh0], hnx⟩
          simp (disch := first | omega | with_unfolding_all rfl) [c3]
          have hbo := bst_ord S a j
          have hbs := bst_spec S (cnd S a j)
          refine G_loop (fun b e h' => b ≤ S.length ∧ get e 0 = lst nl S ∧ get e 5 = mls Int 0 a a ∧ get e 6 = .int .i64 (a : Int) ∧ get e 7 = mls Int h.length 0 S.length ∧ get e 9 = .int .i64 (L - j) ∧
            get e 12 = mls Bool (h.length + 1) 0 S.length ∧ get e 13 = .int .i64 (bst S (cnd S a j) b) ∧ get e 14 = .int .i64 (b : Int) ∧ h' = h ++ [bk 3 0 (incR (bR S a S.length) ((ordS S a).take j)), bk 4 0 (dn S a j)]) (fun b => S.length - b) (a₀ := 0) ?_ ?_
          · exact ⟨Nat.zero_le _, rfl, rfl, rfl, rfl, rfl, rfl, rfl, rfl, rfl⟩
          clear g0 g5 g6 g7 g9 g12
          rintro b e h' ⟨hb, g0, g5, g6, g7, g9, g12, g13, g14, rfl⟩
          simp (disch := first | omega | with_unfolding_all rfl) [g0, g5, g6, g7, g9, g12, g13, g14]
          refine G_brd (fun hlb => ?_) (fun hlb => ?_)
          · have hstep : bst S (cnd S a j) (b + 1) = if cnd S a j b && (decide (bst S (cnd S a j) b < 0) || decide (zz S (bst S (cnd S a j) b).toNat < zz S b)) then (b : Int) else bst S (cnd S a j) b := rfl
            have hcn : cnd S a j b = (decide (b ≠ a) && decide (0 < zz S b) && !decide ((b : Int) ∈ (ordS S a).take j)) := rfl
            have hbr : bst S (cnd S a j) b = -1 ∨ (0 ≤ bst S (cnd S a j) b ∧ bst S (cnd S a j) b < b) := by
              rcases hbs b with ⟨q, _⟩ | ⟨c, q, q2, _⟩
              · exact .inl q
              · right; omega
            generalize bst S (cnd S a j) b = B at *
            simp (disch := first | omega | with_unfolding_all rfl) [hlb, zz_get]
            have hdl : b < (dn S a j).length := by simpa using hlb
            by_cases c1 : b = a
            · have c1' : (b : Int) = a := by omega
              have hcf : cnd S a j b = false := by rw [hcn]; simp [c1]
              rw [hcf] at hstep
              simp (disch := first | omega | with_unfolding_all rfl) [c1']
              exact ⟨b + 1, by omega, by omega, by rw [hstep]; simp, by push_cast; omega⟩
            have c1' : ¬ (b : Int) = a := by omega
            simp (disch := first | omega | with_unfolding_all rfl) [c1', hpB h, hdl, dn_get]
            by_cases c4 : (b : Int) ∈ (ordS S a).take j
            · have hcf : cnd S a j b = false := by rw [hcn]; simp [c4]
              rw [hcf] at hstep
              simp (disch := first | omega | with_unfolding_all rfl) [c4]
              exact ⟨b + 1, by omega, by omega, by rw [hstep]; simp, by push_cast; rfl⟩
            simp (disch := first | omega | with_unfolding_all rfl) [c4, hlb, zz_get]
            by_cases c5 : 0 < zz S b
            case neg =>
              have hcf : cnd S a j b = false := by rw [hcn]; simp [c5]
              rw [hcf] at hstep
              simp (disch := first | omega | with_unfolding_all rfl) [c5]
              exact ⟨b + 1, by omega, by omega, by rw [hstep]; simp, by push_cast; rfl⟩
            have hct : cnd S a j b = true := by rw [hcn]; simp [c1, c4, c5]
            rw [hct, Bool.true_and] at hstep
            simp (disch := first | omega | with_unfolding_all rfl) [c5]
            by_cases c6 : B < 0
            · simp (disch := first | omega | with_unfolding_all rfl) [c6]
              exact ⟨b + 1, by omega, by omega, by rw [hstep]; simp [c6], by push_cast; rfl⟩
            have hB2 : 0 ≤ B ∧ B < b := by omega
            simp (disch := first | omega | with_unfolding_all rfl) [c6, hlb, zz_get]
            by_cases c7 : zz S B.toNat < zz S b
            · simp (disch := first | omega | with_unfolding_all rfl) [c7]
              exact ⟨b + 1, by omega, by omega, by rw [hstep]; simp [c7], by push_cast; rfl⟩
            · simp (disch := first | omega | with_unfolding_all rfl) [c7]
              exact ⟨b + 1, by omega, by omega, by rw [hstep]; simp [c6, c7], by push_cast; rfl⟩
          · obtain rfl : b = S.length := by omega
            rw [hbo] at g13 ⊢
            by_cases c8 : j < (ordS S a).length
            · rw [dif_pos c8]
              obtain ⟨m, hm, hmS⟩ := hmem j c8
              have hrl : (incR (bR S a S.length) ((ordS S a).take j)).length = S.length := by rw [len_incR, len_bR (Nat.le_refl _)]
              have htk : (ordS S a).take (j + 1) = (ordS S a).take j ++ [(m : Int)] := by rw [List.take_succ_eq_append_getElem c8, hm]
              have hds := dn_set c8 hm
              have hrg2 : 0 ≤ zz (incR (bR S a S.length) ((ordS S a).take j)) m ∧ zz (incR (bR S a S.length) ((ordS S a).take j)) m ≤ 2000000 := by
                obtain ⟨i0, i1⟩ := incR_rg ((ordS S a).take j) (bR S a S.length) m
                rw [bR_get (Nat.le_refl _) hmS, if_pos hmS] at i0 i1
                obtain ⟨q0, q1⟩ := qq_rg hS hlt hmS
                have : ((ordS S a).take j).length ≤ 40 := by simp; omega
                omega
              have hinc : (incR (bR S a S.length) ((ordS S a).take j)).set m (zz (incR (bR S a S.length) ((ordS S a).take j)) m + 1) = incR (bR S a S.length) ((ordS S a).take (j + 1)) := by
                rw [htk, incR_snoc]; rfl
              have hmr : m < (incR (bR S a S.length) ((ordS S a).take j)).length := by omega
              have hmd : m < (dn S a j).length := by simpa using hmS
              rw [hm]
              have hm0 : ¬ (m : Int) < 0 := by omega
              simp (disch := first | omega | with_unfolding_all rfl) [hm0, hpA h, hpB h, hsA h, hsB h, hds, hinc, hmr, hmd, zz_get]
              exact ⟨j + 1, by omega, by omega, by omega, by push_cast; omega, rfl, rfl⟩
            · rw [dif_neg c8]
              have hdr : incR (bR S a S.length) ((ordS S a).take j) = demRow S a := by
                rw [hdrw, List.take_of_length_le (by omega), List.take_of_length_le (by omega)]
              have hap : evApp 22 1 24 (mls Int 0 a a) (mls Int (h.length + 2) 0 1) (h ++ [bk 3 0 (demRow S a), bk 4 0 (dn S a j), ⟨22, 0, [mls Int h.length 0 S.length]⟩]) =
                  some (mls Int 0 (a + 1) (a + 1), (h ++ [bk 3 0 (demRow S a), bk 4 0 (dn S a j), ⟨22, 0, [mls Int h.length 0 S.length]⟩]).set 0 ⟨22, a + 1, cells ++ [mls Int h.length 0 S.length]⟩) := by
                have := stRawApp (H := h ++ [bk 3 0 (demRow S a), bk 4 0 (dn S a j), ⟨22, 0, [mls Int h.length 0 S.length]⟩]) (ix := h.length + 2) (x := mls Int h.length 0 S.length) (by rw [List.getElem?_append_left hh0]; exact h0) (by simp) (by omega) (by omega)
                rw [hcl] at this
                exact this
              have hnx := next_st hR hh0 [bk 4 0 (dn S a j), ⟨22, 0, [mls Int h.length 0 S.length]⟩] ⟨22, a + 1, cells ++ [mls Int h.length 0 S.length]⟩
              rw [hdr]
              simp (disch := first | omega | with_unfolding_all rfl) [evBslm, hap]
              exact ⟨a + 1, by omega, by omega, rfl, by push_cast; rfl, cells ++ [mls Int h.length 0 S.length], by simp [hh0], hnx⟩
    · obtain rfl : a = S.length := by omega
      have hfr := fun k => frzRows (k := k) hR h0
      rw [hcl] at hfr
      have hf61 : frzB Int h .any 61 (some h[0]) S.length S.length = some (tabV (demRows S S.length)) := by
        have h1 := frz_mlsC (α := Int) (H := h) (nl' := .any) (n := 61) (b := 0) (gen := S.length) (m := S.length)
        rw [List.getElem?_eq_getElem hh0] at h1
        rw [← h1]
        exact hfr 60
      have hcb : (tabV (demRows S S.length)).cleanB = true := by
        have := clean_rows (demRows S S.length)
        simp only [tabV, PV.cleanB, this]
        rfl
      simp (disch := first | omega | with_unfolding_all rfl) [hf61, hcb]
end Go.Proofs.Ytbkhmgcfgfcilaa
