/- Demand, as the program finds it. -/
import Derived.Test.YtbkhmgcfgfcilaaFlowADem2
set_option linter.unusedVariables false
set_option linter.unusedSimpArgs false
set_option maxHeartbeats 4000000
set_option maxRecDepth 20000
namespace Go.Proofs.Ytbkhmgcfgfcilaa
open Go.Proofs.Ytbkhmgcfgfcilaa.PM

def badS (S : List Int) : Bool := (List.range S.length).any fun i => !wi (zz S i) 1000000
def demE (S : List Int) : Int := if 40 < S.length then 4 else if badS S then 1 else 0
def demV (S : List Int) : PV := if demE S = 0 then tabV (demRows S S.length) else .list .nil 1 []
theorem demE_ok {S : List Int} (h : demE S = 0) : S.length ≤ 40 ∧ okS S := by
  unfold demE at h
  split at h
  · cases h
  · split at h
    · cases h
    · rename_i h1 h2
      refine ⟨by omega, fun i hi => ?_⟩
      have h3 : badS S = false := by simpa using h2
      unfold badS at h3
      rw [List.any_eq_false] at h3
      have := h3 i (List.mem_range.2 hi)
      simpa [wi] using this
theorem evMks_raw {k k' : IntKind} {l : Int} {H : Hp} (h0 : 0 ≤ l) (h1 : l ≤ 40) : evMks 22 1 24 [.list .nil 1 []] (.int k l) (.int k' l) H = some (.msl true H.length 0 0 l.toNat 1, H ++ [⟨22, 0, List.replicate l.toNat (.list .nil 1 [])⟩]) := by
  simp only [evMks]
  rw [if_pos ⟨h0, Int.le_refl _, by omega, rfl⟩]
  have : rep l.toNat [PV.list .nil 1 []] = List.replicate l.toNat (.list .nil 1 []) := by
    simp [rep, Nat.mod_one]
    rw [List.eq_replicate_iff]
    refine ⟨by simp, fun b hb => ?_⟩
    rw [List.mem_map] at hb
    obtain ⟨i, _, rfl⟩ := hb
    rfl
  rw [this]
theorem wrap_tdiv {a w : Int} (hw : 0 < w) (ha : 0 ≤ a) (hb : a ≤ 9223372036854775807) : IntKind.wrap .i64 (a.tdiv w) = a / w := by
  rw [tdiv_nn ha]
  have h1 : 0 ≤ a / w := Int.ediv_nonneg ha (by omega)
  have h2 : a / w ≤ a := Int.ediv_le_self _ ha
  exact wrap_i64 (by omega) (by omega)
theorem ldRaw {g a : Nat} {cells : List PV} : ldB Int none (some ⟨22, g, cells⟩) g a 0 = cells[a]? := by simp [ldB, cutV]
theorem stRaw {g a : Nat} {cells : List PV} {H : Hp} {x : PV} (ha : a < cells.length) (hx : x.cells = [x]) (h1 : x.one = true := by rfl) : stB Int 1 (some ⟨22, g, cells⟩) H 0 g a 0 x = some (H.set 0 ⟨22, g, cells.set a x⟩) := by
  simp only [stB, Option.bind_some]
  rw [hx, if_pos ⟨trivial, rfl, by omega, by simp; omega, by simp [h1]⟩]
  simp [setCells_cons]
theorem demand_ok {nl : Nl} (hf : nl ≠ .bor) {S : List Int} (hl : S.length ≤ 300) : R tb 9 [lst nl S] = some (.tup [demV S, .int .i64 (demE S)]) := by
  have hE : demE S = if 40 < S.length then 4 else if badS S then 1 else 0 := rfl
  have hV : demV S = if demE S = 0 then tabV (demRows S S.length) else .list .nil 1 [] := rfl
  have hok := fun h => demE_ok (S := S) h
  generalize demV S = rV at *
  generalize demE S = rE at *
  refine R_of_G (F := pf9) rfl rfl rfl ?_
  by_cases c : 40 < S.length
  · rw [if_pos c] at hE
    subst hE
    rw [if_neg (by omega)] at hV
    subst hV
    have c' : (40 : Int) < S.length := by omega
    simp (disch := first | omega | with_unfolding_all rfl) [pf9, env0_eq, c']
  rw [if_neg c] at hE
  have c' : ¬ (40 : Int) < S.length := by omega
  simp (disch := first | omega | with_unfolding_all rfl) [pf9, env0_eq, c']
  have hw := fun n => within_ok n 1000000
  refine G_scan (fun i e h => h = [] ∧ get e 0 = lst nl S ∧ get e 4 = .int .i64 (sumN (zz S) i) ∧ (0 ≤ sumN (zz S) i ∧ sumN (zz S) i ≤ i * 1000000) ∧ get e 17 = lst nl S ∧ get e 18 = .int .i64 (S.length : Int) ∧ get e 19 = .int .i64 (i : Int))
    (fun i => !wi (zz S i) 1000000) S.length 0 ?_ (Nat.zero_le _) ?_
  · simp [sumN]
  rintro i e h - hi hz ⟨rfl, g0, g4, ⟨s0, s1⟩, g17, g18, g19⟩
  simp (disch := first | omega | with_unfolding_all rfl) [g0, g4, g17, g18, g19]
  refine G_brd (fun hlt => ?_) (fun hlt => ?_)
  · have hw := hw (zz S i)
    have hsu := sumN_succ (zz S) i
    have hbad : wi (zz S i) 1000000 = false → badS S = true := fun h => any_t (f := fun i => !wi (zz S i) 1000000) hlt (by simp [h])
    have hwi : wi (zz S i) 1000000 = true → 0 ≤ zz S i ∧ zz S i ≤ 1000000 := fun h => by simpa [wi] using h
    simp (disch := first | omega | with_unfolding_all rfl) [hlt, zz_get, hw]
    cases hc : wi (zz S i) 1000000
    · rw [if_pos (hbad hc)] at hE
      subst hE
      rw [if_neg (by omega)] at hV
      subst hV
      simp (disch := first | omega | with_unfolding_all rfl) []
    · obtain ⟨w0, w1⟩ := hwi hc
      simp (disch := first | omega | with_unfolding_all rfl) [hlt, hsu]
      omega
  · have hno : badS S = false := any_f fun j hj => hz j (Nat.zero_le _) (by omega)
    rw [hno, if_neg (by simp)] at hE
    subst hE
    rw [if_pos rfl] at hV
    subst hV
    obtain ⟨hl40, hS⟩ := hok rfl
    obtain rfl : i = S.length := by omega
    clear hz hno hw hok
    have hmk := fun H => evMks_raw (k := .i64) (k' := .i64) (l := (S.length : Int)) (H := H) (by omega) (by omega)
    rw [Int.toNat_natCast] at hmk
    simp (disch := first | omega | with_unfolding_all rfl) [hmk]
    have htot : sumN (zz S) S.length = totS S := rfl
    rw [htot]
    have htr := tot_rg hS S.length (Nat.le_refl _)
    rw [htot] at htr
    refine G_loop (fun a e h => a ≤ S.length ∧ get e 0 = lst nl S ∧ get e 4 = .int .i64 (totS S) ∧ get e 7 = mls Int 0 0 S.length ∧ get e 33 = lst nl S ∧ get e 34 = .int .i64 (S.length : Int) ∧ get e 35 = .int .i64 (a : Int) ∧
      ∃ cells, h[0]? = some ⟨22, 0, cells ++ List.replicate (S.length - a) (.list .nil 1 [])⟩ ∧ Rows h S.length cells (demRows S a)) (fun a => S.length - a) (a₀ := 0) ?_ ?_
    · refine ⟨Nat.zero_le _, rfl, rfl, rfl, rfl, rfl, rfl, [], rfl, rfl, fun j hj => absurd hj (by simp)⟩
    clear g0 g4 g17 g18 g19
    rintro a e h ⟨ha, g0, g4, g7, g33, g34, g35, cells, h0, hR⟩
    have hcl : cells.length = a := by rw [hR.1]; simp
    have hh0 : 0 < h.length := (List.getElem?_eq_some_iff.1 h0).1
    simp (disch := first | omega | with_unfolding_all rfl) [g0, g4, g7, g33, g34, g35]
    refine G_brd (fun hlt => ?_) (fun hlt => ?_)
    · obtain ⟨r0, r1⟩ := hS a hlt
      obtain ⟨cs, hcs⟩ : ∃ cs, cs = (cells ++ [mls Int h.length 0 S.length]) ++ List.replicate (S.length - (a + 1)) (.list .nil 1 []) := ⟨_, rfl⟩
      have hset : (cells ++ List.replicate (S.length - a) (PV.list .nil 1 [])).set a (mls Int h.length 0 S.length) = cs := by
        rw [hcs, List.set_append_right _ _ (by omega), show S.length - a = (S.length - (a + 1)) + 1 by omega, List.replicate_succ, hcl, Nat.sub_self, List.set_cons_zero]
        simp
      have hcsa : cs[a]? = some (mls Int h.length 0 S.length) := by
        rw [hcs, List.append_assoc, List.getElem?_append_right (by omega), hcl, Nat.sub_self]; rfl
      obtain ⟨P, hP⟩ : ∃ P, P = h.set 0 ⟨22, 0, cs⟩ := ⟨_, rfl⟩
      have hPl : P.length = h.length := by rw [hP, List.length_set]
      have hst : ∀ X, (h ++ [X]).set 0 ⟨22, 0, cs⟩ = P ++ [X] := fun X => by rw [hP, List.set_append_left _ _ hh0]
      have h0X : ∀ X : Blk, (h ++ [X])[0]? = some ⟨22, 0, cells ++ List.replicate (S.length - a) (.list .nil 1 [])⟩ := fun X => by rw [List.getElem?_append_left hh0]; exact h0
      have hP0 : P[0]? = some ⟨22, 0, cs⟩ := by rw [hP]; simp [hh0]
      have hstR := fun H => stRaw (g := 0) (H := H) (cells := cells ++ List.replicate (S.length - a) (PV.list .nil 1 [])) (a := a) (x := mls Int h.length 0 S.length) (by simp; omega) rfl
      rw [hset] at hstR
      have hbR0 : List.replicate S.length (0 : Int) = bR S a 0 := by simp [bR]
      simp (disch := first | omega | with_unfolding_all rfl) [hlt, zz_get, h0X, hstR, hst, hbR0]
      have hoth : totS S - zz S a = othS S a := rfl
      rw [hoth]
      have hosr : 0 ≤ othS S a ∧ othS S a ≤ 40000000 := by
        constructor
        · by_cases hex : ∃ b, b < S.length ∧ b ≠ a
          · obtain ⟨b, hb, hba⟩ := hex
            have := oth_ge hS hlt hb hba
            have := (hS b hb).1
            omega
          · rw [oth_eq hlt]
            have := sumN_le (f := fun _ => 0) (g := fun b => if b = a then 0 else zz S b) S.length fun b hb => by
              split
              · omega
              · exact (hS b hb).1
            rw [sumN_const] at this
            omega
        · unfold othS; omega
      have hPX : ∀ X : Blk, (P ++ [X])[0]? = some ⟨22, 0, cs⟩ := fun X => by rw [List.getElem?_append_left (by omega)]; exact hP0
      have hPb : ∀ X : Blk, (P ++ [X])[h.length]? = some X := fun X => by rw [← hPl]; simp
      have hPs : ∀ X Y : Blk, (P ++ [X]).set h.length Y = P ++ [Y] := fun X Y => by rw [← hPl]; simp
      have hld : ∀ X : Blk, ldB Int none (P ++ [X])[0]? 0 a 0 = some (mls Int h.length 0 S.length) := fun X => by rw [hPX, ldRaw, hcsa]
      refine G_loop (fun b e h' => b ≤ S.length ∧ get e 0 = lst nl S ∧ get e 4 = .int .i64 (totS S) ∧ get e 7 = mls Int 0 0 S.length ∧ get e 8 = .int .i64 (a : Int) ∧ get e 9 = .int .i64 (zz S a) ∧ get e 10 = .int .i64 (othS S a) ∧ get e 11 = .int .i64 (leftS S a b) ∧
        get e 33 = lst nl S ∧ get e 34 = .int .i64 (S.length : Int) ∧ get e 35 = .int .i64 (a : Int) ∧ get e 50 = lst nl S ∧ get e 51 = .int .i64 (S.length : Int) ∧ get e 52 = .int .i64 (b : Int) ∧ h' = P ++ [bk 3 0 (bR S a b)]) (fun b => S.length - b) (a₀ := 0) ?_ ?_
      · refine ⟨Nat.zero_le _, rfl, rfl, rfl, rfl, rfl, rfl, ?_, rfl, rfl, rfl, rfl, rfl, rfl, rfl⟩
        simp [leftS, sumN]
      clear g0 g4 g7 g33 g34 g35
      rintro b e h' ⟨hb, g0, g4, g7, g8, g9, g10, g11, g33, g34, g35, g50, g51, g52, rfl⟩
      simp (disch := first | omega | with_unfolding_all rfl) [g0, g4, g7, g8, g9, g10, g11, g33, g34, g35, g50, g51, g52]
      obtain ⟨l0, l1⟩ := left_rg hS hlt b hb
      refine G_brd (fun hlb => ?_) (fun hlb => ?_)
      · have hqd : qq S a b = if b = a then 0 else if 0 < othS S a then zz S a * zz S b / othS S a else 0 := rfl
        have hls : leftS S a (b + 1) = leftS S a b - qq S a b := by unfold leftS; rw [sumN_succ]; omega
        obtain ⟨l2, l3⟩ := left_rg hS hlt (b + 1) (by omega)
        simp (disch := first | omega | with_unfolding_all rfl) [hlb, zz_get]
        by_cases c1 : b = a
        · rw [if_pos c1] at hqd
          have c1' : (b : Int) = a := by omega
          have hb2 := bR_same hlb hqd
          rw [hqd] at hls
          simp (disch := first | omega | with_unfolding_all rfl) [c1']
          exact ⟨b + 1, by omega, by omega, by rw [hls]; omega, by push_cast; omega, by rw [hb2]⟩
        have c1' : ¬ (b : Int) = a := by omega
        rw [if_neg c1] at hqd
        simp (disch := first | omega | with_unfolding_all rfl) [c1']
        by_cases c2 : 0 < othS S a
        case neg =>
          rw [if_neg c2] at hqd
          have hb2 := bR_same hlb hqd
          rw [hqd] at hls
          simp (disch := first | omega | with_unfolding_all rfl) [c2]
          exact ⟨b + 1, by omega, by omega, by rw [hls]; omega, by push_cast; rfl, by rw [hb2]⟩
        rw [if_pos c2] at hqd
        obtain ⟨b0, b1⟩ := hS b hlb
        have hmul : 0 ≤ zz S a * zz S b ∧ zz S a * zz S b ≤ 1000000 * 1000000 := ⟨Int.mul_nonneg r0 b0, Int.mul_le_mul r1 b1 b0 (by omega)⟩
        obtain ⟨q0, q1⟩ := qq_rg hS hlt hlb
        have hbs := bR_set (S := S) (a := a) hlb
        have hbl := len_bR (S := S) (a := a) hb
        have hbl2 := len_bR (S := S) (a := a) (k := b + 1) (by omega)
        have hbg := bR_get (S := S) (a := a) (k := b + 1) (by omega) hlb
        rw [if_pos (by omega)] at hbg
        have hwr : IntKind.wrap .i64 ((zz S a * zz S b).tdiv (othS S a)) = qq S a b := by rw [wrap_tdiv c2 hmul.1 (by omega), hqd]
        have hth0 : othS S a ≠ 0 := by omega
        simp (disch := first | omega | with_unfolding_all rfl) [c2, hld, hPb, hPs, hwr, hbs, hbl, hbl2, zz_get, hbg, hth0]
        exact ⟨b + 1, by omega, by omega, by rw [hls], by push_cast; rfl, rfl⟩
      · obtain rfl : b = S.length := by omega
        have hrest := rest_ok hf hl40 (len_bR (a := a) (Nat.le_refl _)) (fun j hj => by
          rw [len_bR (Nat.le_refl _)] at hj
          rw [bR_get (Nat.le_refl _) hj, if_pos hj]
          obtain ⟨q0, q1⟩ := qq_rg hS hlt hj
          omega) P a (leftS S a S.length) l0
        rw [hPl] at hrest
        have hdr : incR (bR S a S.length) ((ordS S a).take (leftS S a S.length).toNat) = demRow S a := rfl
        rw [hdr] at hrest
        simp (disch := first | omega | with_unfolding_all rfl) [hld, hrest, hf]
        refine ⟨a + 1, by omega, by omega, by push_cast; rfl, cells ++ [mls Int h.length 0 S.length], ?_, ?_⟩
        · rw [List.getElem?_append_left (by omega), hP0, hcs]
        · rw [demRows_succ]
          refine Rows.snoc (ix := h.length) ?_ (len_demRow S a) hh0 ?_
          · rw [hP]
            exact (hR.set0 _).app _
          · rw [List.getElem?_append_right (by omega), hPl, Nat.sub_self]; rfl
    · obtain rfl : a = S.length := by omega
      rw [Nat.sub_self, List.replicate_zero, List.append_nil] at h0
      have hfr := fun k => frzRows (k := k) hR h0
      rw [hcl] at hfr
      have hh0 : 0 < h.length := (List.getElem?_eq_some_iff.1 h0).1
      have hf61 : frzB Int h .any 61 (some h[0]) 0 S.length = some (tabV (demRows S S.length)) := by
        have h1 := frz_mlsC (α := Int) (H := h) (nl' := .any) (n := 61) (b := 0) (gen := 0) (m := S.length)
        rw [List.getElem?_eq_getElem hh0] at h1
        rw [← h1]
        exact hfr 60
      have hcb : (tabV (demRows S S.length)).cleanB = true := by
        have := clean_rows (demRows S S.length)
        simp only [tabV, PV.cleanB, this]
        rfl
      simp (disch := first | omega | with_unfolding_all rfl) [hf61, hcb]
end Go.Proofs.Ytbkhmgcfgfcilaa
