/- Blocks: the library's insertion, as a call with the caller's small heap. -/
import Derived.Test.YtfocelelbcepnaaBlockIns
import Derived.Test.YtfocelelbcepnaaBlockClo
set_option linter.unusedVariables false
set_option linter.unusedSimpArgs false
set_option maxHeartbeats 1000000
namespace Go.Proofs.Ytfocelelbcepnaa
open Go.Proofs.Ytfocelelbcepnaa.PM

theorem setCells_full : ∀ (xs ys r : List PV), xs.length = ys.length → setCells (xs ++ r) 0 ys = ys ++ r := by
  intro xs ys r h
  have h2 := setCells_app ([] : List PV) r ys xs 0 (by omega)
  simp only [List.nil_append, List.length_nil, Nat.zero_add] at h2
  rw [h2]
  congr 1
  clear h2
  induction ys generalizing xs with
  | nil =>
    rw [List.length_eq_zero_iff.1 h, setCells_nil]
  | cons y ys ih =>
    cases xs with
    | nil => simp at h
    | cons x xs =>
      rw [setCells_cons]
      simp only [List.set_cons_zero]
      have h3 := setCells_app [y] [] ys xs 0 (by simp at h; omega)
      simp only [List.length_singleton, Nat.add_zero, List.append_nil] at h3
      show setCells ([y] ++ xs) (0 + 1) ys = _
      rw [Nat.zero_add, h3, ih xs (by simpa using h)]
      rfl
theorem setCells_mid (p q s ys : List PV) (o : Nat) (ho : o = p.length) (h : q.length = ys.length) : setCells (p ++ (q ++ s)) o ys = p ++ (ys ++ s) := by
  subst ho
  have := setCells_app p s ys q 0 (by omega)
  rw [Nat.add_zero] at this
  rw [this]
  have h2 := setCells_full q ys [] h
  rw [List.append_nil, List.append_nil] at h2
  rw [h2]
theorem ins_p1 {X U V : List PV} {n i : Nat} (hX : X.length = n * 4) (hU : U.length = 4) (hV : V.length = 4) (hi : i < n) :
    setCells (setCells (X ++ U) ((i + 1) * 4) (X.drop (i * 4))) (i * 4) V = X.take (i * 4) ++ (V ++ X.drop (i * 4)) := by
  have e1 : X ++ U = (X ++ U).take ((i + 1) * 4) ++ ((X ++ U).drop ((i + 1) * 4) ++ []) := by rw [List.append_nil, List.take_append_drop]
  have h1 : setCells (X ++ U) ((i + 1) * 4) (X.drop (i * 4)) = (X ++ U).take ((i + 1) * 4) ++ (X.drop (i * 4) ++ []) := by
    conv => lhs; rw [e1]
    exact setCells_mid _ _ _ _ _ (by rw [List.length_take, List.length_append]; omega) (by rw [List.length_drop, List.length_drop, List.length_append]; omega)
  rw [h1, List.append_nil]
  have e2 : (X ++ U).take ((i + 1) * 4) = X.take (i * 4) ++ ((X ++ U).take ((i + 1) * 4)).drop (i * 4) := by
    conv => lhs; rw [← List.take_append_drop (i * 4) ((X ++ U).take ((i + 1) * 4))]
    rw [List.take_take, Nat.min_eq_left (by omega), List.take_append_of_le_length (by omega)]
  rw [e2, List.append_assoc]
  exact setCells_mid _ _ _ _ _ (by rw [List.length_take]; omega) (by rw [List.length_drop, List.length_take, List.length_append]; omega)
theorem ins_p2 {T U V D : List PV} {n i : Nat} (hT : T.length = i * 4) (hU : U.length = 4 + D.length) (hV : V.length = 4) :
    setCells (setCells (T ++ U) (i * 4) V) ((i + 1) * 4) D = T ++ (V ++ D) := by
  have e1 : U = U.take 4 ++ U.drop 4 := (List.take_append_drop 4 U).symm
  have h1 : setCells (T ++ U) (i * 4) V = T ++ (V ++ U.drop 4) := by
    conv => lhs; rw [e1]
    exact setCells_mid _ _ _ _ _ hT.symm (by rw [List.length_take]; omega)
  rw [h1]
  have h2 := setCells_mid (T ++ V) (U.drop 4) [] D ((i + 1) * 4) (by rw [List.length_append]; omega) (by rw [List.length_drop]; omega)
  rw [List.append_nil, List.append_nil, List.append_assoc, List.append_assoc] at h2
  exact h2
theorem rep_undef {K : KW} {n : Nat} : ∀ (l : List Value), l.length = n → RepL K (List.replicate n .undef) l := by
  intro l hl
  refine RepL.of (by simp [hl]) ?_
  intro i x v hx hv
  rw [List.getElem?_replicate] at hx
  split at hx
  · simp only [Option.some.injEq] at hx
    subst hx
    trivial
  · cases hx

theorem le_mu {K : KW} {H : Hp} (hH : HRel K H) {w' : World} {b g n : Nat} {B : Blk} (hb : H[b]? = some B) (hmp : B.mp = none) (hm : K.μ b B.gen = some (g, n)) (hg : K.w.grownBy w' (some g)) (p : Nat × Nat) : K.Le ⟨w', K.Z, K.Y, muSet K.μ b (B.gen + 1) p⟩ := by
  have hfr : K.μ b (B.gen + 1) = none := hH.fresh b _ (fun B' hB' => by
    rw [hb] at hB'
    obtain rfl : B = B' := by simpa using hB'
    omega)
  exact ⟨hg.os, hg.tape, hg.output, hg.size, fun k hk => hg.block k (hH.lt k hk) (by
    intro e
    obtain rfl : k = g := by simpa using e
    exact hH.notLive hk ⟨b, B, n, hb, hm⟩), fun _ h => h, fun _ h => h, fun b' n' q hp => (muSet_other _ _ _ _ _ _ (by
    rintro ⟨rfl, rfl⟩
    rw [hfr] at hp; cases hp)).trans hp, MapsKeep.grown hg (by
    intro k es c e
    obtain rfl : g = k := by simpa using e
    exact hH.noMap hb hmp hm es c)⟩
set_option maxRecDepth 20000 in
theorem natI_ok : ∀ args H r H', natI args H = some (r, H') → OpenOk Try.prog 67 args H r H' := by
  intro args H r H' h
  unfold natI at h
  split at h
  case h_2 => cases h
  rename_i b gen n i vb vgen
  simp only [Option.bind_eq_some_iff] at h
  obtain ⟨B, hB, V, hV, h⟩ := h
  split at h
  case isFalse => cases h
  rename_i hc
  obtain ⟨rfl, hmpB, hBe, rfl, hmpV, hBl, hVl, hi0, hin, hbv, hbig⟩ := hc
  simp only [Option.some.injEq, Prod.mk.injEq] at h
  obtain ⟨rfl, rfl⟩ := h
  obtain ⟨I, rfl⟩ : ∃ I : Nat, i = I := ⟨i.toNat, by omega⟩
  simp only [Int.toNat_natCast]
  refine ⟨⟨Try.f67, rfl, by decide, rfl⟩, fun K vs hH hr => ?_⟩
  obtain ⟨v1, v3, rfl, hv1, hv3⟩ : ∃ v1 v3, vs = #[v1, .int .i64 I, v3] ∧ Rep K (.msl true b B.gen 0 n 4) v1 ∧ Rep K (.msl true vb V.gen 0 1 4) v3 := by
    obtain ⟨v, l, e, hv, v2, l2, rfl, hv2, v3, l3, rfl, hv3, hl⟩ := hr
    refine ⟨v, v3, ?_, hv, hv3⟩
    apply Array.ext'
    rw [e, show v2 = .int .i64 I from hv2, show l3 = [] from hl]
  obtain ⟨_, ⟨h0, _⟩ | ⟨g, m, c, hm, rfl, hc, hcm⟩⟩ := hv1
  · omega
  obtain ⟨_, ⟨h0, _⟩ | ⟨gv, mv, vc, hmv, rfl, hvc, _⟩⟩ := hv3
  · omega
  obtain ⟨hmc, hcM⟩ := hcm rfl rfl
  have hinI : I < n := by omega
  obtain ⟨hH1, hX1⟩ := hH.drew
  obtain ⟨l, hl, hone, hcell⟩ := (hH.row hB hm).vals
  obtain ⟨lv, hlv, honev, hcellv⟩ := (hH.row hV hmv).vals
  have hll : l.length = n * 4 := by rw [← hl.length]; exact hBl
  have hlvl : lv.length = 4 := by rw [← hlv.length]; exact hVl
  have hgv : gv ≠ g := fun e => hbv (hH.inj b vb B V g m mv hB hV hm (by rw [← e]; exact hmv))
  rcases hH1.blk b B hB with ⟨_, _, hno⟩ | ⟨_, _, _, _, _, hx, _⟩ | ⟨g', cur, _, hm', hh, _, _, hlc, hrc, h1c⟩
  · have : K.drew.μ b B.gen = some (g, m) := hm
    rw [this] at hno; cases hno
  · rw [hmpB] at hx; cases hx
  have hm1 : K.drew.μ b B.gen = some (g, m) := hm
  rw [hm1] at hm'
  obtain ⟨rfl, rfl⟩ : g = g' ∧ m = cur.size := by simpa using hm'
  rcases hH1.blk vb V hV with ⟨_, _, hno⟩ | ⟨_, _, _, _, _, hx, _⟩ | ⟨gv', curv, _, hmv', hhv, _, _, hlcv, hrcv, h1cv⟩
  · have : K.drew.μ vb V.gen = some (gv, mv) := hmv
    rw [this] at hno; cases hno
  · rw [hmpV] at hx; cases hx
  have hmv1 : K.drew.μ vb V.gen = some (gv, mv) := hmv
  rw [hmv1] at hmv'
  obtain ⟨rfl, rfl⟩ : gv = gv' ∧ mv = curv.size := by simpa using hmv'
  have hhw : K.w.heap[g]? = some (.cells cur B.e (0, 0)) := hh
  have hhvw : K.w.heap[gv]? = some (.cells curv V.e (0, 0)) := hhv
  have hcs : ∀ j v, l[j]? = some v → K.w.cell? ⟨g, j, none⟩ = some v := fun j v h => by have := hcell j v h; rwa [Nat.zero_add] at this
  have hvs : ∀ j v, lv[j]? = some v → K.w.cell? ⟨gv, j, none⟩ = some v := fun j v h => by have := hcellv j v h; rwa [Nat.zero_add] at this
  have hl1 : RepL K.drew B.xs l := hl.mono K.drew_le
  have hlv1 : RepL K.drew V.xs lv := hlv.mono K.drew_le
  have hdl : RepL K.drew (B.xs.drop (I * 4)) (l.drop (I * 4)) := hl1.drop _
  have hone' : (B.xs.take (I * 4) ++ (V.xs ++ B.xs.drop (I * 4))).all PV.one = true := by
    rw [List.all_append, List.all_append, h1cv, Bool.true_and, ← List.all_append, List.take_append_drop]
    exact h1c
  have hZl : (B.xs.take (I * 4) ++ (V.xs ++ B.xs.drop (I * 4))).length = (n + 1) * 4 := by
    rw [List.length_append, List.length_append, List.length_take, List.length_drop]; omega
  by_cases hroom : n + 1 ≤ c
  · have hsp : ∀ j, j < (n + 1) * 4 → (K.w.cell? ⟨g, j, none⟩).isSome = true := fun j hj => by
      rw [cell_of_row K.w g j cur B.e (0, 0) hhw, Array.getElem?_eq_getElem (by omega)]
      rfl
    refine (ins_shift g n c I gv vc l lv K.w hinI hroom hcM hgv hll hlvl hcs hsp (fun j => frozen_of_row K.w g j cur B.e hhw) hvs hone honev V.e B.e curv.size cur.size (by simp [World.shape?, hhvw]) (by simp [World.shape?, hhw]) (by omega) (fun j => frozen_of_row K.w gv j curv V.e hhvw)).mono ?_
    rintro e w' ⟨rfl, rfl⟩
    obtain ⟨cur1, hh1, hs1, hsz1, hg1, hrep1⟩ := heap_setCells g B.e (l.drop (I * 4)) ((I + 1) * 4) K.w.drew cur hh
    obtain ⟨cur2, hh2, hs2, hsz2, hg2, hrep2⟩ := heap_setCells g B.e lv (I * 4) _ cur1 hh1
    have hxl : (B.xs ++ List.replicate 4 PV.undef).length = (n + 1) * 4 := by rw [List.length_append, List.length_replicate]; omega
    have hx0 : RepL K.drew (B.xs ++ List.replicate 4 PV.undef) (cur.toList.take (B.xs ++ List.replicate 4 PV.undef).length) := by
      rw [hxl, show (n + 1) * 4 = n * 4 + 4 by omega, List.take_add]
      rw [hBl] at hrc
      refine hrc.append (rep_undef _ ?_)
      rw [List.length_take, List.length_drop, Array.length_toList]
      omega
    have hx1 := hrep1 K.drew _ (B.xs.drop (I * 4)) hx0 hdl (by rw [hxl, List.length_drop]; omega) (by rw [hxl]; omega)
    have hx2 := hrep2 K.drew _ V.xs (by rw [length_setCells]; exact hx1) hlv1 (by rw [length_setCells, hxl]; omega) (by rw [length_setCells, hxl]; omega)
    rw [ins_p1 hBl (by simp) hVl hinI, length_setCells, hxl] at hx2
    have hgg : K.drew.w.grownBy ((K.w.drew.setCells g ((I + 1) * 4) (l.drop (I * 4))).setCells g (I * 4) lv) (some g) :=
      ⟨hg2.os.trans hg1.os, hg2.tape.trans hg1.tape, hg2.output.trans hg1.output, Nat.le_trans hg1.size hg2.size, fun k hk hne => (hg2.block k (Nat.lt_of_lt_of_le hk hg1.size) hne).trans (hg1.block k hk hne)⟩
    have hle := le_mu hH1 hB hmpB hm1 hgg (g, cur2.size)
    obtain ⟨hH', hE⟩ := hH1.grow (g' := g) hB hmpB (by rw [hm1]; exact hgg) (.inl ⟨_, hm1⟩) hh2 (B.xs.take (I * 4) ++ (V.xs ++ B.xs.drop (I * 4))) rfl (by rw [hZl, hs2, hs1]; omega) (by rw [hZl]; exact hx2.mono hle) hone'
    rw [hBe] at hH' hE
    exact ⟨_, _, rfl, rfl, hX1.trans hE, hH', by decide, .inr ⟨g, cur2.size, c, muSet_same _ _ _ _, rfl, hroom, fun _ _ => ⟨by rw [hs2, hs1]; exact hmc, hcM⟩⟩⟩
  · have hgs : g < K.w.heap.size := hH.live_lt ⟨b, B, _, hB, hm⟩
    have hvw : gv < K.w.heap.size := hH.live_lt ⟨vb, V, _, hV, hmv⟩
    have hnc : n ≤ c := by omega
    obtain ⟨ROW, G, hRs, hGn, hGm, hRt, hcall⟩ := ins_grow g n c I gv vc l lv K.w hinI hnc (by omega) hbig hll hlvl hcs hvs hone honev hgs hvw
    refine hcall.mono ?_
    rintro e w' ⟨rfl, rfl⟩
    have hh0 : ((K.w.alloc (.cells ROW 45)).drew).heap[K.w.heap.size]? = some (.cells ROW 45 (0, 0)) := by
      show (K.w.heap.push (.cells ROW 45))[K.w.heap.size]? = _
      rw [Array.getElem?_push_size]
    obtain ⟨cur1, hh1, hs1, hsz1, hg1, hrep1⟩ := heap_setCells K.w.heap.size 45 lv (I * 4) _ ROW hh0
    obtain ⟨cur2, hh2, hs2, hsz2, hg2, hrep2⟩ := heap_setCells K.w.heap.size 45 (l.drop (I * 4)) ((I + 1) * 4) (((K.w.alloc (.cells ROW 45)).drew.setCells K.w.heap.size (I * 4) lv).drew) cur1 hh1
    have hDl : (B.xs.drop (I * 4)).length = (n - I) * 4 := by rw [List.length_drop]; omega
    have hTl : (B.xs.take (I * 4)).length = I * 4 := by rw [List.length_take]; omega
    have hxl : (B.xs.take (I * 4) ++ List.replicate (4 + (n - I) * 4) PV.undef).length = (n + 1) * 4 := by rw [List.length_append, List.length_replicate, hTl]; omega
    have hRs2 : (n + 1) * 4 ≤ ROW.size := by omega
    have hRtk : ROW.toList.take (I * 4) = l.take (I * 4) := by
      apply List.ext_getElem?
      intro j
      rw [List.getElem?_take]
      split
      · rename_i hj
        have hj2 : j < (l.take (I * 4)).length := by rw [List.length_take]; omega
        have := hRt j _ (List.getElem?_eq_getElem hj2)
        rw [List.getElem?_eq_getElem hj2, ← this]
        simp
      · rw [List.getElem?_eq_none (by rw [List.length_take]; omega)]
    have hx0 : RepL K.drew (B.xs.take (I * 4) ++ List.replicate (4 + (n - I) * 4) PV.undef) (ROW.toList.take (B.xs.take (I * 4) ++ List.replicate (4 + (n - I) * 4) PV.undef).length) := by
      rw [hxl, show (n + 1) * 4 = I * 4 + (4 + (n - I) * 4) by omega, List.take_add, hRtk]
      refine (hl1.take _).append (rep_undef _ ?_)
      rw [List.length_take, List.length_drop, Array.length_toList]
      omega
    have hx1 := hrep1 K.drew _ V.xs hx0 hlv1 (by rw [hxl]; omega) (by rw [hxl]; omega)
    have hx2 := hrep2 K.drew _ (B.xs.drop (I * 4)) (by rw [length_setCells]; exact hx1) hdl (by rw [length_setCells, hxl]; omega) (by rw [length_setCells, hxl]; omega)
    rw [ins_p2 (n := n) hTl (by rw [List.length_replicate, hDl]) hVl, length_setCells, hxl] at hx2
    have hal : K.drew.w.grownBy (K.w.alloc (.cells ROW 45)).drew (some g) :=
      ⟨rfl, rfl, rfl, by
        show K.w.heap.size ≤ (K.w.heap.push (.cells ROW 45)).size
        rw [Array.size_push]; omega, fun k hk _ => by
        have hk' : k < K.w.heap.size := hk
        show (K.w.heap.push (.cells ROW 45))[k]? = K.w.heap[k]?
        rw [Array.getElem?_push_lt hk', Array.getElem?_eq_getElem hk']⟩
    have hgg : K.drew.w.grownBy ((((K.w.alloc (.cells ROW 45)).drew.setCells K.w.heap.size (I * 4) lv).drew).setCells K.w.heap.size ((I + 1) * 4) (l.drop (I * 4))) (some g) := by
      have hne : ∀ k, k < K.w.heap.size → some k ≠ some K.w.heap.size := fun k hk e => by simp at e; omega
      refine ⟨hg2.os.trans (hg1.os.trans hal.os), hg2.tape.trans (hg1.tape.trans hal.tape), hg2.output.trans (hg1.output.trans hal.output), Nat.le_trans hal.size (Nat.le_trans hg1.size hg2.size), fun k hk hk2 => ?_⟩
      have hk' : k < K.w.heap.size := hk
      exact (hg2.block k (Nat.lt_of_lt_of_le (Nat.lt_of_lt_of_le hk hal.size) hg1.size) (fun e => hne k hk' e)).trans ((hg1.block k (Nat.lt_of_lt_of_le hk hal.size) (fun e => hne k hk' e)).trans (hal.block k hk hk2))
    have hle := le_mu hH1 hB hmpB hm1 hgg (K.w.heap.size, cur2.size)
    obtain ⟨hH', hE⟩ := hH1.grow (g' := K.w.heap.size) hB hmpB (by rw [hm1]; exact hgg) (.inr (Nat.le_refl _)) hh2 (B.xs.take (I * 4) ++ (V.xs ++ B.xs.drop (I * 4))) hBe.symm (by rw [hZl, hs2, hs1]; omega) (by rw [hZl]; exact hx2.mono hle) hone'
    rw [hBe] at hH' hE
    exact ⟨_, _, rfl, rfl, hX1.trans hE, hH', by decide, .inr ⟨K.w.heap.size, cur2.size, G, muSet_same _ _ _ _, rfl, hGn, fun _ _ => ⟨by rw [hs2, hs1]; exact hRs, hGm⟩⟩⟩
end Go.Proofs.Ytfocelelbcepnaa
