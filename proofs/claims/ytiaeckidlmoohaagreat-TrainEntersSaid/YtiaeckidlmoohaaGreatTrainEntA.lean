/- Several texts in one: TrainNum, TrainRefB, TrainNumM, TrainHeldB, TrainEnter. -/
import Derived.Test.YtiaeckidlmoohaaGreatTrainBlkC
import Derived.Test.YtiaeckidlmoohaaGreatTrainSafeA
import Derived.Test.YtiaeckidlmoohaaGreatTrainCpA
section
set_option linter.unusedVariables false
set_option linter.unusedSimpArgs false
set_option maxHeartbeats 4000000
set_option maxRecDepth 20000
namespace Go.Proofs.YtiaeckidlmoohaaGreat
open Go.Proofs.YtiaeckidlmoohaaGreat.PM
theorem addP_new {pts : List Pt} {i n : Int} (h0 : ¬ n < 0) (hi : n = i) : addP pts i n = pts ++ [⟨n, [i]⟩] := by rw [addP, if_neg h0, if_pos hi]
def pcs (of : List Int) (k : Nat) (n : Int) : List Nat := (List.range k).filter fun i => decide (of.getD i 0 = n)
theorem pcs_succ (of : List Int) (k : Nat) (n : Int) : pcs of (k + 1) n = pcs of k n ++ if of.getD k 0 = n then [k] else [] := by
  unfold pcs
  rw [List.range_succ, List.filter_append]
  congr 1
  by_cases h : of.getD k 0 = n
  · rw [if_pos h, List.filter_cons, if_pos (by simpa using h)]; rfl
  · rw [if_neg h, List.filter_cons, if_neg (by simpa using h)]; rfl
theorem prt8_nn {of : List Int} (h : Nm of) {k : Nat} (hk : k ≤ of.length) {p : Pt} (hp : p ∈ prt8 of k) : ∃ j : Nat, j < k ∧ of.getD j 0 = (j : Int) ∧ p.n = (j : Int) := ((prt8_ok h k hk).2 p.n).1 ⟨p, hp, rfl⟩
theorem prt8_pcs {of : List Int} (h : Nm of) : ∀ k, k ≤ of.length → ∀ p ∈ prt8 of k, p.p = ic (pcs of k p.n)
  | 0, _, p, hp => by simp [prt8] at hp
  | k + 1, hk, p, hp => by
    have ih := prt8_pcs h k (by omega)
    obtain ⟨hA, hM⟩ := prt8_ok h k (by omega)
    rw [prt8_succ] at hp
    rw [pcs_succ]
    obtain ⟨n, hn⟩ : ∃ n, n = of.getD k 0 := ⟨_, rfl⟩
    rw [← hn] at hp ⊢
    by_cases h0 : n < 0
    · rw [addP_neg _ _ _ h0] at hp
      obtain ⟨j, _, _, e⟩ := prt8_nn h (by omega) hp
      rw [if_neg (by omega), List.append_nil]
      exact ih p hp
    by_cases h1 : n = (k : Int)
    · rw [addP_new h0 h1, List.mem_append, List.mem_singleton] at hp
      rcases hp with hp | rfl
      · obtain ⟨j, _, _, e⟩ := prt8_nn h (by omega) hp
        rw [if_neg (by omega), List.append_nil]
        exact ih p hp
      · dsimp only
        rw [if_pos rfl]
        have : pcs of k n = [] := by
          unfold pcs
          rw [List.filter_eq_nil_iff]
          intro i hi
          rw [List.mem_range] at hi
          simp only [decide_eq_true_eq]
          intro q
          rcases h.nm i (by omega) with c | ⟨m, c1, c2, _⟩
          · omega
          · omega
        rw [this]; rfl
    · rw [addP, if_neg h0, if_neg h1, List.mem_map] at hp
      obtain ⟨q, hq, rfl⟩ := hp
      by_cases e : q.n = n
      · rw [if_pos e]
        dsimp only
        rw [if_pos e.symm, ih q hq, ← ic_app]
      · rw [if_neg e, if_neg (fun c => e c.symm), List.append_nil]
        exact ih q hq
noncomputable def nbd (y : Yd) (d : Int) : Int := (numL y.r y.g).getD d.toNat 0
noncomputable def nbm (y : Yd) (t p : Int) : Int := nbd y (8 * t + p)
theorem Val.vd {y : Yd} (v : Val y) : Vd y.r y.g := vd_of (Val.parts v.e).1
theorem Val.nm {y : Yd} (v : Val y) : Nm (numL y.r y.g) := nums_nm v.good (nums_is v.vd)
theorem blk_in {y : Yd} (v : Val y) {p : Pt} (hp : p ∈ blks y.r y.g) {d : Int} (hd : d ∈ p.p) : ∃ q : Nat, d = q ∧ q ≤ 10000 ∧ nbd y d = p.n := by
  have h1 := prt8_pcs v.nm _ (Nat.le_refl _) p hp
  rw [h1] at hd
  unfold ic at hd
  obtain ⟨q, hq, rfl⟩ := List.mem_map.1 hd
  unfold pcs at hq
  rw [List.mem_filter, List.mem_range] at hq
  have hle := v.nm.le
  exact ⟨q, rfl, by omega, by unfold nbd; rw [Int.toNat_natCast]; exact of_decide_eq_true hq.2⟩
theorem blk_has {y : Yd} (v : Val y) {q : Nat} (hq : q < (numL y.r y.g).length) (h0 : 0 ≤ (numL y.r y.g).getD q 0) : ∃ p ∈ blks y.r y.g, (q : Int) ∈ p.p := by
  obtain ⟨m, h1, h2, h3⟩ := (v.nm.nm q hq).resolve_left (by omega)
  obtain ⟨p, hp, hn⟩ := ((prt8_ok v.nm _ (Nat.le_refl _)).2 m).2 ⟨m, by omega, h3, rfl⟩
  refine ⟨p, hp, ?_⟩
  rw [prt8_pcs v.nm _ (Nat.le_refl _) p hp]
  unfold ic
  refine List.mem_map_of_mem ?_
  unfold pcs
  rw [List.mem_filter, List.mem_range]
  exact ⟨hq, by rw [hn]; exact decide_eq_true h1⟩
theorem lie_nb {y : Yd} (v : Val y) {t p : Int} (h : lie y.r t p = true) : ∃ q : Nat, 8 * t + p = q ∧ q ≤ 10000 ∧ ∃ b ∈ blks y.r y.g, (q : Int) ∈ b.p := by
  have hl := lie_lt h
  have hn := nums_is v.vd
  have hlen := hn.len
  have hle := v.nm.le
  obtain ⟨T, rfl⟩ : ∃ T : Nat, t = T := ⟨t.toNat, by omega⟩
  obtain ⟨P, rfl⟩ : ∃ P : Nat, p = P := ⟨p.toNat, by omega⟩
  have e1 : (((8 * T + P : Nat) : Int)) / 8 = (T : Int) := by omega
  have e2 : (((8 * T + P : Nat) : Int)) % 8 = (P : Int) := by omega
  obtain ⟨m, h1, -⟩ := hn.on (8 * T + P) (by omega) (by rw [e1, e2]; exact h)
  exact ⟨8 * T + P, by omega, by omega, blk_has v (by omega) (by rw [List.getD_eq_getElem?_getD, h1]; simp)⟩
theorem mem_compU (d : Array Int) (x : Int) : ∀ m : Nat, x ∈ Lib.compactUpTo d m ↔ ∃ j, j < m ∧ d[j]! = x
  | 0 => by simp [Lib.compactUpTo]
  | m + 1 => by
    have ih := mem_compU d x m
    rw [Lib.compactUpTo_succ, List.mem_append, ih]
    constructor
    · rintro (⟨j, h1, h2⟩ | h)
      · exact ⟨j, by omega, h2⟩
      · split at h
        · rw [List.mem_singleton] at h
          exact ⟨m, by omega, h.symm⟩
        · simp at h
    · rintro ⟨j, h1, h2⟩
      by_cases e : j < m
      · exact .inl ⟨j, e, h2⟩
      have ej : j = m := by omega
      subst ej
      by_cases c : Lib.keeps d j = true
      · right; rw [if_pos c, List.mem_singleton]; exact h2.symm
      · left
        unfold Lib.keeps at c
        simp at c
        exact ⟨j - 1, by omega, by rw [← h2]; exact c.2.symm⟩
theorem mem_comp (zs : List Int) (x : Int) : x ∈ Lib.compact zs ↔ x ∈ zs := by
  unfold Lib.compact
  rw [mem_compU]
  constructor
  · rintro ⟨j, h1, h2⟩
    rw [getElem!_pos zs.toArray j (by simpa using h1)] at h2
    rw [← h2]; simp
  · intro h
    obtain ⟨j, hj, rfl⟩ := List.getElem_of_mem h
    exact ⟨j, hj, by rw [getElem!_pos zs.toArray j (by simpa using hj)]; simp⟩
theorem mem_srt (zs : List Int) (x : Int) : x ∈ srt zs ↔ x ∈ zs := by unfold srt; exact (List.mergeSort_perm zs _).mem_iff
theorem srt_perm {a b : List Int} (h : a.Perm b) : srt a = srt b := by
  have hp : (srt a).Perm (srt b) := ((List.mergeSort_perm a _).trans h).trans (List.mergeSort_perm b _).symm
  have hs : ∀ l : List Int, (srt l).Pairwise fun x y => x ≤ y := fun l => by
    have := List.pairwise_mergeSort (le := fun x y : Int => decide (x ≤ y)) (fun a b c h1 h2 => by simp at *; omega) (fun a b => by simp; omega) l
    unfold srt
    exact this.imp fun h => by simpa using h
  exact List.Perm.eq_of_pairwise (fun a b _ _ h1 h2 => by omega) (hs a) (hs b) hp
theorem set_same {H : Hp} {b : Nat} {B : Blk} (hb : H[b]? = some B) : H.set b B = H := by
  refine List.ext_getElem? fun j => ?_
  by_cases e : b = j
  · subst e
    rw [List.getElem?_set_self (List.getElem?_eq_some_iff.1 hb).1, hb]
  · rw [List.getElem?_set_ne e]
theorem sortI_ok {H : Hp} {b g : Nat} {L : List Int} (hb : H[b]? = some (bk 3 g L)) (hl : L.length ≤ 10000000) : RO tc 146 [mls Int b g L.length] H = some (.tup [], H.set b (bk 3 g (srt L))) := by
  have h2 : natI 146 [.msl true b g 0 L.length 1] H = some (.tup [], H.set b (bk 3 g (srt L))) := by
    unfold natI
    by_cases h : L.length = 0
    · obtain rfl := List.length_eq_zero_iff.1 h
      have : srt [] = [] := by simp [srt]
      rw [this, set_same hb]
      simp only [if_true, List.length_nil]
    · have hq : L.length < 4611686018427387904 := by omega
      have h' : L ≠ [] := fun e => h (by rw [e]; rfl)
      simp only [if_true, h, if_false, hb, Option.bind_some, decI_cl, true_and, and_self, hq]
  refine ROnat ?_
  show ((natI 146 [.msl true b g 0 L.length 1] H).or _) = _
  rw [h2]; rfl
theorem compI_ok {H : Hp} {b g : Nat} {L : List Int} (hb : H[b]? = some (bk 3 g L)) (hl : L.length ≤ 10000000) : RO tc 147 [mls Int b g L.length] H = some (mls Int b g (Lib.compact L).length, H.set b (bk 3 g (Lib.compact L ++ List.replicate (L.length - (Lib.compact L).length) 0))) := by
  have h2 : natI 147 [.msl true b g 0 L.length 1] H = some (mls Int b g (Lib.compact L).length, H.set b (bk 3 g (Lib.compact L ++ List.replicate (L.length - (Lib.compact L).length) 0))) := by
    unfold natI
    by_cases h : L.length = 0
    · obtain rfl := List.length_eq_zero_iff.1 h
      have : Lib.compact ([] : List Int) = [] := rfl
      rw [this]
      show _ = some (_, H.set b (bk 3 g ([] : List Int)))
      rw [set_same hb]
      simp only [if_true, List.length_nil, if_neg (show ¬ (147 : Nat) = 146 by decide)]
      rfl
    · have hq : L.length < 4611686018427387904 := by omega
      have h' : L ≠ [] := fun e => h (by rw [e]; rfl)
      simp only [if_true, h, if_false, hb, Option.bind_some, decI_cl, true_and, and_self, hq, if_neg (show ¬ (147 : Nat) = 146 by decide)]
  refine ROnat ?_
  show ((natI 147 [.msl true b g 0 L.length 1] H).or _) = _
  rw [h2]; rfl
end Go.Proofs.YtiaeckidlmoohaaGreat
end
section
set_option linter.unusedVariables false
set_option linter.unusedSimpArgs false
set_option maxHeartbeats 8000000
set_option maxRecDepth 20000
namespace Go.Proofs.YtiaeckidlmoohaaGreat
open Go.Proofs.YtiaeckidlmoohaaGreat.PM
theorem block_ok {y : Yd} (v : Val y) {s : So} (h : lie y.r s.t s.p = true) : R tc 101 [lst .any (blks y.r y.g), vSo s] = some (.int .i64 (nbm y s.t s.p)) := by
  obtain ⟨q, hq, hq1, b0, hb0, hqb⟩ := lie_nb v h
  have hin := fun {p : Pt} (hp : p ∈ blks y.r y.g) {d : Int} (hd : d ∈ p.p) => blk_in v hp hd
  have hpl : (blks y.r y.g).length ≤ 10000 := Nat.le_trans (prt8_len _) v.nm.le
  have hpp : ∀ p ∈ blks y.r y.g, p.p.length ≤ 10000 := fun p hp => Nat.le_trans (prt8_plen _ p hp) v.nm.le
  have hn : nbm y s.t s.p = nbd y q := by unfold nbm; rw [hq]
  have hl := lie_lt h
  have hg := v.good
  have hmu := hg.mul
  rw [hn]
  obtain ⟨ps, hps⟩ : ∃ ps, ps = blks y.r y.g := ⟨_, rfl⟩
  rw [← hps] at hb0 hin hpl hpp ⊢
  obtain ⟨t, p, o⟩ := s
  dsimp only at *
  refine R_of_G (F := pf101) (tc_nat _ rfl) rfl rfl ?_
  simp (disch := first | omega | with_unfolding_all rfl) [pf101, env0_eq]
  refine G_scanC [3, 9, 10] 11 (fun k => match ps[k]? with | some x => decide ((q : Int) ∈ x.p) | none => false) ps.length 0 (by simp) (Nat.zero_le _) ?_
  rintro k e - hk1 hz hk g11
  simp at hk
  simp (disch := first | omega | with_unfolding_all rfl) [hk, g11]
  refine G_brd (fun d => ?_) (fun d => ?_)
  · have hin2 : k < ps.length := by omega
    obtain ⟨x, hx⟩ : ∃ x, x = ps[k] := ⟨_, rfl⟩
    have hxm : x ∈ ps := by rw [hx]; exact List.getElem_mem hin2
    have hxl := hpp x hxm
    have hxi := fun {d : Int} (hd : d ∈ x.p) => hin hxm hd
    simp (disch := first | omega | with_unfolding_all rfl) [hk, g11, d, ← hx]
    refine G_scanC [3, 6, 9, 10, 11, 16, 17] 18 (fun j => match x.p[j]? with | some d => decide (d = (q : Int)) | none => false) x.p.length 0 (by simp) (Nat.zero_le _) ?_
    rintro j e2 - hj1 hz2 hk2 g18
    simp at hk2
    simp (disch := first | omega | with_unfolding_all rfl) [hk, g11, hk2, g18]
    refine G_brd (fun d2 => ?_) (fun d2 => ?_)
    · have hjn : j < x.p.length := by omega
      obtain ⟨z, hz3⟩ : ∃ z, z = x.p[j] := ⟨_, rfl⟩
      have hzm : z ∈ x.p := by rw [hz3]; exact List.getElem_mem hjn
      obtain ⟨z', hz4, hz5, hz6⟩ := hxi hzm
      have hw1 : IntKind.i64.wrap (8 * t) = 8 * t := wrapI (by omega) (by omega)
      have hw2 : IntKind.i64.wrap (8 * t + p) = (q : Int) := by rw [hq]; exact wrapI (by omega) (by omega)
      simp (disch := first | omega | with_unfolding_all rfl) [hk, g11, hk2, g18, d2, ← hz3, hw1, hw2, -wrap_i64]
      refine G_brd (fun c => ?_) (fun c => ?_)
      · rw [c] at hz6
        simp (disch := first | omega | with_unfolding_all rfl) [hk, g11, hk2, g18, hz6]
      · simp (disch := first | omega | with_unfolding_all rfl) [hk, g11, hk2, g18]
        try omega
    · have hno : (q : Int) ∉ x.p := fun hm => by
        obtain ⟨j2, hj2, e⟩ := List.getElem_of_mem hm
        have := hz2 j2 (Nat.zero_le _) (by omega)
        simp only [List.getElem?_eq_getElem hj2] at this
        simp [e] at this
      simp (disch := first | omega | with_unfolding_all rfl) [hk, g11, hk2, g18, d2, hno]
      try omega
  · exfalso
    obtain ⟨j, hj, e⟩ := List.getElem_of_mem hb0
    have := hz j (Nat.zero_le _) (by omega)
    simp only [List.getElem?_eq_getElem hj] at this
    rw [e] at this
    simp at this
    exact this hqb
theorem taken_ok {y : Yd} (v : Val y) {L : List So} (hL : ∀ q ∈ L, lie y.r q.t q.p = true) (hl : L.length ≤ 200000) (n : Int) : R tc 100 [lst .any (blks y.r y.g), lst .any L, .int .i64 n] = some (.bool (L.any fun q => decide (nbm y q.t q.p = n))) := by
  have hb := fun q (h : q ∈ L) => block_ok v (hL q h)
  obtain ⟨ps, hps⟩ : ∃ ps, ps = blks y.r y.g := ⟨_, rfl⟩
  rw [← hps] at hb ⊢
  refine R_of_G (F := pf100) (tc_nat _ rfl) rfl rfl ?_
  simp (disch := first | omega | with_unfolding_all rfl) [pf100, env0_eq]
  refine G_scanC [0, 2, 9, 10] 11 (fun k => match L[k]? with | some q => decide (nbm y q.t q.p = n) | none => false) L.length 0 (by simp) (Nat.zero_le _) ?_
  rintro k e - hk1 hz hk g11
  simp at hk
  simp (disch := first | omega | with_unfolding_all rfl) [hk, g11]
  refine G_brd (fun d => ?_) (fun d => ?_)
  · have hin2 : k < L.length := by omega
    obtain ⟨x, hx⟩ : ∃ x, x = L[k] := ⟨_, rfl⟩
    have hxm : x ∈ L := by rw [hx]; exact List.getElem_mem hin2
    have hbx := hb x hxm
    simp only [vSo] at hbx
    obtain ⟨N, hN⟩ : ∃ N, N = nbm y x.t x.p := ⟨_, rfl⟩
    rw [← hN] at hbx
    simp (disch := first | omega | with_unfolding_all rfl) [hk, g11, d, ← hx, hbx]
    refine G_brd (fun c => ?_) (fun c => ?_)
    · have hbt : (L.any fun q => decide (nbm y q.t q.p = n)) = true := by rw [List.any_eq_true]; exact ⟨x, hxm, by rw [← hN]; exact decide_eq_true c⟩
      simp (disch := first | omega | with_unfolding_all rfl) [hbt]
    · simp (disch := first | omega | with_unfolding_all rfl) [hk, g11, ← hN, c]
      try omega
  · have hbf : (L.any fun q => decide (nbm y q.t q.p = n)) = false := by
      rw [Bool.eq_false_iff]
      intro q
      rw [List.any_eq_true] at q
      obtain ⟨x, hx, hx2⟩ := q
      obtain ⟨j, hj, rfl⟩ := List.getElem_of_mem hx
      have := hz j (Nat.zero_le _) (by omega)
      simp only [List.getElem?_eq_getElem hj] at this
      rw [this] at hx2; cases hx2
    simp (disch := first | omega | with_unfolding_all rfl) [hk, g11, d, hbf]
end Go.Proofs.YtiaeckidlmoohaaGreat
end
section
set_option linter.unusedVariables false
set_option linter.unusedSimpArgs false
set_option maxHeartbeats 8000000
set_option maxRecDepth 20000
namespace Go.Proofs.YtiaeckidlmoohaaGreat
open Go.Proofs.YtiaeckidlmoohaaGreat.PM
abbrev vP (d : Int) : PV := .agg [.int .i64 (d / 8), .int .i64 (d % 8)]
structure OfM (f : Int → Int) (D : List Int) (m : Mp) : Prop where
  wf : MN m
  kn : m.kn = some 2
  vals : ∀ v ∈ m.vs, ∃ z, v = .int .i64 z
  look : ∀ d ∈ D, mfind m (vP d) = some (.int .i64 (f d))
theorem OfM.empty (f : Int → Int) : OfM f [] ⟨some 2, [], []⟩ := ⟨.empty _, rfl, fun v h => by simp at h, fun d h => by simp at h⟩
theorem OfM.put {f : Int → Int} {D : List Int} {m : Mp} (h : OfM f D m) (d : Int) : OfM f (D ++ [d]) (mput m (vP d) (.int .i64 (f d))) := by
  have hx : ∀ d, keyB m.kn (vP d) = true := fun d => by rw [h.kn]; rfl
  refine ⟨h.wf.put (hx d) _, by rw [mput_kn]; exact h.kn, fun w hw => ?_, fun e he => ?_⟩
  · rcases mput_vs hw with rfl | hw
    · exact ⟨_, rfl⟩
    · exact h.vals w hw
  · by_cases c : d = e
    · subst c; exact mfind_put_eq h.wf.toMW (hx d) _
    · rw [mfind_put_ne h.wf.toMW (hx d) (hx e) (fun q => c (by simp at q; omega))]
      rw [List.mem_append, List.mem_singleton] at he
      exact h.look e (he.resolve_right fun q => c q.symm)
inductive Ofs (y : Yd) : PV → Prop
  | mk (ks vs : List PV) (h : ∀ t p : Int, lie y.r t p = true → mfind ⟨some 2, ks, vs⟩ (.agg [.int .i64 t, .int .i64 p]) = some (.int .i64 (nbm y t p))) : Ofs y (.fmap false (some 2) ks vs)
def pcsK (ps : List Pt) (i : Nat) : List Int := (ps.take i).flatMap Pt.p
theorem blocksM_ok {y : Yd} (v : Val y) : ∃ M, R tc 97 [vYd y] = some M ∧ Ofs y M := by
  obtain ⟨w, h1, h2⟩ := R_ex (T := tc) (f := 97) (F := pf97) (args := [vYd y]) (Rq := fun v => Ofs y v) (tc_nat _ rfl) rfl rfl (by
    have hb := blocks_ok y.r y.n1 y.g (by have := v.k.s; omega) (by have := v.k.g; omega)
    rw [if_pos (Val.parts v.e).1] at hb
    have hin := fun {p : Pt} (hp : p ∈ blks y.r y.g) {d : Int} (hd : d ∈ p.p) => blk_in v hp hd
    have hlie := fun {t p : Int} (h : lie y.r t p = true) => lie_nb v h
    have hpl : (blks y.r y.g).length ≤ 10000 := Nat.le_trans (prt8_len _) v.nm.le
    have hpp : ∀ p ∈ blks y.r y.g, p.p.length ≤ 10000 := fun p hp => Nat.le_trans (prt8_plen _ p hp) v.nm.le
    obtain ⟨ps, hps⟩ : ∃ ps, ps = blks y.r y.g := ⟨_, rfl⟩
    rw [← hps] at hb hin hlie hpl hpp
    have hmk : ∀ H, evMkm (some 2) H = (.mmap H.length, H ++ [mpB ⟨some 2, [], []⟩]) := fun _ => rfl
    simp (disch := first | omega | with_unfolding_all rfl) [pf97, env0_eq, hmk, hb]
    refine G_loopK [3, 19, 20] (fun (k : Nat) e h => k ≤ ps.length ∧ get e 21 = .int .i64 (k : Int) ∧ ∃ m, OfM (nbd y) (pcsK ps k) m ∧ h = [mpB m]) (fun k => ps.length - k) (a₀ := 0) ⟨by omega, by simp, _, OfM.empty _, rfl⟩ ?_
    rintro k e h hk2 ⟨hkl, g21, m, hm, rfl⟩
    simp at hk2
    have hnr : ∀ n, PV.noRefL n m.vs = true := fun n => noRefL_iff.2 fun w hw => by obtain ⟨z, rfl⟩ := hm.vals w hw; rfl
    simp (disch := first | omega | with_unfolding_all rfl) [hk2, g21]
    refine G_brd (fun d => ?_) (fun d => ?_)
    · have hin2 : k < ps.length := by omega
      obtain ⟨x, hx⟩ : ∃ x, x = ps[k] := ⟨_, rfl⟩
      have hxm : x ∈ ps := by rw [hx]; exact List.getElem_mem hin2
      have hsn : pcsK ps (k + 1) = pcsK ps k ++ x.p := by
        unfold pcsK
        rw [List.take_add_one, List.getElem?_eq_getElem hin2, ← hx]
        simp
      have hxl := hpp x hxm
      have hxi := fun {d : Int} (hd : d ∈ x.p) => hin hxm hd
      simp (disch := first | omega | with_unfolding_all rfl) [hk2, g21, d, ← hx]
      obtain ⟨bx, hbx⟩ : ∃ bx : Blk, bx = ⟨179, 0, [.int .i64 x.n, lst .any x.p], none⟩ := ⟨_, rfl⟩
      have hbn : ∀ n, bx.nr n = true := fun n => by rw [hbx]; simp
      rw [← hbx]
      refine G_loopK [3, 7, 19, 20, 21, 26, 27] (fun (j : Nat) e h => j ≤ x.p.length ∧ get e 28 = .int .i64 (j : Int) ∧ ∃ m, OfM (nbd y) (pcsK ps k ++ x.p.take j) m ∧ h = [mpB m, bx]) (fun j => x.p.length - j) (a₀ := 0) ⟨by omega, by simp, m, by simpa using hm, rfl⟩ ?_
      rintro j e2 h hk3 ⟨hj, g28, m2, hm2, rfl⟩
      simp at hk3
      have hnr2 : ∀ n, PV.noRefL n m2.vs = true := fun n => noRefL_iff.2 fun w hw => by obtain ⟨z, rfl⟩ := hm2.vals w hw; rfl
      have hb1 : [mpB m2, bx][1]? = some ⟨179, 0, [.int .i64 x.n, lst .any x.p], none⟩ := by rw [hbx]; rfl
      simp (disch := first | omega | with_unfolding_all rfl) [hk3, g28, g21]
      refine G_brd (fun d2 => ?_) (fun d2 => ?_)
      · have hjn : j < x.p.length := by omega
        obtain ⟨z, hz⟩ : ∃ z, z = x.p[j] := ⟨_, rfl⟩
        have hzm : z ∈ x.p := by rw [hz]; exact List.getElem_mem hjn
        have hsj : x.p.take (j + 1) = x.p.take j ++ [z] := by rw [List.take_add_one, List.getElem?_eq_getElem hjn, hz]; rfl
        obtain ⟨Z, hZ, hZ1, hZn⟩ := hxi hzm
        have hput := hm2.put z
        rw [hZn] at hput
        have e1 : z.tdiv 8 = z / 8 := by rw [hZ]; rfl
        have e2 : z.tmod 8 = z % 8 := by rw [hZ]; rfl
        have hw1 : IntKind.i64.wrap (z / 8) = z / 8 := wrapI (by omega) (by omega)
        have hw2 : IntKind.i64.wrap (z % 8) = z % 8 := wrapI (by omega) (by omega)
        have hup : ∀ bs : Hp, evMup (some 2) (.mmap 0) (vP z) (.int .i64 x.n) (mpB m2 :: bs) = some (mpB (mput m2 (vP z) (.int .i64 x.n)) :: bs) := fun bs => by
          rw [evMup_mmap (keyB_2 _ _) (m := m2) rfl hm2.kn]; rfl
        have hnr3 : ∀ n, PV.noRefL n (mput m2 (vP z) (.int .i64 x.n)).vs = true := fun n => noRefL_iff.2 fun w hw => by obtain ⟨q, rfl⟩ := hput.vals w hw; rfl
        simp (disch := first | omega | with_unfolding_all rfl) [hk3, g28, d2, ← hz, hbx, e1, e2, hw1, hw2, hup, hnr2, hnr3, -wrap_i64]
        refine ⟨j + 1, by omega, by omega, wrapI (by omega) (by omega), ?_⟩
        rw [hsj, ← List.append_assoc]
        exact hput
      · have hj2 : j = x.p.length := by omega
        rw [hj2, List.take_length, ← hsn] at hm2
        simp (disch := first | omega | with_unfolding_all rfl) [hk3, g28, g21, hk2, d2, hnr2, hbn]
        exact ⟨k + 1, by omega, by omega, by omega, hm2⟩
    · have hi2 : k = ps.length := by omega
      have hz1 : frz [mpB m] .any 64 (.mmap 0) = some (.fmap false (some 2) m.ks m.vs) := by
        rw [show (64 : Nat) = 63 + 1 from rfl, frz_mmap (b := 0) (m := m) rfl id (fun v hv => by obtain ⟨z, rfl⟩ := hm.vals v hv; exact ⟨rfl, rfl⟩), hm.kn, List.map_id]; rfl
      simp (disch := first | omega | with_unfolding_all rfl) [hk2, g21, d, hnr, hz1]
      obtain ⟨kn, ks, vs⟩ := m
      obtain rfl : kn = some 2 := hm.kn
      refine Ofs.mk _ _ fun t p hl => ?_
      obtain ⟨q, hq, hq1, b, hb1, hqb⟩ := hlie hl
      have hll := lie_lt hl
      have h5 := hm.look q (by
        rw [hi2]
        unfold pcsK
        rw [List.take_length, List.mem_flatMap]
        exact ⟨b, hb1, hqb⟩)
      have e1 : (q : Int) / 8 = t := by omega
      have e2 : (q : Int) % 8 = p := by omega
      unfold vP at h5
      rw [e1, e2] at h5
      unfold nbm
      rw [hq]
      exact h5)
  exact ⟨w, h1, h2⟩
end Go.Proofs.YtiaeckidlmoohaaGreat
end
section
set_option linter.unusedVariables false
set_option linter.unusedSimpArgs false
set_option maxHeartbeats 8000000
set_option maxRecDepth 20000
namespace Go.Proofs.YtiaeckidlmoohaaGreat
open Go.Proofs.YtiaeckidlmoohaaGreat.PM
noncomputable def rowN (y : Yd) (t : Int) (w k : Nat) : List Int := ((List.range k).filter fun p => w.testBit p).map fun (p : Nat) => nbm y t p
theorem rowN_succ (y : Yd) (t : Int) (w k : Nat) : rowN y t w (k + 1) = rowN y t w k ++ if w.testBit k = true then [nbm y t k] else [] := by
  unfold rowN
  rw [List.range_succ, List.filter_append, List.map_append]
  congr 1
  cases h : w.testBit k <;> simp [h]
theorem rowN_len (y : Yd) (t : Int) (w k : Nat) : (rowN y t w k).length ≤ k := by
  unfold rowN
  rw [List.length_map]
  refine Nat.le_trans (List.length_filter_le _ _) ?_
  simp
noncomputable def rowB (y : Yd) (kv : PV × PV) : List Int := match kv with
  | (.int .i64 t, .int .i64 w) => rowN y t w.toNat 6
  | _ => []
theorem rowB_eq (y : Yd) (t : Int) (w : Nat) : rowB y (.int .i64 t, .int .i64 (w : Int)) = rowN y t w 6 := by simp [rowB]
theorem rowB_len (y : Yd) (kv : PV × PV) : (rowB y kv).length ≤ 6 := by
  unfold rowB
  split
  · exact rowN_len _ _ _ _
  · simp
theorem rowsB_len (y : Yd) (o : List (PV × PV)) : (o.flatMap (rowB y)).length ≤ 6 * o.length := by
  induction o with
  | nil => simp
  | cons kv o ih =>
    rw [List.flatMap_cons, List.length_append, List.length_cons]
    have := rowB_len y kv
    omega
theorem fnd_zip {kn : Option Nat} {x v : PV} (hx : keyB kn x = true) : ∀ {ks vs : List PV}, (∀ k ∈ ks, keyB kn k = true) → fnd ks vs x = some v → (x, v) ∈ ks.zip vs
  | k :: ks, w :: vs, hk, h => by
    rw [fnd] at h
    split at h
    · rename_i e
      have := (keq_iff hx (hk k (by simp))).1 e
      subst this
      simp only [Option.some.injEq] at h
      subst h
      simp
    · exact List.mem_cons_of_mem _ (fnd_zip hx (fun k h => hk k (by simp [h])) h)
  | [], _, _, h => by simp [fnd] at h
  | _ :: _, [], _, h => by simp [fnd] at h
theorem HeldM.ent {l : List So} {m : Mp} (h : HeldM l m) {kv : PV × PV} (hkv : kv ∈ m.ks.zip m.vs) :
    ∃ (t : Int) (w : Nat), kv = (.int .i64 t, .int .i64 w) ∧ w < 64 ∧ (∃ s ∈ l, s.t = t) ∧ ∀ p : Nat, p < 6 → w.testBit p = l.any fun s => decide (s.t = t) && decide (s.p = p) := by
  obtain ⟨j, hj⟩ := List.mem_iff_getElem?.1 hkv
  rw [List.getElem?_zip_eq_some] at hj
  obtain ⟨k, v⟩ := kv
  dsimp only at hj
  have hkk := h.wf.key k (List.mem_of_getElem? hj.1)
  rw [h.kn] at hkk
  obtain ⟨t, rfl⟩ := keyB_none hkk
  have hf := h.wf.at hj.1 hj.2
  rcases h.look t with ⟨h1, _⟩ | ⟨w, h1, h2, h3, h4⟩
  · rw [h1] at hf; cases hf
  · rw [h1, Option.some.injEq] at hf
    subst hf
    exact ⟨t, w, rfl, h2, h3, h4⟩
theorem HeldM.has {l : List So} {m : Mp} (h : HeldM l m) {s : So} (hs : s ∈ l) (hp : 0 ≤ s.p ∧ s.p < 6) : ∃ w : Nat, (PV.int .i64 s.t, PV.int .i64 (w : Int)) ∈ m.ks.zip m.vs ∧ w.testBit s.p.toNat = true := by
  rcases h.look s.t with ⟨_, h1⟩ | ⟨w, h1, h2, h3, h4⟩
  · exact absurd rfl (h1 s hs)
  · refine ⟨w, ?_, ?_⟩
    · rw [mfind_fnd h.wf.len] at h1
      refine fnd_zip (kn := none) rfl (fun k hk => ?_) h1
      have := h.wf.key k hk
      rw [h.kn] at this
      exact this
    · rw [h4 _ (by omega), List.any_eq_true]
      exact ⟨s, hs, by simp; omega⟩
theorem HeldM.le {l : List So} {m : Mp} (h : HeldM l m) : (m.ks.zip m.vs).length ≤ l.length := by
  have h1 : m.ks ⊆ l.map fun s => PV.int .i64 s.t := fun k hk => by
    obtain ⟨j, hj, rfl⟩ := List.getElem_of_mem hk
    have hv : j < m.vs.length := by rw [← h.wf.len]; exact hj
    obtain ⟨t, w, e, _, ⟨s, hs, hst⟩, _⟩ := h.ent (kv := (m.ks[j], m.vs[j])) (List.mem_iff_getElem?.2 ⟨j, by rw [List.getElem?_zip_eq_some]; exact ⟨List.getElem?_eq_getElem hj, List.getElem?_eq_getElem hv⟩⟩)
    simp only [Prod.mk.injEq] at e
    rw [e.1, ← hst]
    exact List.mem_map_of_mem hs
  have h2 := h.wf.nd.length_le_of_subset h1
  rw [List.length_map] at h2
  rw [List.length_zip]
  omega
noncomputable def hbL (y : Yd) (E : List (PV × PV)) : List Int := Lib.compact (srt (E.flatMap (rowB y)))
theorem hbL_mem {y : Yd} {l : List So} {m : Mp} (h : HeldM l m) (hp : ∀ s ∈ l, 0 ≤ s.p ∧ s.p < 6) (n : Int) : n ∈ hbL y (m.ks.zip m.vs) ↔ ∃ q ∈ l, nbm y q.t q.p = n := by
  unfold hbL
  rw [mem_comp, mem_srt, List.mem_flatMap]
  constructor
  · rintro ⟨kv, hkv, hn⟩
    obtain ⟨t, w, rfl, h1, h2, h3⟩ := h.ent hkv
    rw [rowB_eq] at hn
    unfold rowN at hn
    obtain ⟨p, hp1, rfl⟩ := List.mem_map.1 hn
    rw [List.mem_filter, List.mem_range] at hp1
    rw [h3 p hp1.1, List.any_eq_true] at hp1
    obtain ⟨s, hs, hsp⟩ := hp1.2
    simp at hsp
    exact ⟨s, hs, by rw [hsp.1, hsp.2]⟩
  · rintro ⟨q, hq, rfl⟩
    obtain ⟨w, h1, h2⟩ := h.has hq (hp q hq)
    have hqp := hp q hq
    refine ⟨_, h1, ?_⟩
    rw [rowB_eq]
    unfold rowN
    refine List.mem_map.2 ⟨q.p.toNat, ?_, by congr 1; omega⟩
    rw [List.mem_filter, List.mem_range]
    exact ⟨by omega, h2⟩
theorem frz_cutI {e gen k : Nat} {H : Hp} (A B : List Int) : frzB Int H .any k (some ⟨e, gen, cl (A ++ B), none⟩) gen A.length = some (lst .any A) := by
  unfold frzB
  split
  · rename_i h0
    rw [List.length_eq_zero_iff.1 h0]; rfl
  · have h2 : mapO (frz H .any (k + 1)) (cl A) = some (cl A) := mapO_cl .any k A
    have h3 : List.take (A.length * Enc.sz Int) (cl (A ++ B)) = cl A := by
      rw [cl_append, List.take_append_of_le_length (by simp), ← length_cl, List.take_length]
    simp only [Option.bind_some]
    rw [if_pos ⟨trivial, by simp⟩]
    simp only [Option.bind_some, h3, h2]
    have h4 : PV.cleanLB (cl A) = true := by
      rw [clean_cl, List.all_eq_true]
      exact fun x _ => rfl
    rw [if_pos (by simp [h4])]
    rfl
theorem indexI_ok {nl : Nl} (xs : List Int) (n : Int) (h : xs.length ≤ 1000000) : ∃ i : Int, R tc 126 [lst nl xs, .int .i64 n] = some (.int .i64 i) ∧ (0 ≤ i ↔ n ∈ xs) := by
  obtain ⟨v, h1, i, rfl, h2⟩ := R_ex (T := tc) (f := 126) (F := pf126) (args := [lst nl xs, .int .i64 n]) (Rq := fun v => ∃ i : Int, v = .int .i64 i ∧ (0 ≤ i ↔ n ∈ xs)) (tc_nat _ rfl) rfl rfl (by
    simp (disch := first | omega | with_unfolding_all rfl) [pf126, env0_eq]
    refine G_scanC [0, 1, 7] 8 (fun i => match xs[i]? with | some x => decide (n = x) | none => false) xs.length 0 (by simp) (Nat.zero_le _) ?_
    rintro i e - hi hz hk g8
    simp at hk
    simp (disch := first | omega | with_unfolding_all rfl) [hk, g8]
    refine G_brd (fun d => ?_) (fun d => ?_)
    · have hin : i < xs.length := by omega
      obtain ⟨x, hx⟩ : ∃ x, x = xs[i] := ⟨_, rfl⟩
      simp (disch := first | omega | with_unfolding_all rfl) [hk, g8, d, ← hx]
      refine G_brd (fun c => ?_) (fun c => ?_)
      · have : n ∈ xs := by rw [c, hx]; exact List.getElem_mem hin
        simp (disch := first | omega | with_unfolding_all rfl) [hk, g8, this]
      · simp (disch := first | omega | with_unfolding_all rfl) [hk, g8, c]
        try omega
    · have : n ∉ xs := fun hx => by
        obtain ⟨j, hj, hx⟩ := List.getElem_of_mem hx
        have := hz j (Nat.zero_le j) (by omega)
        simp only [List.getElem?_eq_getElem hj, hx] at this
        simp at this
      simp (disch := first | omega | with_unfolding_all rfl) [hk, g8, d, this])
  exact ⟨i, h1, h2⟩
theorem contI_ok {nl : Nl} (xs : List Int) (n : Int) (h : xs.length ≤ 1000000) : R tc 79 [lst nl xs, .int .i64 n] = some (.bool (decide (n ∈ xs))) := by
  obtain ⟨i, h1, hi⟩ := indexI_ok (nl := nl) xs n h
  refine R_of_G (F := pf79) (tc_nat _ rfl) rfl rfl ?_
  have : decide (0 ≤ i) = decide (n ∈ xs) := by rw [Bool.eq_iff_iff, decide_eq_true_eq, decide_eq_true_eq]; exact hi
  simp (disch := first | omega | with_unfolding_all rfl) [pf79, env0_eq, h1, this]
theorem heldBlocks_ok {y : Yd} (v : Val y) {F M : PV} (hF : Fd y F) (hM : Ofs y M) (i : Int) :
    ∃ L : List Int, R tc 98 [F, .int .i64 i, M] = some (lst .any L) ∧ L.length ≤ 1000000 ∧ ∀ n, n ∈ L ↔ ∃ q ∈ oths y.t i, nbm y q.t q.p = n := by
  obtain ⟨Hm, hH, hHd⟩ := v.held hF i
  have hop := v.oths i
  have hol := v.othl i
  have holi : ∀ q ∈ oths y.t i, lie y.r q.t q.p = true := fun q hq => by
    obtain ⟨t, ht, hs⟩ := oths_mem hq
    exact (lieS_has (v.lies t ht q hs)).2
  obtain ⟨ks, vs, hm⟩ := hHd
  obtain ⟨ks2, vs2, hof⟩ := hM
  obtain ⟨E, hE⟩ : ∃ E, E = ks.zip vs := ⟨_, rfl⟩
  have hEl : E.length ≤ 132000 := by rw [hE]; exact Nat.le_trans hm.le hol
  have hLl : (E.flatMap (rowB y)).length ≤ 1000000 := Nat.le_trans (rowsB_len y E) (by omega)
  have hent := fun {kv : PV × PV} (h : kv ∈ E) => hm.ent (kv := kv) (by rw [hE] at h; exact h)
  refine ⟨hbL y E, ?_, ?_, fun n => by rw [hE]; exact hbL_mem hm hop n⟩
  · obtain ⟨ks1, vs1, ks3, vs3, -, -⟩ := hF
    refine R_of_G (F := pf98) (tc_nat _ rfl) rfl rfl ?_
    simp (disch := first | omega | with_unfolding_all rfl) [pf98, env0_eq]
    obtain ⟨L0, hL0⟩ : ∃ L0, L0 = E.flatMap (rowB y) := ⟨_, rfl⟩
    rw [← hL0] at hLl
    refine G_mrng (.ret, [(6, mls Int 0 L0.length (hbL y E).length)], [bk 3 L0.length (hbL y E ++ List.replicate ((srt L0).length - (hbL y E).length) 0)]) ?_ ?_
    · simp (disch := first | omega | with_unfolding_all rfl) [hH]
      refine ⟨E, [bk 3 0 ([] : List Int)], by rw [hE]; rfl, fun o ho => ?_⟩
      have hom : ∀ kv ∈ o, kv ∈ E := fun kv h => ho.mem_iff.1 h
      have hol2 : o.length ≤ 132000 := by rw [ho.length_eq]; exact hEl
      refine MQ_of_G (fun p e' h' => get e' 14 = .mptr 1 0 0 ∧ get e' 2 = .fmap false (some 2) ks2 vs2 ∧ get e' 7 = mls Int 0 (p.flatMap (rowB y)).length (p.flatMap (rowB y)).length ∧ h' = [bk 3 (p.flatMap (rowB y)).length (p.flatMap (rowB y)), dead]) ?_ ?_ ?_
      · simp
      · rintro p kv s e' h' ho2 ⟨g14, g2, g7, rfl⟩
        refine ⟨g14, ?_⟩
        obtain ⟨t, w, rfl, hw, ⟨s0, hs0, hst⟩, hb⟩ := hent (hom kv (by rw [ho2]; simp))
        obtain ⟨A, hA⟩ : ∃ A, A = p.flatMap (rowB y) := ⟨_, rfl⟩
        have hAl : A.length ≤ 1000000 := by
          have h1 := rowsB_len y p
          have h2 : p.length ≤ o.length := by rw [ho2]; simp
          rw [hA]; omega
        have hA2 : (p ++ [(PV.int .i64 t, PV.int .i64 (w : Int))]).flatMap (rowB y) = A ++ rowN y t w 6 := by rw [List.flatMap_append, ← hA, List.flatMap_cons, List.flatMap_nil, List.append_nil, rowB_eq]
        rw [← hA] at g7 ⊢
        rw [hA2]
        simp (disch := first | omega | with_unfolding_all rfl) [g14, g2, g7]
        refine G_loopK [2, 8, 9, 14] (fun (j : Nat) e h => j ≤ 6 ∧ get e 20 = .int .i64 (j : Int) ∧ ∃ B, B = A ++ rowN y t w j ∧ get e 7 = mls Int 0 B.length B.length ∧ h = [bk 3 B.length B, dead]) (fun j => 6 - j) (a₀ := 0) ⟨by omega, by simp, A, by simp [rowN], by simp [g7], rfl⟩ ?_
        rintro j e2 h hk ⟨hj, g20, B, hB, g7', rfl⟩
        have hBl : B.length ≤ 1000006 := by
          have := rowN_len y t w j
          rw [hB, List.length_append]; omega
        simp at hk
        simp (disch := first | omega | with_unfolding_all rfl) [hk, g20]
        refine G_brd (fun d => ?_) (fun d => ?_)
        · have hP : ¬ (j : Int) < 0 := by omega
          have hj6 : j < 6 := by omega
          have hmin : min j IntKind.i64.bits = j := Nat.min_eq_left (by show j ≤ 64; omega)
          have hbf := bit_fdiv w j
          have hsn := rowN_succ y t w j
          simp (disch := first | omega | with_unfolding_all rfl) [hk, g20, g7', d, hP, hmin]
          rw [hbf]
          cases c : w.testBit j
          · rw [c] at hsn
            simp at hsn
            simp (disch := first | omega | with_unfolding_all rfl) [hk, g20, g7', c]
            exact ⟨j + 1, by omega, by omega, by omega, by rw [hsn, hB]; simp, by rw [hsn, hB]; simp, by rw [hsn, hB]⟩
          · rw [c, if_pos rfl] at hsn
            have hlk : ∀ H : Hp, evMlk (some 2) (.int .i64 0) false (.fmap false (some 2) ks2 vs2) (.agg [.int .i64 t, .int .i64 (j : Int)]) H = some (.int .i64 (nbm y t j)) := fun H => by
              have h1 := hb j hj6
              rw [c] at h1
              have h2 := List.any_eq_true.1 h1.symm
              obtain ⟨q, hq, hqq⟩ := h2
              simp at hqq
              have h3 := holi q hq
              rw [hqq.1, hqq.2] at h3
              rw [evMlk_fmap (keyB_2 _ _), hof _ _ h3]; rfl
            simp (disch := first | omega | with_unfolding_all rfl) [hk, g20, g7', c, hlk]
            exact ⟨j + 1, by omega, by omega, by omega, by rw [hsn, hB]; simp [Nat.add_assoc], by rw [hsn, hB]; simp [Nat.add_assoc], by rw [hsn, hB, List.append_assoc]⟩
        · have ej : j = 6 := by omega
          subst ej
          subst hB
          simp (disch := first | omega | with_unfolding_all rfl) [hk, g20, g7', d]
      · rintro e' h' ⟨g14, g2, g7, rfl⟩
        refine ⟨g14, _, rfl, ?_⟩
        obtain ⟨L', hL'⟩ : ∃ L', L' = o.flatMap (rowB y) := ⟨_, rfl⟩
        rw [← hL'] at g7 ⊢
        have hpm : L'.Perm L0 := by rw [hL', hL0]; exact ho.flatMap_right _
        have hll := hpm.length_eq
        have hsr := srt_perm hpm
        have hs := sortI_ok (H := [bk 3 L'.length L', dead]) (b := 0) (g := L'.length) rfl (by omega)
        have hc := compI_ok (H := [bk 3 L'.length (srt L'), dead]) (b := 0) (g := L'.length) (L := srt L') rfl (by rw [len_srt]; omega)
        rw [len_srt, hsr] at hc
        rw [hsr] at hs
        rw [hll] at hs hc g7 ⊢
        have hhb : hbL y E = Lib.compact (srt L0) := by unfold hbL; rw [← hL0]
        rw [hhb, len_srt]
        simp (disch := first | omega | with_unfolding_all rfl) [g7, hs, hc]
    · simp (disch := first | omega | with_unfolding_all rfl)
      exact frz_cutI _ _
  · exact Nat.le_trans (Lib.compact_length_le _) (by rw [len_srt]; exact hLl)
end Go.Proofs.YtiaeckidlmoohaaGreat
end
section
set_option linter.unusedVariables false
set_option linter.unusedSimpArgs false
set_option maxHeartbeats 8000000
set_option maxRecDepth 20000
namespace Go.Proofs.YtiaeckidlmoohaaGreat
open Go.Proofs.YtiaeckidlmoohaaGreat.PM
abbrev t0 : Tr := ⟨0, 0, 0, .nil, [], .nil, []⟩
def ent (t : Tr) (s : So) : Tr := ⟨t.n, 0, 0, .ex, [s], .nil, []⟩
noncomputable def tkn (y : Yd) (i : Int) (s : So) : Bool := mts s (oths y.t i) || (oths y.t i).any fun q => decide (nbm y q.t q.p = nbm y s.t s.p)
noncomputable def entErr (y : Yd) (i : Int) (s : So) : Int := if askErr y i = 0 then (if (y.t.getD i.toNat t0).s = [] then (if lieS y.r s = true then (if tkn y i s = true then 7 else 0) else 2) else 13) else askErr y i
noncomputable def entV (y : Yd) (i : Int) (s : So) : PV := if entErr y i s = 0 then .tup [vYd (cpY y ((y.t.map tcl).set i.toNat (ent (y.t.getD i.toNat t0) s))), .int .i64 0] else .tup [z7, .int .i64 (entErr y i s)]
noncomputable def entR (y : Yd) (i : Int) (s : So) : PV := if entErr y i s = 0 then .tup [vYd (rcY y ((y.t.map rtcl).set i.toNat (ent (y.t.getD i.toNat t0) s))), .int .i64 0] else .tup [z7, .int .i64 (entErr y i s)]
theorem refEnter_ok (y : Yd) (k : Yk y) (i : Int) (s : So) : R tc 46 [vYd y, .int .i64 i, vSo s] = some (entR y i s) := by
  have hv := refAskT_ok y k i
  unfold entR entErr
  refine R_of_G (F := pf46) (tc_nat _ rfl) rfl rfl ?_
  by_cases h0 : askErr y i = 0
  case neg =>
    obtain ⟨a, b, c⟩ := s
    simp (disch := first | omega | with_unfolding_all rfl) [pf46, env0_eq, hv, h0]
  rw [h0] at hv
  obtain ⟨h1, h2, h3⟩ := ask0 h0
  obtain ⟨I, rfl⟩ : ∃ I : Nat, i = I := ⟨i.toNat, by omega⟩
  have hI : I < y.t.length := by omega
  have hne : y.t ≠ [] := fun e => by rw [e] at hI; simp at hI
  have vl : Val y := ⟨h1, k⟩
  obtain ⟨x, hx⟩ : ∃ x, x = y.t[I] := ⟨_, rfl⟩
  have hgd : y.t.getD I t0 = x := by rw [hx, List.getD_eq_getElem?_getD, List.getElem?_eq_getElem hI]; rfl
  rw [if_pos h0, Int.toNat_natCast, hgd]
  by_cases h4 : x.s = []
  case neg =>
    have h4' : 0 < x.s.length := List.length_pos_iff.2 h4
    obtain ⟨a, b, c⟩ := s
    simp (disch := first | omega | with_unfolding_all rfl) [pf46, env0_eq, hv, hI, ← hx, h4, h4']
  have h4' : x.s.length = 0 := by rw [h4]; rfl
  rw [if_pos h4]
  have hl := liesR_ok vl.good s
  by_cases h5 : lieS y.r s = true
  case neg =>
    have h5' : lieS y.r s = false := by simpa using h5
    rw [h5'] at hl
    obtain ⟨a, b, c⟩ := s
    simp (disch := first | omega | with_unfolding_all rfl) [pf46, env0_eq, hv, hI, ← hx, h4', h5', hl]
  rw [if_pos h5]
  have hol : ∀ q ∈ oths y.t I, lie y.r q.t q.p = true := fun q hq => by
    obtain ⟨t, ht, hs⟩ := oths_mem hq
    exact (lieS_has (vl.lies t ht q hs)).2
  have ho := others_ok y k (Val.parts vl.e).2.2.1 I
  have hm := meets_ok (nl := .any) (s := s) (by have := vl.othl I; omega) (vl.oths I) (lieS_p h5)
  have hb := refBlocks_ok y.r y.n1 y.g (by have := k.s; omega) (by have := k.g; omega)
  rw [if_pos (Val.parts vl.e).1] at hb
  have hbs := block_ok vl (lieS_has h5).2
  have htk := taken_ok vl hol (by have := vl.othl I; omega) (nbm y s.t s.p)
  rw [h5] at hl
  obtain ⟨B1, B2, hc⟩ := copied_ok y k (by have := vl.d; omega) hne [⟨30, 0, [.int .i64 0, .int .i64 0, .list .nil 1 [], .list .nil 1 [], .list .nil 4 [], .list .nil 6 [], .list .nil 5 []], none⟩] (fun n _ => by simp)
  obtain ⟨ts, hts⟩ : ∃ ts, ts = y.t.map rtcl := ⟨_, rfl⟩
  have htl : ts.length = y.t.length := by rw [hts]; simp
  obtain ⟨A, hA⟩ : ∃ A, A = mts s (oths y.t I) := ⟨_, rfl⟩
  obtain ⟨B, hB⟩ : ∃ B, B = (oths y.t I).any fun q => decide (nbm y q.t q.p = nbm y s.t s.p) := ⟨_, rfl⟩
  have hAB : tkn y I s = (A || B) := by rw [hA, hB]; rfl
  rw [← hA] at hm
  rw [← hB] at htk
  rw [hAB]
  obtain ⟨N, hN⟩ : ∃ N, N = nbm y s.t s.p := ⟨_, rfl⟩
  rw [← hN] at hbs htk
  obtain ⟨ps, hps⟩ : ∃ ps, ps = blks y.r y.g := ⟨_, rfl⟩
  rw [← hps] at hb hbs htk
  obtain ⟨O, hO⟩ : ∃ O, O = oths y.t I := ⟨_, rfl⟩
  rw [← hO] at ho hm htk
  obtain ⟨a, b, c⟩ := s
  have hdec : ∀ n : Int, (Enc.dec [PV.int .i64 n, .int .i64 0, .int .i64 0, lst .ex [(⟨a, b, c⟩ : So)], .list .nil 3 []] : Option Tr) = some ⟨n, 0, 0, .ex, [⟨a, b, c⟩], .nil, []⟩ := fun n => rfl
  have hcln : (ts.set I ⟨x.n, 0, 0, .ex, [⟨a, b, c⟩], .nil, []⟩).all Enc.cln = true := by rw [hts]; exact all_set (rtcl_cln y.t) I rfl
  have hsl : ∀ z : Tr, (ts.set I z).length = y.t.length := fun z => by simp [htl]
  rw [← hts] at hc ⊢
  have hfz := fun (H : Hp) (n : Nat) => frzB_bk (α := Tr) (xs := ts.set I ⟨x.n, 0, 0, .ex, [⟨a, b, c⟩], .nil, []⟩) (nl' := .any) (n := n) (H := H) (gen := 0) (e := 68) (m := y.t.length) (hsl _).symm
  simp only [vYd] at ho
  dsimp only at *
  simp at hc
  cases A
  · cases B
    · simp (disch := first | omega | with_unfolding_all rfl) [hfz, pf46, env0_eq, hv, hI, ← hx, h4', h5, hl, ho, hm, hb, hbs, htk, hc, hdec, hcln, hsl, rcY, ent]
    · simp (disch := first | omega | with_unfolding_all rfl) [pf46, env0_eq, hv, hI, ← hx, h4', h5, hl, ho, hm, hb, hbs, htk]
  · simp (disch := first | omega | with_unfolding_all rfl) [pf46, env0_eq, hv, hI, ← hx, h4', h5, hl, ho, hm, hb]
theorem enter_ok (y : Yd) (k : Yk y) (hn : Yn y) (i : Int) (s : So) : R tc 45 [vYd y, .int .i64 i, vSo s] = some (entV y i s) := by
  have hv := askT_ok y k i
  unfold entV entErr
  refine R_of_G (F := pf45) (tc_nat _ rfl) rfl rfl ?_
  by_cases h0 : askErr y i = 0
  case neg =>
    obtain ⟨a, b, c⟩ := s
    simp (disch := first | omega | with_unfolding_all rfl) [pf45, env0_eq, hv, h0]
  rw [h0] at hv
  obtain ⟨h1, h2, h3⟩ := ask0 h0
  obtain ⟨I, rfl⟩ : ∃ I : Nat, i = I := ⟨i.toNat, by omega⟩
  have hI : I < y.t.length := by omega
  have hne : y.t ≠ [] := fun e => by rw [e] at hI; simp at hI
  have vl : Val y := ⟨h1, k⟩
  obtain ⟨x, hx⟩ : ∃ x, x = y.t[I] := ⟨_, rfl⟩
  have hgd : y.t.getD I t0 = x := by rw [hx, List.getD_eq_getElem?_getD, List.getElem?_eq_getElem hI]; rfl
  rw [if_pos h0, Int.toNat_natCast, hgd]
  by_cases h4 : x.s = []
  case neg =>
    have h4' : 0 < x.s.length := List.length_pos_iff.2 h4
    obtain ⟨a, b, c⟩ := s
    simp (disch := first | omega | with_unfolding_all rfl) [pf45, env0_eq, hv, hI, ← hx, h4, h4']
  have h4' : x.s.length = 0 := by rw [h4]; rfl
  rw [if_pos h4]
  have hl := liesT_ok vl.good s
  by_cases h5 : lieS y.r s = true
  case neg =>
    have h5' : lieS y.r s = false := by simpa using h5
    rw [h5'] at hl
    obtain ⟨a, b, c⟩ := s
    simp (disch := first | omega | with_unfolding_all rfl) [pf45, env0_eq, hv, hI, ← hx, h4', h5', hl]
  rw [if_pos h5]
  have hol : ∀ q ∈ oths y.t I, lie y.r q.t q.p = true := fun q hq => by
    obtain ⟨t, ht, hs⟩ := oths_mem hq
    exact (lieS_has (vl.lies t ht q hs)).2
  obtain ⟨F, hF, hFd⟩ := fieldOf_ok y (by have := k.g; omega) (by have := k.j; omega)
  obtain ⟨Mo, hMo, hMod⟩ := blocksM_ok vl
  obtain ⟨L, hL, hLl, hLm⟩ := heldBlocks_ok vl hFd hMod I
  have hcon := contI_ok (nl := .any) L (nbm y s.t s.p) hLl
  obtain ⟨Mh, hMh, hMhd⟩ := vl.held hFd I
  have hm := hit_ok hMhd (vl.oths I) (lieS_p h5)
  rw [h5] at hl
  obtain ⟨ts, hts⟩ : ∃ ts, ts = y.t.map tcl := ⟨_, rfl⟩
  have htl : ts.length = y.t.length := by rw [hts]; simp
  obtain ⟨A, hA⟩ : ∃ A, A = mts s (oths y.t I) := ⟨_, rfl⟩
  obtain ⟨B, hB⟩ : ∃ B, B = (oths y.t I).any fun q => decide (nbm y q.t q.p = nbm y s.t s.p) := ⟨_, rfl⟩
  have hAB : tkn y I s = (A || B) := by rw [hA, hB]; rfl
  rw [← hA] at hm
  have hcB : decide (nbm y s.t s.p ∈ L) = B := by
    rw [hB, Bool.eq_iff_iff, decide_eq_true_eq, hLm, List.any_eq_true]
    simp
  rw [hcB] at hcon
  rw [hAB]
  obtain ⟨ks1, vs1, ks2, vs2, -, -⟩ := hFd
  obtain ⟨ks3, vs3, hof⟩ := hMod
  obtain ⟨ks4, vs4, -⟩ := hMhd
  have hlk : ∀ H : Hp, evMlk (some 2) (.int .i64 0) false (.fmap false (some 2) ks3 vs3) (.agg [.int .i64 s.t, .int .i64 s.p]) H = some (.int .i64 (nbm y s.t s.p)) := fun H => by
    rw [evMlk_fmap (keyB_2 _ _), hof _ _ (lieS_has h5).2]; rfl
  obtain ⟨N, hN⟩ : ∃ N, N = nbm y s.t s.p := ⟨_, rfl⟩
  rw [← hN] at hlk hcon
  obtain ⟨B1, B2, B3, hc⟩ := cloneY_ok y k hn (by have := vl.d; omega) hne [⟨30, 0, [.int .i64 0, .int .i64 0, .list .nil 1 [], .list .nil 1 [], .list .nil 4 [], .list .nil 6 [], .list .nil 5 []], none⟩, ⟨90, 0, [.int .i64 y.r.w, .int .i64 y.r.h, lst y.r.n1 y.r.s, lst y.r.n2 y.r.d, lst y.n1 y.g, lst y.n2 y.j, lst y.n3 y.t, .fmap false (some 3) ks1 vs1, .fmap false (some 3) ks2 vs2], none⟩] (fun n _ => by simp)
  obtain ⟨a, b, c⟩ := s
  have hdec : ∀ n : Int, (Enc.dec [PV.int .i64 n, .int .i64 0, .int .i64 0, lst .ex [(⟨a, b, c⟩ : So)], .list .nil 3 []] : Option Tr) = some ⟨n, 0, 0, .ex, [⟨a, b, c⟩], .nil, []⟩ := fun n => rfl
  have hcln : (ts.set I ⟨x.n, 0, 0, .ex, [⟨a, b, c⟩], .nil, []⟩).all Enc.cln = true := by rw [hts]; exact all_set (tcl_cln y.t) I rfl
  have hsl : ∀ z : Tr, (ts.set I z).length = y.t.length := fun z => by simp [htl]
  rw [← hts] at hc ⊢
  have hfz := fun (H : Hp) (n : Nat) => frzB_bk (α := Tr) (xs := ts.set I ⟨x.n, 0, 0, .ex, [⟨a, b, c⟩], .nil, []⟩) (nl' := .any) (n := n) (H := H) (gen := 1) (e := 68) (m := y.t.length) (hsl _).symm
  dsimp only at *
  simp at hc
  cases A
  · cases B
    · simp (disch := first | omega | with_unfolding_all rfl) [hfz, pf45, env0_eq, hv, hI, ← hx, h4', h5, hl, hF, hMo, hMh, hm, hL, hlk, hcon, hc, hdec, hcln, hsl, cpY, ent]
    · simp (disch := first | omega | with_unfolding_all rfl) [pf45, env0_eq, hv, hI, ← hx, h4', h5, hl, hF, hMo, hMh, hm, hL, hlk, hcon]
  · simp (disch := first | omega | with_unfolding_all rfl) [pf45, env0_eq, hv, hI, ← hx, h4', h5, hl, hF, hMo, hMh, hm]
theorem law15_ok (y : Yd) (a : Ya y) (i : Int) (s : So) : R tc 15 [vYd y, .int .i64 i, vSo s] = some (.bool true) := by
  obtain ⟨b, h1, h2⟩ := large_ok y a.t (nl := .nil) [] (by simp)
  refine R_of_G (F := pf15) (tc_nat _ rfl) rfl rfl ?_
  have hk := knownC_ok
  have h1' : R tc 19 [vYd y, .list .nil 1 []] = some (.bool b) := h1
  cases b
  · have k := Ya.k a (h2 rfl).1
    have e1 := enter_ok y k (Ya.yn a) i s
    have e2 := refEnter_ok y k i s
    unfold entV at e1
    unfold entR at e2
    by_cases h0 : entErr y i s = 0
    · rw [if_pos h0] at e1 e2
      have q1 : yErr y = 0 := by
        unfold entErr at h0
        split at h0
        · rename_i q; exact (ask0 q).1
        · rename_i q; exact absurd h0 q
      have vl : Val y := ⟨q1, k⟩
      obtain ⟨x, hx⟩ : ∃ x, x = ent (y.t.getD i.toNat t0) s := ⟨_, rfl⟩
      have hxs : x.s.length ≤ 100000 ∧ x.a.length ≤ 100000 := by rw [hx]; exact ⟨by simp [ent], by simp [ent]⟩
      rw [← hx] at e1 e2
      have hsm := sameR_of y ((y.t.map tcl).set i.toNat x) ((y.t.map rtcl).set i.toNat x) (by simp) (same_set ⟨rfl, rfl, rfl, rfl, rfl⟩)
      obtain ⟨P, hP⟩ : ∃ P, P = cpY y ((y.t.map tcl).set i.toNat x) := ⟨_, rfl⟩
      obtain ⟨Q, hQ⟩ : ∃ Q, Q = rcY y ((y.t.map rtcl).set i.toNat x) := ⟨_, rfl⟩
      have e3 := same27_ok hsm (by have := k.s; show y.r.s.length ≤ 100000; omega) (by have := vl.d; show y.r.d.length ≤ 100000; omega) (by have := k.g; show y.g.length ≤ 100000; omega) (by have := k.j; show y.j.length ≤ 100000; omega) (by have := k.t; show ((y.t.map tcl).set i.toNat x).length ≤ 100000; simp; omega) (fun t ht => by
        rcases List.mem_or_eq_of_mem_set ht with ht | rfl
        · obtain ⟨u, hu, rfl⟩ := List.mem_map.1 ht
          have := k.tr u hu
          exact ⟨by show u.s.length ≤ 100000; omega, by show u.a.length ≤ 100000; omega⟩
        · exact hxs)
      rw [← hP] at e1 e3
      rw [← hQ] at e2 e3
      obtain ⟨p, q, r⟩ := s
      simp (disch := first | omega | with_unfolding_all rfl) [pf15, env0_eq, h1', hk, e1, e2, e3]
    · rw [if_neg h0] at e1 e2
      have e3 : R tc 27 [z7, z7] = some (.bool true) := same27_ok (a := ⟨⟨0, 0, .nil, [], .nil, []⟩, .nil, [], .nil, [], .nil, []⟩) (b := ⟨⟨0, 0, .nil, [], .nil, []⟩, .nil, [], .nil, [], .nil, []⟩) ⟨⟨rfl, rfl, rfl, rfl⟩, rfl, rfl, rfl, fun i h => absurd h (Nat.not_lt_zero i)⟩ (by simp) (by simp) (by simp) (by simp) (by simp) (fun t h => by simp at h)
      obtain ⟨p, q, r⟩ := s
      simp (disch := first | omega | with_unfolding_all rfl) [pf15, env0_eq, h1', hk, e1, e2, e3]
  · obtain ⟨p, q, r⟩ := s
    simp (disch := first | omega | with_unfolding_all rfl) [pf15, env0_eq, h1', hk]
end Go.Proofs.YtiaeckidlmoohaaGreat
end
