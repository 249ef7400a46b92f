/- Blocks: the list of blocks in the document's words. -/
import Derived.Test.YtfocelelbcepnaaBlockBlocks
set_option linter.unusedVariables false
set_option linter.unusedSimpArgs false
set_option maxHeartbeats 8000000
set_option maxRecDepth 20000
namespace Go.Proofs.Ytfocelelbcepnaa
open Go.Proofs.Ytfocelelbcepnaa.PM

structure Nm6 (out : List Int) : Prop where
  le : out.length ≤ 10000
  nm : ∀ i, i < out.length → out.getD i 0 < 0 ∨ ∃ x : Nat, out.getD i 0 = (to8 x : Int) ∧ x ≤ i ∧ out.getD x 0 = (to8 x : Int)
theorem numsR_nm {r : Rl} {ls : List Sg} {out : List Int} (v : Vd r ls) (h : NumsR r ls r.s.length out) : Nm6 out := by
  have g := v.g
  have hm := g.mul
  have hls := g.ls
  have hl := h.len
  obtain ⟨W, rw1⟩ : ∃ W : Nat, r.w = W := ⟨r.w.toNat, by have := g.w0; omega⟩
  obtain ⟨H, rh1⟩ : ∃ H : Nat, r.h = H := ⟨r.h.toNat, by have := g.h0; omega⟩
  have h4W : 4 ≤ W := by have := g.w0; omega
  have hM : r.s.length = W * H := by
    rw [rw1, rh1] at hls
    have : ((W : Int) * (H : Int)) = ((W * H : Nat) : Int) := by push_cast; rfl
    omega
  refine ⟨by omega, fun j hj => ?_⟩
  cases c : lie6 r j
  · left
    have := h.off j (by omega) c
    simp [this]
  · right
    obtain ⟨m, h1, h2⟩ := h.on j (by omega) c
    obtain ⟨x, hx, hlx, rfl⟩ := cn_lies rw1 rh1 hM h4W (by omega) c h1.1
    have hle : x ≤ j := by
      have := h1.2 _ (.refl _)
      apply Nat.le_of_not_lt
      intro q
      have := to8_lt.2 q
      omega
    obtain ⟨m', h3, h4⟩ := h.on x hx hlx
    have : m' = to8 x := h3.uniq (h1.of_cn h1.1)
    subst this
    exact ⟨x, by simp [h2], hle, by simp [h4]⟩
theorem prt6_ok {out : List Int} (h : Nm6 out) : ∀ k, k ≤ out.length → Asc (prt6 out k) ∧ ∀ m : Int, (∃ p ∈ prt6 out k, p.n = m) ↔ ∃ j : Nat, j < k ∧ out.getD j 0 = (to8 j : Int) ∧ m = (to8 j : Int)
  | 0, _ => ⟨by simp [prt6, Asc], fun m => by simp [prt6]⟩
  | k + 1, hk => by
    obtain ⟨h1, h2⟩ := prt6_ok h k (by omega)
    rw [prt6_succ]
    refine ⟨asc_add h1 _ _ fun p hp => ?_, fun m => ?_⟩
    · obtain ⟨j, hj, _, e⟩ := (h2 p.n).1 ⟨p, hp, rfl⟩
      have := to8_lt.2 hj
      omega
    · rw [add_mem, h2]
      constructor
      · rintro (⟨j, a, b, c⟩ | ⟨a, b, c⟩)
        · exact ⟨j, by omega, b, c⟩
        · exact ⟨k, by omega, b, by omega⟩
      · rintro ⟨j, a, b, c⟩
        by_cases e : j = k
        · subst e; exact .inr ⟨by omega, b, by omega⟩
        · exact .inl ⟨j, by omega, b, c⟩
theorem addP_len (pts : List Pt) (i n : Int) : (addP pts i n).length ≤ pts.length + 1 := by
  unfold addP
  split
  · omega
  · split
    · simp
    · simp
theorem prt6_len {of : List Int} (k : Nat) : (prt6 of k).length ≤ k := by
  induction k with
  | zero => simp [prt6]
  | succ k ih => rw [prt6_succ]; have := addP_len (prt6 of k) (to8 k : Int) (of.getD k 0); omega
theorem addP_plen {pts : List Pt} {i n : Int} {k : Nat} (h : ∀ p ∈ pts, p.p.length ≤ k) : ∀ p ∈ addP pts i n, p.p.length ≤ k + 1 := by
  intro p hp
  unfold addP at hp
  split at hp
  · have := h p hp; omega
  · split at hp
    · rw [List.mem_append, List.mem_singleton] at hp
      rcases hp with hp | rfl
      · have := h p hp; omega
      · simp
    · rw [List.mem_map] at hp
      obtain ⟨q, hq, rfl⟩ := hp
      have := h q hq
      split
      · simp; exact this
      · omega
theorem prt6_plen {of : List Int} : ∀ (k : Nat) (p : Pt), p ∈ prt6 of k → p.p.length ≤ k
  | 0, p, hp => by simp [prt6] at hp
  | k + 1, p, hp => by rw [prt6_succ] at hp; exact addP_plen (prt6_plen k) p hp
/-- How the blocks stand while they are listed. -/
def RbI (out : List Int) (i : Nat) (v : PV) (h : Hp) : Prop := ∃ at' : List Int, v = mls Pr 0 (prt6 out i).length (prt6 out i).length ∧ h = bk 39 (prt6 out i).length (prs 2 (prt6 out i)) :: bk 3 0 at' :: pbs (prt6 out i) ∧ at'.length = out.length ∧ ∀ (k x : Nat) (p : Pt), (prt6 out i)[k]? = some p → p.n = (to8 x : Int) → x < out.length → at'[x]? = some (k : Int)
theorem refBlocks_ok (r : Rl) (nl : Nl) (ls : List Sg) (hb : r.s.length ≤ 3000) (hl : ls.length ≤ 10000) : R tb 20 [vR r, lst nl ls] = some (if valErr r ls = 0 then .tup [lst .any (blks r ls), .int .i64 0] else .tup [.list .nil 1 [], .int .i64 (valErr r ls)]) := by
  have h18 := refValidate_ok r nl ls hb hl
  refine R_of_G (F := pf20) rfl rfl rfl ?_
  simp (disch := first | omega | with_unfolding_all rfl) [pf20, env0_eq, h18]
  by_cases h : valErr r ls = 0
  case neg => simp (disch := first | omega | with_unfolding_all rfl) [h]
  have v := vd_of h
  obtain ⟨out, h56, hR⟩ := refNumbers_ok (nl := nl) v
  have hN := numsR_nm v hR
  have hle := hN.le
  have heq : blks r ls = prt6 out out.length := by
    rw [hR.len, prt68 v hR _ (Nat.le_refl _), blks, num_len v]
  rw [heq]
  simp (disch := first | omega | with_unfolding_all rfl) [h, h56]
  refine G_loopK [7, 9] (fun (i : Nat) e hh => i ≤ out.length ∧ get e 10 = .int .i64 (i : Int) ∧ RbI out i (get e 8) hh) (fun i => out.length - i) (a₀ := 0) ?_ ?_
  · exact ⟨by omega, by simp, List.replicate out.length 0, rfl, rfl, by simp, fun k x p hk => by simp [prt6] at hk⟩
  rintro i e hh hk ⟨hi, g10, at', g8, rfl, hla, hat⟩
  simp at hk
  obtain ⟨pts, hpts⟩ : ∃ pts, pts = prt6 out i := ⟨_, rfl⟩
  obtain ⟨hA, hM⟩ := prt6_ok hN i hi
  have hlen := prt6_len (of := out) i
  have hsc := prt6_succ out i
  rw [← hpts] at g8 hA hM hlen hsc hat ⊢
  simp (disch := first | omega | with_unfolding_all rfl) [hk, g10]
  refine G_brd (fun c => ?_) (fun c => ?_)
  · have hin : i < out.length := by omega
    obtain ⟨n, hn⟩ : ∃ n, n = out.getD i 0 := ⟨_, rfl⟩
    have hg := getD_get hin
    rw [← hn] at hg hsc
    simp (disch := first | omega | with_unfolding_all rfl) [hk, g10, c, hg]
    refine G_brd (fun c1 => ?_) (fun c1 => ?_)
    · simp (disch := first | omega | with_unfolding_all rfl) [hk, g10, g8, c1]
      have : prt6 out (i + 1) = pts := by rw [hsc, addP, if_pos c1]
      refine ⟨i + 1, by omega, by omega, by omega, at', ?_⟩
      rw [this]
      exact ⟨rfl, rfl, hla, hat⟩
    obtain ⟨x, hnx, hxi, hxx⟩ := (hN.nm i hin).resolve_left (by rw [← hn]; exact c1)
    rw [← hn] at hnx
    have n8 : n.tdiv 8 * 6 + n.tmod 8 = (x : Int) := by
      have e1 : n.tdiv 8 = ((to8 x / 8 : Nat) : Int) := by rw [hnx]; rfl
      have e2 : n.tmod 8 = ((to8 x % 8 : Nat) : Int) := by rw [hnx]; rfl
      rw [e1, e2]; unfold to8; omega
    have hx8 : to8 x ≤ 20000 := by unfold to8; omega
    have w1 : IntKind.i64.wrap (n.tdiv 8) = n.tdiv 8 := by
      rw [show n.tdiv 8 = ((to8 x / 8 : Nat) : Int) by rw [hnx]; rfl]
      exact wrapI (by omega) (by omega)
    have b1 : n.tdiv 8 = ((to8 x / 8 : Nat) : Int) := by rw [hnx]; rfl
    have b2 : n.tmod 8 = ((to8 x % 8 : Nat) : Int) := by rw [hnx]; rfl
    have w2 : IntKind.i64.wrap (n.tdiv 8 * 6) = n.tdiv 8 * 6 := wrapI (by omega) (by omega)
    have w3 : IntKind.i64.wrap (n.tdiv 8 * 6 + n.tmod 8) = (x : Int) := by rw [n8]; exact wrapI (by omega) (by omega)
    simp (disch := first | omega | with_unfolding_all rfl) [hk, g10, g8, c1, hg, w1, w2, w3, -wrap_i64]
    have q6 : (i : Int).tdiv 6 = (i : Int) / 6 := rfl
    have r6 : (i : Int).tmod 6 = (i : Int) % 6 := rfl
    have hto : (i : Int) / 6 * 8 + (i : Int) % 6 = (to8 i : Int) := by unfold to8; omega
    refine G_brd (fun c2 => ?_) (fun c2 => ?_)
    · have exi : x = i := by omega
      subst exi
      have hlt : ∀ p ∈ pts, p.n < n := fun p hp => by
        obtain ⟨j, a, b, d⟩ := (hM p.n).1 ⟨p, hp, rfl⟩
        have := to8_lt.2 a
        omega
      have hnew : prt6 out (x + 1) = pts ++ [⟨n, [(to8 x : Int)]⟩] := by rw [hsc, addP, if_neg c1, if_pos hnx]
      have hpl : (prs 2 pts).length = pts.length := by simp
      have hpl2 : (prs 2 pts ++ [(⟨n, none⟩ : Pr)]).length = pts.length + 1 := by simp
      have hge : ∀ q, (prs 2 pts ++ [(⟨n, none⟩ : Pr)])[pts.length]'q = ⟨n, none⟩ := fun q => by
        rw [List.getElem_append_right (by simp)]; simp
      have hse : ∀ y, (prs 2 pts ++ [(⟨n, none⟩ : Pr)]).set pts.length y = prs 2 pts ++ [y] := fun y => by
        rw [List.set_append_right _ _ (by simp)]; simp
      have hla2 : (at'.set x (pts.length : Int)).length = out.length := by simp [hla]
      have hag : ∀ q, (at'.set x (pts.length : Int))[x]'q = (pts.length : Int) := fun q => by simp
      simp (disch := first | omega | with_unfolding_all rfl) [hk, g10, g8, hg, hge, hse, hag, app_one, q6, r6, hto]
      refine ⟨x + 1, by omega, by omega, by omega, at'.set x (pts.length : Int), ?_⟩
      rw [hnew]
      refine ⟨by simp, ?_, hla2, fun k y p hp he hy => ?_⟩
      · rw [prs_append]
        simp [prs, pbs, Nat.add_comm]
        rw [show 1 + (pts.length + 1) = pts.length + 2 by omega]
      · by_cases ek : k < pts.length
        · rw [List.getElem?_append_left ek] at hp
          have := hlt p (List.mem_of_getElem? hp)
          have hne : x ≠ y := by rintro rfl; omega
          rw [List.getElem?_set_ne hne]
          exact hat k y p hp he hy
        · have hk0 : k = pts.length := by
            have := (List.getElem?_eq_some_iff.1 hp).1
            simp at this; omega
          subst hk0
          simp at hp
          subst hp
          dsimp only at he
          have : x = y := to8_inj (by omega)
          subst this
          exact List.getElem?_set_self (by omega)
    · have hxi2 : x < i := by omega
      obtain ⟨p, hp, hpn⟩ := (hM n).2 ⟨x, hxi2, hxx, hnx⟩
      obtain ⟨k, hkl, hpk⟩ := List.getElem_of_mem hp
      have hk? : pts[k]? = some p := by rw [List.getElem?_eq_getElem hkl, hpk]
      have hpl : (prs 2 pts).length = pts.length := by simp
      have hpp : p.p.length ≤ i := prt6_plen i p (by rw [← hpts]; exact hp)
      have hge : ∀ q, (prs 2 pts)[k]'q = ⟨p.n, some (2 + k, p.p.length, p.p.length)⟩ := fun q => by
        have := prs_get 2 pts k p hk?
        rw [List.getElem?_eq_getElem q, Option.some.injEq] at this
        exact this
      have hbl : ∀ X Y : Blk, (X :: Y :: pbs pts)[2 + k]? = some (bk 3 p.p.length p.p) := fun X Y => by
        rw [show 2 + k = k + 1 + 1 by omega, List.getElem?_cons_succ, List.getElem?_cons_succ]
        simp [pbs, hk?]
      have hbs : ∀ X Y B : Blk, (X :: Y :: pbs pts).set (2 + k) B = X :: Y :: (pbs pts).set k B := fun X Y B => by
        rw [show 2 + k = k + 1 + 1 by omega, List.set_cons_succ, List.set_cons_succ]
      have hni : ¬ n = (to8 i : Int) := fun q => by
        have := to8_lt.2 hxi2
        omega
      have hold : prt6 out (i + 1) = pts.set k ⟨n, p.p ++ [(to8 i : Int)]⟩ := by rw [hsc, addP_old hA hk? hpn c1 hni]
      have hag : ∀ q, at'[x]'q = (k : Int) := fun q => by
        have := hat k x p hk? (by omega) (by omega)
        rw [List.getElem?_eq_getElem q, Option.some.injEq] at this
        exact this
      simp (disch := first | omega | with_unfolding_all rfl) [hk, g10, g8, hge, hbl, hbs, hag, q6, r6, hto]
      refine ⟨i + 1, by omega, by omega, by omega, at', ?_⟩
      rw [hold]
      refine ⟨by simp, ?_, hla, fun k' y p' hp' he hy => ?_⟩
      · rw [prs_set]; simp [hpn, pbs, List.map_set]
      · by_cases ek : k = k'
        · subst ek
          rw [List.getElem?_set_self hkl, Option.some.injEq] at hp'
          subst hp'
          exact hat k y p hk? (by dsimp only at he; omega) hy
        · rw [List.getElem?_set_ne ek] at hp'
          exact hat k' y p' hp' he hy
  · have e1 : i = out.length := by omega
    subst e1
    have hfz := frz_all (X := bk 39 pts.length (prs 2 pts)) (Y := bk 3 0 at') (ps := pts) (n := 60) rfl
    subst hpts
    simp (disch := first | omega | with_unfolding_all rfl) [hk, g10, g8, c, -frz_mlsC]
    show (frz _ _ (60 + 3) _).bind _ = _
    rw [hfz]
    rfl
end Go.Proofs.Ytfocelelbcepnaa
