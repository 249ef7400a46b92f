/- Blocks: the list of blocks, in the program. -/
import Derived.Test.YtfocelelbcepnaaBlockParts
set_option linter.unusedVariables false
set_option linter.unusedSimpArgs false
set_option maxHeartbeats 4000000
set_option maxRecDepth 20000
namespace Go.Proofs.Ytfocelelbcepnaa
open Go.Proofs.Ytfocelelbcepnaa.PM

@[simp] theorem lst_pr (n : Int) : PV.list .ex 2 [.int .i64 n, .list .nil 1 []] = lst .ex [Pr.mk n none] := rfl
@[simp] theorem msl_pr {b gen n : Nat} : PV.msl true b gen 0 n 2 = mls Pr b gen n := rfl
theorem mpP_kn (ps : List Pt) : (mpP ps).kn = none := rfl
theorem app_one (x : Int) (H : Hp) : evApp 3 1 8 (.list .nil 1 []) (lst .ex [x]) H = some (mls Int H.length 1 1, H ++ [bk 3 1 [x]]) := by
  rw [evApp_nil_lst (by simp)]; simp
theorem getD_get {of : List Int} {i : Nat} (h : i < of.length) : of[i] = of.getD i 0 := by simp [h]
theorem prt8_plen {of : List Int} : ∀ (k : Nat) (p : Pt), p ∈ prt8 of k → p.p.length ≤ k := by
  intro k
  induction k with
  | zero => intro p hp; simp [prt8] at hp
  | succ k ih =>
    intro p hp
    rw [prt8_succ] at hp
    unfold addP at hp
    split at hp
    · have := ih p hp; omega
    · split at hp
      · rw [List.mem_append, List.mem_singleton] at hp
        rcases hp with hp | rfl
        · have := ih p hp; omega
        · simp
      · rw [List.mem_map] at hp
        obtain ⟨q, hq, rfl⟩ := hp
        have := ih q hq
        split
        · simp; exact this
        · omega
theorem mpP_set {ps : List Pt} {k : Nat} {p : Pt} {n : Int} {l : List Int} (hk : ps[k]? = some p) (hn : p.n = n) : mpP (ps.set k ⟨n, l⟩) = mpP ps := by
  have : (ps.set k ⟨n, l⟩).map Pt.n = ps.map Pt.n := by
    rw [List.map_set]
    refine List.ext_getElem? fun j => ?_
    by_cases e : k = j
    · subst e
      have h1 := (List.getElem?_eq_some_iff.1 hk).1
      rw [List.getElem?_set_self (by simpa using h1)]
      simp [hk, hn]
    · rw [List.getElem?_set_ne e]
  simp only [mpP, this, List.length_set]
theorem parts_ok {nl : Nl} {of : List Int} (h : Nm of) : R tb 57 [lst nl of] = some (lst .any (prt8 of of.length)) := by
  have hle := h.le
  refine R_of_G (F := pf57) rfl rfl rfl ?_
  simp (disch := first | omega | with_unfolding_all rfl) [pf57, env0_eq, evMkm]
  refine G_loopK [4, 9, 10] (fun (i : Nat) e hh => i ≤ of.length ∧ get e 11 = .int .i64 (i : Int) ∧ get e 3 = mls Pr 0 (prt8 of i).length (prt8 of i).length ∧ hh = bk 39 (prt8 of i).length (prs 2 (prt8 of i)) :: ⟨0, 0, [], some (mpP (prt8 of i))⟩ :: pbs (prt8 of i)) (fun i => of.length - i) (a₀ := 0) ?_ ?_
  · exact ⟨by omega, by simp, rfl, rfl⟩
  rintro i e hh hk ⟨hi, g11, g3, rfl⟩
  simp at hk
  obtain ⟨pts, hpts⟩ : ∃ pts, pts = prt8 of i := ⟨_, rfl⟩
  obtain ⟨hA, hM⟩ := prt8_ok h i hi
  have hlen := prt8_len (of := of) i
  have hsc := prt8_succ of i
  rw [← hpts] at g3 hA hM hlen hsc ⊢
  simp (disch := first | omega | with_unfolding_all rfl) [hk, g11]
  refine G_brd (fun c => ?_) (fun c => ?_)
  · have hin : i < of.length := by omega
    obtain ⟨n, hn⟩ : ∃ n, n = of.getD i 0 := ⟨_, rfl⟩
    have hg := getD_get hin
    rw [← hn] at hg hsc
    simp (disch := first | omega | with_unfolding_all rfl) [hk, g11, c, hg]
    refine G_brd (fun c1 => ?_) (fun c1 => ?_)
    · simp (disch := first | omega | with_unfolding_all rfl) [hk, g11, g3, c1]
      have : prt8 of (i + 1) = pts := by rw [hsc, addP, if_pos c1]
      exact ⟨i + 1, by omega, by omega, by omega, by rw [this], by rw [this]; simp⟩
    simp (disch := first | omega | with_unfolding_all rfl) [hk, g11, g3, c1]
    refine G_brd (fun c2 => ?_) (fun c2 => ?_)
    · have hlt : ∀ p ∈ pts, p.n < n := fun p hp => by
        obtain ⟨j, a, b, d⟩ := (hM p.n).1 ⟨p, hp, rfl⟩
        omega
      have hnew : prt8 of (i + 1) = pts ++ [⟨n, [(i : Int)]⟩] := by rw [hsc, addP, if_neg c1, if_pos c2]
      have hput := mpP_put hlt (l := [(i : Int)])
      have hA2 : Asc (pts ++ [⟨n, [(i : Int)]⟩]) := by rw [← hnew]; exact (prt8_ok h (i + 1) (by omega)).1
      have hfind := mpP_find hA2 (k := pts.length) (p := ⟨n, [(i : Int)]⟩) (by simp)
      dsimp only at hfind
      subst c2
      have hpl : (prs 2 pts).length = pts.length := by simp
      have hpl2 : (prs 2 pts ++ [(⟨(i : Int), none⟩ : Pr)]).length = pts.length + 1 := by simp
      have hge : ∀ q, (prs 2 pts ++ [(⟨(i : Int), none⟩ : Pr)])[pts.length]'q = ⟨(i : Int), none⟩ := fun q => by
        rw [List.getElem_append_right (by simp)]; simp
      have hse : ∀ y, (prs 2 pts ++ [(⟨(i : Int), none⟩ : Pr)]).set pts.length y = prs 2 pts ++ [y] := fun y => by
        rw [List.set_append_right _ _ (by simp)]; simp
      simp (disch := first | omega | with_unfolding_all rfl) [hk, g11, g3, evMup, evMlk, mapAt, mapOf, keyB, setMp, hput, hfind, mpP_kn, hge, hse, app_one]
      refine ⟨i + 1, by omega, by omega, by omega, by rw [hnew]; simp, ?_⟩
      rw [hnew, prs_append]
      simp [prs, pbs, Nat.add_comm]
      rw [show 1 + (pts.length + 1) = pts.length + 2 by omega]
    · obtain ⟨m, hm, hmi, hmm⟩ := (h.nm i hin).resolve_left (by rw [← hn]; exact c1)
      rw [← hn] at hm
      have hmi2 : m < i := by omega
      obtain ⟨p, hp, hpn⟩ := (hM n).2 ⟨m, hmi2, hmm, hm⟩
      obtain ⟨k, hkl, hpk⟩ := List.getElem_of_mem hp
      have hk? : pts[k]? = some p := by rw [List.getElem?_eq_getElem hkl, hpk]
      have hfind := mpP_find hA hk?
      rw [hpn] at hfind
      have hpl : (prs 2 pts).length = pts.length := by simp
      have hpp : p.p.length ≤ i := prt8_plen i p (by rw [← hpts]; exact hp)
      have hge : ∀ q, (prs 2 pts)[k]'q = ⟨p.n, some (2 + k, p.p.length, p.p.length)⟩ := fun q => by
        have := prs_get 2 pts k p hk?
        rw [List.getElem?_eq_getElem q, Option.some.injEq] at this
        exact this
      have hbl : ∀ X Y : Blk, (X :: Y :: pbs pts)[2 + k]? = some (bk 3 p.p.length p.p) := fun X Y => by
        rw [show 2 + k = k + 1 + 1 by omega, List.getElem?_cons_succ, List.getElem?_cons_succ]
        simp [pbs, hk?]
      have hbs : ∀ X Y B : Blk, (X :: Y :: pbs pts).set (2 + k) B = X :: Y :: (pbs pts).set k B := fun X Y B => by
        rw [show 2 + k = k + 1 + 1 by omega, List.set_cons_succ, List.set_cons_succ]
      have hold : prt8 of (i + 1) = pts.set k ⟨n, p.p ++ [(i : Int)]⟩ := by rw [hsc, addP_old hA hk? hpn c1 c2]
      simp (disch := first | omega | with_unfolding_all rfl) [hk, g11, g3, evMup, evMlk, mapAt, mapOf, keyB, setMp, hfind, mpP_kn, hge, hbl, hbs]
      refine ⟨i + 1, by omega, by omega, by omega, by rw [hold]; simp, ?_⟩
      rw [hold]
      refine ⟨⟨by simp, ?_⟩, ?_, ?_⟩
      · rw [prs_set]; simp [hpn]
      · exact (mpP_set hk? hpn).symm
      · simp [pbs, List.map_set]
  · have e1 : i = of.length := by omega
    subst e1
    have hfz := frz_all (X := bk 39 pts.length (prs 2 pts)) (Y := ⟨0, 0, [], some (mpP pts)⟩) (ps := pts) (n := 61) rfl
    subst hpts
    simp (disch := first | omega | with_unfolding_all rfl) [hk, g11, g3, c, -frz_mlsC]
    exact hfz
end Go.Proofs.Ytfocelelbcepnaa
