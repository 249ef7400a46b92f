/- Several texts in one: TrainBParts, TrainBParts2, TrainBRef, TrainBFlood, TrainBRefNum, TrainBBlocks, TrainBRefBl. -/
import Derived.Test.YtiaeckidlmoohaaGreatTrainBlkB
section
set_option linter.unusedVariables false
set_option linter.unusedSimpArgs false
set_option maxHeartbeats 4000000
set_option maxRecDepth 20000
namespace Go.Proofs.YtiaeckidlmoohaaGreat
open Go.Proofs.YtiaeckidlmoohaaGreat.PM
structure Pt where
  n : Int
  p : List Int
def unI : List PV → Option (List Int)
  | [] => some []
  | .int .i64 x :: xs => (unI xs).map (x :: ·)
  | _ => none
theorem unI_cl : ∀ (xs : List Int), unI (cl xs) = some xs
  | [] => rfl
  | x :: xs => by
    have := unI_cl xs
    rw [cl_cons]
    show (unI (cl xs)).map (x :: ·) = _
    rw [this]; rfl
theorem cl_unI : ∀ (l : List PV) (xs : List Int), unI l = some xs → cl xs = l
  | [], xs, h => by simp [unI] at h; subst h; rfl
  | v :: l, xs, h => by
    unfold unI at h
    split at h
    · rename_i h0; simp only [Option.some.injEq] at h; subst h; cases h0
    · rename_i x l' h0
      rw [Option.map_eq_some_iff] at h
      obtain ⟨ys, h1, rfl⟩ := h
      cases h0
      rw [cl_cons, cl_unI l ys h1]; rfl
    · cases h
instance : Enc Pt where
  sz := 2
  enc l := [.int .i64 l.n, lst .any l.p]
  dec | [.int .i64 a, .list .any 1 xs] => (unI xs).map fun p => ⟨a, p⟩ | _ => none
  cln _ := true
  pos := by decide
  len _ := rfl
  one _ := rfl
  pur _ := rfl
  hcln _ := rfl
  dec_enc x := by
    show (unI (cl x.p)).map (fun p => Pt.mk x.n p) = some x
    rw [unI_cl]; rfl
  enc_dec l x h := by
    split at h
    · rw [Option.map_eq_some_iff] at h
      obtain ⟨p, h1, rfl⟩ := h
      show [_, PV.list .any 1 (cl p)] = _
      rw [cl_unI _ _ h1]
    · cases h
@[simp] theorem sz_pt : Enc.sz Pt = 2 := rfl
@[simp] theorem enc_pt (l : Pt) : Enc.enc l = [.int .i64 l.n, lst .any l.p] := rfl
@[simp] theorem cln_pt (l : Pt) : Enc.cln l = true := rfl
structure Pr where
  n : Int
  q : Option (Nat × Nat × Nat)
def qV : Option (Nat × Nat × Nat) → PV
  | none => .list .nil 1 []
  | some (b, g, l) => .msl true b g 0 l 1
instance : Enc Pr where
  sz := 2
  enc l := [.int .i64 l.n, qV l.q]
  dec | [.int .i64 a, .list .nil 1 []] => some ⟨a, none⟩ | [.int .i64 a, .msl true b g 0 l 1] => some ⟨a, some (b, g, l)⟩ | _ => none
  cln x := x.q.isNone
  ph := false
  pos := by decide
  len _ := rfl
  one x := by rcases x with ⟨n, _ | ⟨b, g, l⟩⟩ <;> rfl
  pur _ := rfl
  hcln x := by rcases x with ⟨n, _ | ⟨b, g, l⟩⟩ <;> rfl
  dec_enc x := by rcases x with ⟨n, _ | ⟨b, g, l⟩⟩ <;> rfl
  enc_dec l x h := by
    split at h
    · simp only [Option.some.injEq] at h; subst h; rfl
    · simp only [Option.some.injEq] at h; subst h; rfl
    · cases h
@[simp] theorem sz_pr : Enc.sz Pr = 2 := rfl
@[simp] theorem enc_pr (l : Pr) : Enc.enc l = [.int .i64 l.n, qV l.q] := rfl
@[simp] theorem dec_pr (a : Int) (b g l : Nat) : (Enc.dec [PV.int .i64 a, mls Int b g l] : Option Pr) = some ⟨a, some (b, g, l)⟩ := rfl
@[simp] theorem qV_none : qV none = .list .nil 1 [] := rfl
@[simp] theorem qV_some (b g l : Nat) : qV (some (b, g, l)) = mls Int b g l := rfl
def prs : Nat → List Pt → List Pr
  | _, [] => []
  | k, p :: ps => ⟨p.n, some (k, p.p.length, p.p.length)⟩ :: prs (k + 1) ps
def pbs (ps : List Pt) : Hp := ps.map fun p => bk 3 p.p.length p.p
@[simp] theorem length_prs : ∀ (k : Nat) (ps : List Pt), (prs k ps).length = ps.length
  | _, [] => rfl
  | k, p :: ps => by simp [prs, length_prs (k + 1) ps]
theorem prs_get : ∀ (k : Nat) (ps : List Pt) (j : Nat) (p : Pt), ps[j]? = some p → (prs k ps)[j]? = some ⟨p.n, some (k + j, p.p.length, p.p.length)⟩
  | k, q :: ps, 0, p, h => by simp at h; subst h; rfl
  | k, q :: ps, j + 1, p, h => by
    rw [List.getElem?_cons_succ] at h
    have := prs_get (k + 1) ps j p h
    rw [prs, List.getElem?_cons_succ, this, show k + 1 + j = k + (j + 1) by omega]
theorem prs_append : ∀ (k : Nat) (ps qs : List Pt), prs k (ps ++ qs) = prs k ps ++ prs (k + ps.length) qs
  | k, [], qs => rfl
  | k, p :: ps, qs => by
    rw [List.cons_append, prs, prs, prs_append (k + 1) ps qs, List.cons_append, List.length_cons, show k + 1 + ps.length = k + (ps.length + 1) by omega]
theorem prs_set : ∀ (k : Nat) (ps : List Pt) (j : Nat) (p : Pt), prs k (ps.set j p) = (prs k ps).set j ⟨p.n, some (k + j, p.p.length, p.p.length)⟩
  | k, [], j, p => rfl
  | k, q :: ps, 0, p => rfl
  | k, q :: ps, j + 1, p => by
    rw [List.set_cons_succ, prs, prs, prs_set (k + 1) ps j p, List.set_cons_succ, show k + 1 + j = k + (j + 1) by omega]
theorem frz_prs (H : Hp) : ∀ (ps : List Pt) (k n : Nat), (∀ j p, ps[j]? = some p → H[k + j]? = some (bk 3 p.p.length p.p)) → mapO (frz H .any (n + 2)) (cl (prs k ps)) = some (cl ps)
  | [], k, n, h => rfl
  | p :: ps, k, n, h => by
    have h0 := h 0 p rfl
    have ih := frz_prs H ps (k + 1) n fun j q hq => by rw [Nat.add_assoc, Nat.add_comm 1]; exact h (j + 1) q (by simpa using hq)
    have h1 : frz H .any (n + 2) (.int .i64 p.n) = some (.int .i64 p.n) := rfl
    have h2 : frz H .any (n + 2) (mls Int k p.p.length p.p.length) = some (lst .any p.p) := frz_mls h0 rfl (.inr (by simp))
    rw [prs, cl_cons, cl_cons]
    simp only [enc_pr, qV_some, enc_pt, List.cons_append, List.nil_append, mapO, h1, h2, ih, Option.bind_some, Option.map_some]
theorem frz_all {X Y : Blk} {ps : List Pt} {g n : Nat} (hX : X = bk 179 g (prs 2 ps)) : frz (X :: Y :: pbs ps) .any (n + 3) (mls Pr 0 g ps.length) = some (lst .any ps) := by
  rw [frz_mlsC]
  subst hX
  have h1 := frz_prs (bk 179 g (prs 2 ps) :: Y :: pbs ps) ps 2 n (fun j p hj => by
    rw [show 2 + j = j + 1 + 1 by omega, List.getElem?_cons_succ, List.getElem?_cons_succ]
    simp [pbs, hj])
  have h3 : List.take (ps.length * Enc.sz Pr) (cl (prs 2 ps)) = cl (prs 2 ps) := by rw [List.take_of_length_le]; simp
  simp only [List.getElem?_cons_zero, Go.Proofs.YtiaeckidlmoohaaGreat.PM.frzB]
  split
  · rename_i h0
    rw [List.length_eq_zero_iff.1 h0]; rfl
  · simp only [Option.bind_some, length_cl, length_prs, Nat.le_refl, and_self, if_true, h3, h1]
    rw [clean_cl, show (ps.all Enc.cln) = true by simp]
    rfl
def addP (pts : List Pt) (i n : Int) : List Pt := if n < 0 then pts else if n = i then pts ++ [⟨n, [i]⟩] else pts.map fun p => if p.n = n then ⟨p.n, p.p ++ [i]⟩ else p
def AscP (pts : List Pt) : Prop := (pts.map Pt.n).Pairwise (· < ·)
theorem asc_uniq {pts : List Pt} (h : AscP pts) {j k : Nat} {p q : Pt} (hj : pts[j]? = some p) (hk : pts[k]? = some q) (e : p.n = q.n) : j = k := by
  unfold AscP at h
  rw [List.pairwise_iff_getElem] at h
  obtain ⟨hj1, rfl⟩ := List.getElem?_eq_some_iff.1 hj
  obtain ⟨hk1, rfl⟩ := List.getElem?_eq_some_iff.1 hk
  rcases Nat.lt_trichotomy j k with q | q | q
  · have := h j k (by simpa using hj1) (by simpa using hk1) q
    simp at this; omega
  · exact q
  · have := h k j (by simpa using hk1) (by simpa using hj1) q
    simp at this; omega
theorem addP_old {pts : List Pt} (h : AscP pts) {k : Nat} {p : Pt} {i n : Int} (hk : pts[k]? = some p) (hn : p.n = n) (h0 : ¬ n < 0) (hi : ¬ n = i) : addP pts i n = pts.set k ⟨n, p.p ++ [i]⟩ := by
  rw [addP, if_neg h0, if_neg hi]
  refine List.ext_getElem? fun j => ?_
  rw [List.getElem?_map]
  by_cases e : k = j
  · subst e
    rw [List.getElem?_set_self (List.getElem?_eq_some_iff.1 hk).1, hk]
    simp [hn]
  · rw [List.getElem?_set_ne e]
    cases hj : pts[j]? with
    | none => rfl
    | some q =>
      have : ¬ q.n = n := fun c => e (asc_uniq h hk hj (hn.trans c.symm))
      simp [this]
theorem asc_add {pts : List Pt} (h : AscP pts) (i n : Int) (hb : ∀ p ∈ pts, p.n < i) : AscP (addP pts i n) := by
  unfold addP
  split
  · exact h
  · split
    · rename_i e
      subst e
      simp only [AscP, List.map_append, List.pairwise_append]
      refine ⟨h, by simp, fun a ha b hb' => ?_⟩
      simp at ha hb'
      obtain ⟨p, hp, rfl⟩ := ha
      subst hb'
      exact hb p hp
    · have : (pts.map fun p => if p.n = n then Pt.mk p.n (p.p ++ [i]) else p).map Pt.n = pts.map Pt.n := by
        rw [List.map_map]
        refine List.map_congr_left fun p _ => ?_
        simp only [Function.comp_apply]
        split <;> rfl
      simp only [AscP, this]
      exact h
theorem add_mem {pts : List Pt} {i n : Int} {m : Int} : (∃ p ∈ addP pts i n, p.n = m) ↔ (∃ p ∈ pts, p.n = m) ∨ (0 ≤ n ∧ n = i ∧ m = n) := by
  unfold addP
  split
  · constructor
    · exact .inl
    · rintro (h | ⟨h, _⟩)
      · exact h
      · omega
  · split
    · constructor
      · rintro ⟨p, hp, rfl⟩
        rw [List.mem_append, List.mem_singleton] at hp
        rcases hp with hp | rfl
        · exact .inl ⟨p, hp, rfl⟩
        · exact .inr ⟨by omega, by assumption, rfl⟩
      · rintro (⟨p, hp, rfl⟩ | ⟨_, _, rfl⟩)
        · exact ⟨p, List.mem_append_left _ hp, rfl⟩
        · exact ⟨⟨m, [i]⟩, by simp, rfl⟩
    · constructor
      · rintro ⟨p, hp, rfl⟩
        rw [List.mem_map] at hp
        obtain ⟨q, hq, rfl⟩ := hp
        left
        refine ⟨q, hq, ?_⟩
        split <;> rfl
      · rintro (⟨p, hp, rfl⟩ | ⟨_, h, _⟩)
        · refine ⟨_, List.mem_map_of_mem hp, ?_⟩
          split <;> rfl
        · contradiction
structure Nm (of : List Int) : Prop where
  le : of.length ≤ 10000
  nm : ∀ i, i < of.length → of.getD i 0 < 0 ∨ ∃ m : Nat, of.getD i 0 = (m : Int) ∧ m ≤ i ∧ of.getD m 0 = (m : Int)
def prt8 (of : List Int) (k : Nat) : List Pt := (List.range k).foldl (fun pts (i : Nat) => addP pts (i : Int) (of.getD i 0)) []
theorem prt8_succ (of : List Int) (k : Nat) : prt8 of (k + 1) = addP (prt8 of k) (k : Int) (of.getD k 0) := by simp [prt8, List.range_succ]
theorem prt8_ok {of : List Int} (h : Nm of) : ∀ k, k ≤ of.length → AscP (prt8 of k) ∧ ∀ m : Int, (∃ p ∈ prt8 of k, p.n = m) ↔ ∃ j : Nat, j < k ∧ of.getD j 0 = (j : Int) ∧ m = (j : Int)
  | 0, _ => ⟨by simp [prt8, AscP], fun m => by simp [prt8]⟩
  | k + 1, hk => by
    obtain ⟨h1, h2⟩ := prt8_ok h k (by omega)
    rw [prt8_succ]
    refine ⟨asc_add h1 _ _ fun p hp => ?_, fun m => ?_⟩
    · obtain ⟨j, hj, _, e⟩ := (h2 p.n).1 ⟨p, hp, rfl⟩
      omega
    · rw [add_mem, h2]
      constructor
      · rintro (⟨j, a, b, c⟩ | ⟨a, b, c⟩)
        · exact ⟨j, by omega, b, c⟩
        · exact ⟨k, by omega, b, by omega⟩
      · rintro ⟨j, a, b, c⟩
        by_cases e : j = k
        · subst e; exact .inr ⟨by omega, b, by omega⟩
        · exact .inl ⟨j, by omega, b, c⟩
theorem prt8_len {of : List Int} (k : Nat) : (prt8 of k).length ≤ k := by
  induction k with
  | zero => simp [prt8]
  | succ k ih =>
    rw [prt8_succ]; unfold addP
    split
    · omega
    · split
      · simp; omega
      · simp; omega
theorem mix_ints {ns : List Int} {k : Nat} {n : Int} (h : ns[k]? = some n) (h' : ∀ j, j < k → ns[j]? ≠ some n) : mix (ns.map fun x => PV.int .i64 x) (.int .i64 n) = some k := by
  induction ns generalizing k with
  | nil => simp at h
  | cons x ns ih =>
    cases k with
    | zero =>
      simp at h; subst h
      simp [mix, keq, keq1]
    | succ k =>
      have hx : ¬ n = x := fun e => h' 0 (by omega) (by simp [e])
      have := ih (k := k) (by simpa using h) fun j hj q => h' (j + 1) (by omega) (by simpa using q)
      simp [mix, keq, keq1, hx, this]
theorem mix_none {ns : List Int} {n : Int} (h : n ∉ ns) : mix (ns.map fun x => PV.int .i64 x) (.int .i64 n) = none := by
  induction ns with
  | nil => rfl
  | cons x ns ih =>
    rw [List.mem_cons] at h
    have hx : ¬ n = x := fun e => h (.inl e)
    simp [mix, keq, keq1, hx, ih fun q => h (.inr q)]
theorem mpos_all {ns : List Int} {n : Int} (h : ∀ x ∈ ns, x < n) : mpos (ns.map fun x => PV.int .i64 x) (.int .i64 n) = ns.length := by
  induction ns with
  | nil => rfl
  | cons x ns ih =>
    have := ih fun y hy => h y (List.mem_cons_of_mem _ hy)
    have hx := h x (by simp)
    simp [mpos, klt, kltL, hx, this]
def mpP (ps : List Pt) : Mp := ⟨none, (ps.map Pt.n).map fun x => PV.int .i64 x, (List.range ps.length).map fun (j : Nat) => PV.int .i64 (j : Int)⟩
theorem mpP_put {ps : List Pt} {n : Int} (h : ∀ p ∈ ps, p.n < n) {l : List Int} : mput (mpP ps) (.int .i64 n) (.int .i64 (ps.length : Int)) = mpP (ps ++ [⟨n, l⟩]) := by
  have h1 : mix (mpP ps).ks (.int .i64 n) = none := mix_none fun q => by
    rw [List.mem_map] at q
    obtain ⟨p, hp, e⟩ := q
    have := h p hp; omega
  have h2 : mpos (mpP ps).ks (.int .i64 n) = ps.length := by
    rw [mpP]; dsimp only
    rw [mpos_all fun x hx => ?_, List.length_map]
    rw [List.mem_map] at hx
    obtain ⟨p, hp, rfl⟩ := hx
    exact h p hp
  simp only [mput, h1, h2]
  simp [mpP, List.range_succ]
  refine ⟨?_, ?_⟩
  · rw [List.take_of_length_le (by simp), List.drop_eq_nil_of_le (by simp)]
  · rw [List.take_of_length_le (by simp), List.drop_eq_nil_of_le (by simp)]
theorem mpP_find {ps : List Pt} (h : AscP ps) {k : Nat} {p : Pt} (hk : ps[k]? = some p) : mfind (mpP ps) (.int .i64 p.n) = some (.int .i64 (k : Int)) := by
  have hk1 := (List.getElem?_eq_some_iff.1 hk).1
  have h1 : mix (mpP ps).ks (.int .i64 p.n) = some k := mix_ints (by simp [hk]) fun j hj q => by
    rw [List.getElem?_map, Option.map_eq_some_iff] at q
    obtain ⟨r, hr, e⟩ := q
    have := asc_uniq h hr hk e
    omega
  rw [mfind, h1]
  simp [mpP, hk1]
end Go.Proofs.YtiaeckidlmoohaaGreat
end
section
set_option linter.unusedVariables false
set_option linter.unusedSimpArgs false
set_option maxHeartbeats 4000000
set_option maxRecDepth 20000
namespace Go.Proofs.YtiaeckidlmoohaaGreat
open Go.Proofs.YtiaeckidlmoohaaGreat.PM
@[simp] theorem lst_pr (n : Int) : PV.list .ex 2 [.int .i64 n, .list .nil 1 []] = lst .ex [Pr.mk n none] := rfl
@[simp] theorem msl_pr {b gen n : Nat} : PV.msl true b gen 0 n 2 = mls Pr b gen n := rfl
theorem mpP_kn (ps : List Pt) : (mpP ps).kn = none := rfl
theorem app_one (x : Int) (H : Hp) : evApp 3 1 8 (.list .nil 1 []) (lst .ex [x]) H = some (mls Int H.length 1 1, H ++ [bk 3 1 [x]]) := by
  rw [evApp_nil_lst (by simp)]; simp
theorem getD_get {of : List Int} {i : Nat} (h : i < of.length) : of[i] = of.getD i 0 := by simp [h]
theorem prt8_plen {of : List Int} : ∀ (k : Nat) (p : Pt), p ∈ prt8 of k → p.p.length ≤ k := by
  intro k
  induction k with
  | zero => intro p hp; simp [prt8] at hp
  | succ k ih =>
    intro p hp
    rw [prt8_succ] at hp
    unfold addP at hp
    split at hp
    · have := ih p hp; omega
    · split at hp
      · rw [List.mem_append, List.mem_singleton] at hp
        rcases hp with hp | rfl
        · have := ih p hp; omega
        · simp
      · rw [List.mem_map] at hp
        obtain ⟨q, hq, rfl⟩ := hp
        have := ih q hq
        split
        · simp; exact this
        · omega
theorem mpP_set {ps : List Pt} {k : Nat} {p : Pt} {n : Int} {l : List Int} (hk : ps[k]? = some p) (hn : p.n = n) : mpP (ps.set k ⟨n, l⟩) = mpP ps := by
  have : (ps.set k ⟨n, l⟩).map Pt.n = ps.map Pt.n := by
    rw [List.map_set]
    refine List.ext_getElem? fun j => ?_
    by_cases e : k = j
    · subst e
      have h1 := (List.getElem?_eq_some_iff.1 hk).1
      rw [List.getElem?_set_self (by simpa using h1)]
      simp [hk, hn]
    · rw [List.getElem?_set_ne e]
  simp only [mpP, this, List.length_set]
theorem parts_ok {nl : Nl} {of : List Int} (h : Nm of) : R tc 162 [lst nl of] = some (lst .any (prt8 of of.length)) := by
  have hle := h.le
  refine R_of_G (F := pf162) (tc_nat _ rfl) rfl rfl ?_
  simp (disch := first | omega | with_unfolding_all rfl) [pf162, env0_eq, evMkm]
  refine G_loopK [4, 9, 10] (fun (i : Nat) e hh => i ≤ of.length ∧ get e 11 = .int .i64 (i : Int) ∧ get e 3 = mls Pr 0 (prt8 of i).length (prt8 of i).length ∧ hh = bk 179 (prt8 of i).length (prs 2 (prt8 of i)) :: ⟨0, 0, [], some (mpP (prt8 of i))⟩ :: pbs (prt8 of i)) (fun i => of.length - i) (a₀ := 0) ?_ ?_
  · exact ⟨by omega, by simp, rfl, rfl⟩
  rintro i e hh hk ⟨hi, g11, g3, rfl⟩
  simp at hk
  obtain ⟨pts, hpts⟩ : ∃ pts, pts = prt8 of i := ⟨_, rfl⟩
  obtain ⟨hA, hM⟩ := prt8_ok h i hi
  have hlen := prt8_len (of := of) i
  have hsc := prt8_succ of i
  rw [← hpts] at g3 hA hM hlen hsc ⊢
  simp (disch := first | omega | with_unfolding_all rfl) [hk, g11]
  refine G_brd (fun c => ?_) (fun c => ?_)
  · have hin : i < of.length := by omega
    obtain ⟨n, hn⟩ : ∃ n, n = of.getD i 0 := ⟨_, rfl⟩
    have hg := getD_get hin
    rw [← hn] at hg hsc
    simp (disch := first | omega | with_unfolding_all rfl) [hk, g11, c, hg]
    refine G_brd (fun c1 => ?_) (fun c1 => ?_)
    · simp (disch := first | omega | with_unfolding_all rfl) [hk, g11, g3, c1]
      have : prt8 of (i + 1) = pts := by rw [hsc, addP, if_pos c1]
      exact ⟨i + 1, by omega, by omega, by omega, by rw [this], by rw [this]; simp⟩
    simp (disch := first | omega | with_unfolding_all rfl) [hk, g11, g3, c1]
    refine G_brd (fun c2 => ?_) (fun c2 => ?_)
    · have hlt : ∀ p ∈ pts, p.n < n := fun p hp => by
        obtain ⟨j, a, b, d⟩ := (hM p.n).1 ⟨p, hp, rfl⟩
        omega
      have hnew : prt8 of (i + 1) = pts ++ [⟨n, [(i : Int)]⟩] := by rw [hsc, addP, if_neg c1, if_pos c2]
      have hput := mpP_put hlt (l := [(i : Int)])
      have hA2 : AscP (pts ++ [⟨n, [(i : Int)]⟩]) := by rw [← hnew]; exact (prt8_ok h (i + 1) (by omega)).1
      have hfind := mpP_find hA2 (k := pts.length) (p := ⟨n, [(i : Int)]⟩) (by simp)
      dsimp only at hfind
      subst c2
      have hpl : (prs 2 pts).length = pts.length := by simp
      have hpl2 : (prs 2 pts ++ [(⟨(i : Int), none⟩ : Pr)]).length = pts.length + 1 := by simp
      have hge : ∀ q, (prs 2 pts ++ [(⟨(i : Int), none⟩ : Pr)])[pts.length]'q = ⟨(i : Int), none⟩ := fun q => by
        rw [List.getElem_append_right (by simp)]; simp
      have hse : ∀ y, (prs 2 pts ++ [(⟨(i : Int), none⟩ : Pr)]).set pts.length y = prs 2 pts ++ [y] := fun y => by
        rw [List.set_append_right _ _ (by simp)]; simp
      simp (disch := first | omega | with_unfolding_all rfl) [hk, g11, g3, evMup, evMlk, mapAt, mapOf, keyB, setMp, hput, hfind, mpP_kn, hge, hse, app_one]
      refine ⟨i + 1, by omega, by omega, by omega, by rw [hnew]; simp, ?_⟩
      rw [hnew, prs_append]
      simp [prs, pbs, Nat.add_comm]
      rw [show 1 + (pts.length + 1) = pts.length + 2 by omega]
    · obtain ⟨m, hm, hmi, hmm⟩ := (h.nm i hin).resolve_left (by rw [← hn]; exact c1)
      rw [← hn] at hm
      have hmi2 : m < i := by omega
      obtain ⟨p, hp, hpn⟩ := (hM n).2 ⟨m, hmi2, hmm, hm⟩
      obtain ⟨k, hkl, hpk⟩ := List.getElem_of_mem hp
      have hk? : pts[k]? = some p := by rw [List.getElem?_eq_getElem hkl, hpk]
      have hfind := mpP_find hA hk?
      rw [hpn] at hfind
      have hpl : (prs 2 pts).length = pts.length := by simp
      have hpp : p.p.length ≤ i := prt8_plen i p (by rw [← hpts]; exact hp)
      have hge : ∀ q, (prs 2 pts)[k]'q = ⟨p.n, some (2 + k, p.p.length, p.p.length)⟩ := fun q => by
        have := prs_get 2 pts k p hk?
        rw [List.getElem?_eq_getElem q, Option.some.injEq] at this
        exact this
      have hbl : ∀ X Y : Blk, (X :: Y :: pbs pts)[2 + k]? = some (bk 3 p.p.length p.p) := fun X Y => by
        rw [show 2 + k = k + 1 + 1 by omega, List.getElem?_cons_succ, List.getElem?_cons_succ]
        simp [pbs, hk?]
      have hbs : ∀ X Y B : Blk, (X :: Y :: pbs pts).set (2 + k) B = X :: Y :: (pbs pts).set k B := fun X Y B => by
        rw [show 2 + k = k + 1 + 1 by omega, List.set_cons_succ, List.set_cons_succ]
      have hold : prt8 of (i + 1) = pts.set k ⟨n, p.p ++ [(i : Int)]⟩ := by rw [hsc, addP_old hA hk? hpn c1 c2]
      simp (disch := first | omega | with_unfolding_all rfl) [hk, g11, g3, evMup, evMlk, mapAt, mapOf, keyB, setMp, hfind, mpP_kn, hge, hbl, hbs]
      refine ⟨i + 1, by omega, by omega, by omega, by rw [hold]; simp, ?_⟩
      rw [hold]
      refine ⟨⟨by simp, ?_⟩, ?_, ?_⟩
      · rw [prs_set]; simp [hpn]
      · exact (mpP_set hk? hpn).symm
      · simp [pbs, List.map_set]
  · have e1 : i = of.length := by omega
    subst e1
    have hfz := frz_all (X := bk 179 pts.length (prs 2 pts)) (Y := ⟨0, 0, [], some (mpP pts)⟩) (ps := pts) (n := 61) rfl
    subst hpts
    simp (disch := first | omega | with_unfolding_all rfl) [hk, g11, g3, c, -frz_mlsC]
    exact hfz
end Go.Proofs.YtiaeckidlmoohaaGreat
end
section
set_option linter.unusedVariables false
set_option linter.unusedSimpArgs false
set_option maxHeartbeats 4000000
set_option maxRecDepth 20000
namespace Go.Proofs.YtiaeckidlmoohaaGreat
open Go.Proofs.YtiaeckidlmoohaaGreat.PM
theorem touch_ok {p q : Int} (hp : 0 ≤ p ∧ p < 6) (hq : 0 ≤ q ∧ q < 6) : R tc 165 [.int .i64 p, .int .i64 q] = some (.bool (decide (p ≠ q) && !prt p q)) := by
  refine R_of_G (F := pf165) (tc_nat _ rfl) rfl rfl ?_
  simp (disch := first | omega | with_unfolding_all rfl) [pf165, env0_eq]
  by_cases a1 : p = q
  · subst a1
    simp (disch := first | omega | with_unfolding_all rfl)
  by_cases a4 : p < 2
  · have a4' : ¬ 2 ≤ p := by omega
    by_cases a2 : p + q = 6 <;> by_cases a3 : p + q = 8 <;> simp (disch := first | omega | with_unfolding_all rfl) [a1, a2, a3, a4, a4', prt]
  by_cases a5 : q < 2
  · have a5' : ¬ 2 ≤ q := by omega
    by_cases a2 : p + q = 6 <;> by_cases a3 : p + q = 8 <;> simp (disch := first | omega | with_unfolding_all rfl) [a1, a2, a3, a4, a5, a5', prt]
  have a4' : 2 ≤ p := by omega
  have a5' : 2 ≤ q := by omega
  by_cases a2 : p + q = 6
  · have : p - q = 2 ∨ q - p = 2 := by omega
    rcases this with h | h <;> simp (disch := first | omega | with_unfolding_all rfl) [a1, a2, a4, a5, a4', a5', prt, h]
  by_cases a3 : p + q = 8
  · have : p - q = 2 ∨ q - p = 2 := by omega
    rcases this with h | h <;> simp (disch := first | omega | with_unfolding_all rfl) [a1, a2, a3, a4, a5, a4', a5', prt, h]
  have b1 : ¬ p - q = 2 := by omega
  have b2 : ¬ q - p = 2 := by omega
  simp (disch := first | omega | with_unfolding_all rfl) [a1, a2, a3, a4, a5, a4', a5', prt, b1, b2]
end Go.Proofs.YtiaeckidlmoohaaGreat
end
section
set_option linter.unusedVariables false
set_option linter.unusedSimpArgs false
set_option maxHeartbeats 4000000
set_option maxRecDepth 20000
namespace Go.Proofs.YtiaeckidlmoohaaGreat
open Go.Proofs.YtiaeckidlmoohaaGreat.PM
theorem exNum (E : Nat → Nat → Prop) : ∀ i, ∃ m, IsNum E i m := by
  intro i
  induction i using Nat.strongRecOn with
  | _ i ih =>
    by_cases h : ∃ k, k < i ∧ Cn E i k
    · obtain ⟨k, hk, hc⟩ := h
      obtain ⟨m, h1, h2⟩ := ih k hk
      exact ⟨m, hc.trans h1, fun j hj => h2 j (hc.symm.trans hj)⟩
    · exact ⟨i, .refl i, fun k hk => Nat.le_of_not_lt fun q => h ⟨k, q, hk⟩⟩
theorem IsNum.of_cn {E : Nat → Nat → Prop} {i j m : Nat} (h : IsNum E i m) (c : Cn E i j) : IsNum E j m := ⟨c.symm.trans h.1, fun k hk => h.2 k (c.trans hk)⟩
def to8 (k : Nat) : Nat := 8 * (k / 6) + k % 6
theorem to8_inj {a b : Nat} (h : to8 a = to8 b) : a = b := by unfold to8 at h; omega
theorem to8_lt {a b : Nat} : to8 a < to8 b ↔ a < b := by unfold to8; omega
def lie6 (r : Rl) (k : Nat) : Bool := lie r ((k : Int) / 6) ((k : Int) % 6)
def NrT (r : Rl) (k Q x : Nat) : Prop := ∃ q : Nat, q < Q ∧ q < 6 ∧ k % 6 ≠ q ∧ prt ((k : Int) % 6) q = false ∧ lie r ((k : Int) / 6) q = true ∧ x = k / 6 * 6 + q
def NrQ (r : Rl) (ls : List Sg) (W H k : Nat) (s : Int) (Q x : Nat) : Prop := has ((k : Int) % 6) s = true ∧ sgn ls ((k : Int) / 6) ((k : Int) % 6) s = false ∧
  ∃ u : Nat, bey W H (k / 6) s = (u : Int) ∧ ∃ q : Nat, q < Q ∧ q < 6 ∧ lie r u q = true ∧ has q ((s + 2).tmod 4) = true ∧ sgn ls u q ((s + 2).tmod 4) = false ∧ x = u * 6 + q
def NrS (r : Rl) (ls : List Sg) (W H k S x : Nat) : Prop := ∃ s : Nat, s < S ∧ s < 4 ∧ NrQ r ls W H k s 6 x
def Nr (r : Rl) (ls : List Sg) (W H k x : Nat) : Prop := NrT r k 6 x ∨ NrS r ls W H k 4 x
theorem prt_comm (p q : Int) : prt p q = prt q p := by
  unfold prt
  by_cases a : 2 ≤ p <;> by_cases b : 2 ≤ q <;> simp [a, b, Bool.or_comm]
section
variable {r : Rl} {ls : List Sg} {W H M : Nat}
theorem nr_edge (hW : r.w = W) (hH : r.h = H) (hM : M = W * H) (hW0 : 4 ≤ W) {k x : Nat} (hl : lie6 r k = true) (h : Nr r ls W H k x) : x < 6 * M ∧ lie6 r x = true ∧ (EE r ls (to8 k) (to8 x) ∨ EE r ls (to8 x) (to8 k)) := by
  have hWH : r.w * r.h = (M : Int) := by rw [hW, hH, hM]; push_cast; rfl
  have hT : (r.w * r.h).toNat = M := by rw [hWH]; rfl
  have hk := lie_lt hl
  rw [hWH] at hk
  have hW1 : r.w.toNat = W := by rw [hW]; rfl
  have kd : ((k : Int) / 6) = ((k / 6 : Nat) : Int) := by omega
  have km : ((k : Int) % 6) = ((k % 6 : Nat) : Int) := by omega
  unfold lie6 at hl
  rcases h with ⟨q, _, hq, hne, hp, hlq, rfl⟩ | ⟨s, _, hs, hhas, hsg, u, hu, q, _, hq, hlq, hhq, hsq, rfl⟩
  · have xd : ((k / 6 * 6 + q : Nat) : Int) / 6 = (k : Int) / 6 := by omega
    have xm : ((k / 6 * 6 + q : Nat) : Int) % 6 = (q : Int) := by omega
    refine ⟨by omega, by unfold lie6; rw [xd, xm]; exact hlq, ?_⟩
    have te : ∀ a b : Nat, b < a → a < 6 → lie r ((k : Int) / 6) a = true → lie r ((k : Int) / 6) b = true → prt a b = false → EE r ls (8 * (k / 6) + a) (8 * (k / 6) + b) := by
      intro a b h1 h2 h3 h4 h5
      exact ⟨k / 6, by rw [hT]; omega, .inl ⟨a, b, by omega, h1, h2, by rw [← kd]; exact h3, by rw [← kd]; exact h4, h5, rfl, rfl⟩⟩
    have e1 : to8 k = 8 * (k / 6) + k % 6 := rfl
    have e2 : to8 (k / 6 * 6 + q) = 8 * (k / 6) + q := by unfold to8; omega
    rw [e1, e2]
    rw [km] at hl hp
    rcases Nat.lt_or_gt_of_ne hne with c | c
    · exact .inr (te q (k % 6) c hq hlq hl (by rw [prt_comm]; exact hp))
    · exact .inl (te (k % 6) q c (by omega) hl hlq hp)
  · have hlu := lie_lt hlq
    rw [hWH] at hlu
    have xd : ((u * 6 + q : Nat) : Int) / 6 = (u : Int) := by omega
    have xm : ((u * 6 + q : Nat) : Int) % 6 = (q : Int) := by omega
    refine ⟨by omega, by unfold lie6; rw [xd, xm]; exact hlq, ?_⟩
    have e1 : to8 k = 8 * (k / 6) + k % 6 := rfl
    have e2 : to8 (u * 6 + q) = 8 * u + q := by unfold to8; omega
    rw [e1, e2]
    obtain ⟨t, ht⟩ : ∃ t, t = k / 6 := ⟨_, rfl⟩
    obtain ⟨p, hp⟩ : ∃ p, p = k % 6 := ⟨_, rfl⟩
    rw [kd, km, ← ht, ← hp] at hl hsg
    rw [km, ← hp] at hhas
    rw [← ht] at hu
    rw [← ht, ← hp]
    have hp6 : p < 6 := by omega
    have htM : t < M := by omega
    have q1 : ∀ t' : Nat, ((t' : Int).tmod r.w < r.w - 1 ↔ t' % W + 1 < W) := fun t' => by
      rw [hW, tmod_nat]; omega
    have q2 : ∀ t' : Nat, ((t' : Int).tdiv r.w < r.h - 1 ↔ t' / W + 1 < H) := fun t' => by
      rw [hW, hH, tdiv_nat]; generalize t' / W = z; omega
    have hs4 : s = 0 ∨ s = 1 ∨ s = 2 ∨ s = 3 := by omega
    rcases hs4 with rfl | rfl | rfl | rfl
    · -- to the right
      left
      have hu' : t % W + 1 < W ∧ u = t + 1 := by
        simp [bey] at hu
        split at hu <;> omega
      obtain ⟨c1, rfl⟩ := hu'
      exact ⟨t, by omega, .inr (.inl ⟨(q1 t).2 c1, p, q, by omega, hp6, hq, hl, hhas, hsg, hlq, hhq, hsq, rfl, rfl⟩)⟩
    · left
      have hu' : t / W + 1 < H ∧ u = t + W := by
        simp [bey] at hu
        split at hu <;> omega
      obtain ⟨c1, rfl⟩ := hu'
      exact ⟨t, by omega, .inr (.inr ⟨(q2 t).2 c1, p, q, by omega, hp6, hq, hl, hhas, hsg, by rw [hW1]; exact hlq, hhq, by rw [hW1]; exact hsq, rfl, by rw [hW1]⟩)⟩
    · right
      have hu' : 1 ≤ t % W ∧ u + 1 = t := by
        simp [bey] at hu
        split at hu <;> omega
      obtain ⟨c1, rfl⟩ := hu'
      have c2 : u % W + 1 < W := by
        have hlt := Nat.mod_lt (u + 1) (show 0 < W by omega)
        have h5 : (u + 1) % W = (u % W + 1) % W := by rw [Nat.mod_add_mod]
        by_cases e : u % W + 1 < W
        · exact e
        · have hlt2 := Nat.mod_lt u (show 0 < W by omega)
          have : u % W + 1 = W := by omega
          rw [this, Nat.mod_self] at h5
          omega
      exact ⟨u, by omega, .inr (.inl ⟨(q1 u).2 c2, q, p, by omega, hq, hp6, hlq, hhq, hsq, hl, hhas, hsg, rfl, rfl⟩)⟩
    · right
      have hu' : 1 ≤ t / W ∧ u + W = t := by
        simp [bey] at hu
        split at hu
        · rename_i c
          refine ⟨c, ?_⟩
          omega
        · omega
      obtain ⟨c1, rfl⟩ := hu'
      have c2 : u / W + 1 < H := by
        rw [← Nat.add_div_right _ (show 0 < W by omega), Nat.div_lt_iff_lt_mul (by omega), Nat.mul_comm, ← hM]
        exact htM
      exact ⟨u, by omega, .inr (.inr ⟨(q2 u).2 c2, q, p, by omega, hq, hp6, hlq, hhq, hsq, by rw [hW1]; exact hl, hhas, by rw [hW1]; exact hsg, rfl, by rw [hW1]⟩)⟩
theorem edge_nr (hW : r.w = W) (hH : r.h = H) (hM : M = W * H) (hW0 : 4 ≤ W) {k y : Nat} (h : EE r ls (to8 k) y ∨ EE r ls y (to8 k)) : ∃ x, Nr r ls W H k x ∧ y = to8 x := by
  have hWH : r.w * r.h = (M : Int) := by rw [hW, hH, hM]; push_cast; rfl
  have hT : (r.w * r.h).toNat = M := by rw [hWH]; rfl
  have hW1 : r.w.toNat = W := by rw [hW]; rfl
  have kd : ((k : Int) / 6) = ((k / 6 : Nat) : Int) := by omega
  have km : ((k : Int) % 6) = ((k % 6 : Nat) : Int) := by omega
  have q1 : ∀ t' : Nat, ((t' : Int).tmod r.w < r.w - 1 ↔ t' % W + 1 < W) := fun t' => by
    rw [hW, tmod_nat]; omega
  have q2 : ∀ t' : Nat, ((t' : Int).tdiv r.w < r.h - 1 ↔ t' / W + 1 < H) := fun t' => by
    rw [hW, hH, tdiv_nat]; generalize t' / W = z; omega
  rcases h with ⟨t, ht, h⟩ | ⟨t, ht, h⟩
  · rcases h with ⟨p, q, _, hqp, hp6, hl, hlq, hpr, e1, rfl⟩ | ⟨c, p, q, _, hp6, hq6, hl, hh, hs, hlq, hhq, hsq, e1, rfl⟩ | ⟨c, p, q, _, hp6, hq6, hl, hh, hs, hlq, hhq, hsq, e1, rfl⟩
    · obtain ⟨rfl, rfl⟩ : k / 6 = t ∧ k % 6 = p := by unfold to8 at e1; omega
      exact ⟨k / 6 * 6 + q, .inl ⟨q, by omega, by omega, by omega, by rw [km]; exact hpr, by rw [kd]; exact hlq, rfl⟩, by unfold to8; omega⟩
    · obtain ⟨rfl, rfl⟩ : k / 6 = t ∧ k % 6 = p := by unfold to8 at e1; omega
      refine ⟨(k / 6 + 1) * 6 + q, .inr ⟨0, by omega, by omega, by rw [km]; exact hh, by rw [kd, km]; exact hs, k / 6 + 1, ?_, q, by omega, hq6, hlq, hhq, hsq, rfl⟩, by unfold to8; omega⟩
      simp [bey, (q1 _).1 c]
    · obtain ⟨rfl, rfl⟩ : k / 6 = t ∧ k % 6 = p := by unfold to8 at e1; omega
      rw [hW1] at hlq hsq ⊢
      refine ⟨(k / 6 + W) * 6 + q, .inr ⟨1, by omega, by omega, by rw [km]; exact hh, by rw [kd, km]; exact hs, k / 6 + W, ?_, q, by omega, hq6, hlq, hhq, hsq, rfl⟩, by unfold to8; omega⟩
      simp [bey, (q2 _).1 c]
  · rcases h with ⟨p, q, _, hqp, hp6, hl, hlq, hpr, rfl, e1⟩ | ⟨c, p, q, _, hp6, hq6, hl, hh, hs, hlq, hhq, hsq, rfl, e1⟩ | ⟨c, p, q, _, hp6, hq6, hl, hh, hs, hlq, hhq, hsq, rfl, e1⟩
    · obtain ⟨rfl, rfl⟩ : k / 6 = t ∧ k % 6 = q := by unfold to8 at e1; omega
      exact ⟨k / 6 * 6 + p, .inl ⟨p, by omega, by omega, by omega, by rw [km, prt_comm]; exact hpr, by rw [kd]; exact hl, rfl⟩, by unfold to8; omega⟩
    · obtain ⟨hk6, rfl⟩ : k / 6 = t + 1 ∧ k % 6 = q := by unfold to8 at e1; omega
      rw [← hk6] at hlq hsq
      refine ⟨t * 6 + p, .inr ⟨2, by omega, by omega, by rw [km]; exact hhq, by rw [kd, km]; exact hsq, t, ?_, p, by omega, hp6, hl, hh, hs, rfl⟩, by unfold to8; omega⟩
      have c2 : 1 ≤ (t + 1) % W := by
        have := (q1 _).1 c
        have h5 : (t + 1) % W = t % W + 1 := by
          rw [Nat.add_mod, Nat.mod_eq_of_lt (show 1 < W by omega), Nat.mod_eq_of_lt this]
        omega
      rw [hk6]
      simp [bey, c2]
    · rw [hW1] at hlq hsq e1
      obtain ⟨hk6, rfl⟩ : k / 6 = t + W ∧ k % 6 = q := by unfold to8 at e1; omega
      rw [← hk6] at hlq hsq
      refine ⟨t * 6 + p, .inr ⟨3, by omega, by omega, by rw [km]; exact hhq, by rw [kd, km]; exact hsq, t, ?_, p, by omega, hp6, hl, hh, hs, rfl⟩, by unfold to8; omega⟩
      have c2 : 1 ≤ (t + W) / W := by rw [Nat.add_div_right _ (by omega)]; exact Nat.le_add_left _ _
      rw [hk6]
      simp [bey, c2]
theorem cn_lies (hW : r.w = W) (hH : r.h = H) (hM : M = W * H) (hW0 : 4 ≤ W) {k y : Nat} (hk : k < 6 * M) (hl : lie6 r k = true) (h : Cn (EE r ls) (to8 k) y) : ∃ x, x < 6 * M ∧ lie6 r x = true ∧ y = to8 x := by
  induction h with
  | refl => exact ⟨k, hk, hl, rfl⟩
  | step _ e ih =>
    obtain ⟨x, hx, hlx, rfl⟩ := ih
    obtain ⟨z, hz, rfl⟩ := edge_nr hW hH hM hW0 e
    obtain ⟨h1, h2, _⟩ := nr_edge hW hH hM hW0 hlx hz
    exact ⟨z, h1, h2, rfl⟩
structure Oinv (r : Rl) (ls : List Sg) (M i : Nat) (out : List Int) : Prop where
  len : out.length = 6 * M
  off : ∀ j, j < 6 * M → lie6 r j = false → out[j]? = some (-1)
  on : ∀ j, j < 6 * M → lie6 r j = true → ∃ m, IsNum (EE r ls) (to8 j) m ∧ out[j]? = some (if m < to8 i then (m : Int) else -1)
theorem Oinv.skip (hW : r.w = W) (hH : r.h = H) (hM : M = W * H) (hW0 : 4 ≤ W) {i : Nat} {out : List Int} (h : Oinv r ls M i out) (hs : lie6 r i = false ∨ ∃ v : Int, out[i]? = some v ∧ 0 ≤ v) : Oinv r ls M (i + 1) out := by
  refine ⟨h.len, h.off, fun j hj hl => ?_⟩
  obtain ⟨m, h1, h2⟩ := h.on j hj hl
  refine ⟨m, h1, ?_⟩
  have : m < to8 i ↔ m < to8 (i + 1) := by
    constructor
    · intro q
      have := (to8_lt (a := i) (b := i + 1)).2 (by omega)
      omega
    · intro q
      apply Nat.lt_of_not_le
      intro q2
      obtain ⟨x, hx, hlx, rfl⟩ := cn_lies hW hH hM hW0 hj hl h1.1
      have e1 : ¬ x < i := fun c => by have := to8_lt.2 c; omega
      have e2 : x < i + 1 := to8_lt.1 q
      obtain rfl : x = i := by omega
      rcases hs with hs | ⟨v, hv, h0⟩
      · rw [hs] at hlx; cases hlx
      · obtain ⟨m', g1, g2⟩ := h.on x hx hlx
        have : m' = to8 x := g1.uniq (h1.of_cn h1.1)
        rw [this, if_neg (by omega), hv, Option.some.injEq] at g2
        omega
  rw [h2]
  by_cases c : m < to8 i
  · rw [if_pos c, if_pos (this.1 c)]
  · rw [if_neg c, if_neg (fun q => c (this.2 q))]
structure Fl (r : Rl) (ls : List Sg) (W H M i : Nat) (out0 out : List Int) (pend : Nat → Prop) : Prop where
  len : out.length = 6 * M
  cell : ∀ j, j < 6 * M → out[j]? = out0[j]? ∨ (out[j]? = some (to8 i : Int) ∧ lie6 r j = true ∧ Cn (EE r ls) (to8 i) (to8 j))
  pin : ∀ k, pend k → k < 6 * M ∧ out[k]? = some (to8 i : Int)
  closed : ∀ j, j < 6 * M → out[j]? = some (to8 i : Int) → pend j ∨ ∀ x, Nr r ls W H j x → ∃ v : Int, out[x]? = some v ∧ 0 ≤ v
  own : out[i]? = some (to8 i : Int)
theorem Oinv.cell {i j : Nat} {out : List Int} (h : Oinv r ls M i out) (hj : j < 6 * M) : out[j]? = some (-1) ∨ ∃ m : Nat, m < to8 i ∧ out[j]? = some (m : Int) ∧ lie6 r j = true ∧ IsNum (EE r ls) (to8 j) m := by
  cases c : lie6 r j
  · exact .inl (h.off j hj c)
  · obtain ⟨m, h1, h2⟩ := h.on j hj c
    split at h2
    · rename_i q; exact .inr ⟨m, q, h2, rfl, h1⟩
    · exact .inl h2
theorem Oinv.own {i : Nat} {out : List Int} (h : Oinv r ls M i out) (hi : i < 6 * M) (hl : lie6 r i = true) (hv : ¬ ∃ v : Int, out[i]? = some v ∧ 0 ≤ v) : IsNum (EE r ls) (to8 i) (to8 i) := by
  obtain ⟨m, h1, h2⟩ := h.on i hi hl
  have : m ≤ to8 i := h1.2 _ (.refl _)
  by_cases c : m < to8 i
  · rw [if_pos c] at h2
    exact absurd ⟨_, h2, by omega⟩ hv
  · obtain rfl : m = to8 i := by omega
    exact h1
theorem Fl.start {i : Nat} {out : List Int} (h : Oinv r ls M i out) (hi : i < 6 * M) (hl : lie6 r i = true) : Fl r ls W H M i out (out.set i (to8 i : Int)) (fun j => j = i) := by
  have hlen := h.len
  refine ⟨by simp [hlen], fun j hj => ?_, fun k hk => ?_, fun j hj hv => ?_, List.getElem?_set_self (by omega)⟩
  · by_cases e : i = j
    · subst e; exact .inr ⟨List.getElem?_set_self (by omega), hl, .refl _⟩
    · exact .inl (List.getElem?_set_ne e)
  · subst hk; exact ⟨hi, List.getElem?_set_self (by omega)⟩
  · by_cases e : i = j
    · exact .inl e.symm
    · rw [List.getElem?_set_ne e] at hv
      rcases h.cell hj with q | ⟨m, q1, q2, _⟩
      · rw [q, Option.some.injEq] at hv; omega
      · rw [q2, Option.some.injEq] at hv; omega
theorem Fl.mark (hW : r.w = W) (hH : r.h = H) (hM : M = W * H) (hW0 : 4 ≤ W) {i : Nat} {out0 out : List Int} {pend : Nat → Prop} (h0 : Oinv r ls M i out0) (h : Fl r ls W H M i out0 out pend) {k x : Nat} (hk : pend k) (hx : Nr r ls W H k x) {v : Int} (hv : out[x]? = some v) (hv0 : v < 0) :
    Fl r ls W H M i out0 (out.set x (to8 i : Int)) (fun j => pend j ∨ j = x) := by
  have hlen := h.len
  obtain ⟨hk6, hko⟩ := h.pin k hk
  have hkc : lie6 r k = true ∧ Cn (EE r ls) (to8 i) (to8 k) := by
    rcases h.cell k hk6 with q | q
    · rw [q] at hko
      rcases h0.cell hk6 with q | ⟨m, q1, q2, _⟩
      · rw [q, Option.some.injEq] at hko; omega
      · rw [q2, Option.some.injEq] at hko; omega
    · exact q.2
  obtain ⟨hx6, hxl, hxe⟩ := nr_edge hW hH hM hW0 hkc.1 hx
  refine ⟨by simp [hlen], fun j hj => ?_, fun k hk => ?_, fun j hj hv => ?_, ?_⟩
  · by_cases e : x = j
    · subst e; exact .inr ⟨List.getElem?_set_self (by omega), hxl, hkc.2.step hxe⟩
    · rw [List.getElem?_set_ne e]; exact h.cell j hj
  · by_cases e : x = k
    · subst e; exact ⟨hx6, List.getElem?_set_self (by omega)⟩
    · rw [List.getElem?_set_ne e]
      exact h.pin k (hk.resolve_right fun q => e q.symm)
  · by_cases e : x = j
    · exact .inl (.inr e.symm)
    · rw [List.getElem?_set_ne e] at hv
      rcases h.closed j hj hv with q | q
      · exact .inl (.inl q)
      · refine .inr fun y hy => ?_
        by_cases e2 : x = y
        · subst e2; exact ⟨_, List.getElem?_set_self (by omega), by omega⟩
        · rw [List.getElem?_set_ne e2]; exact q y hy
  · by_cases e : x = i
    · subst e; exact List.getElem?_set_self (by omega)
    · rw [List.getElem?_set_ne e]; exact h.own
theorem Fl.pend {i : Nat} {out0 out : List Int} {pend pend' : Nat → Prop} (h : Fl r ls W H M i out0 out pend) (h1 : ∀ j, pend' j → pend j) (h2 : ∀ j, pend j → pend' j ∨ ∀ x, Nr r ls W H j x → ∃ v : Int, out[x]? = some v ∧ 0 ≤ v) : Fl r ls W H M i out0 out pend' :=
  ⟨h.len, h.cell, fun k hk => h.pin k (h1 k hk), fun j hj hv => (h.closed j hj hv).elim (h2 j) .inr, h.own⟩
theorem Fl.fin (hW : r.w = W) (hH : r.h = H) (hM : M = W * H) (hW0 : 4 ≤ W) {i : Nat} {out0 out : List Int} (h0 : Oinv r ls M i out0) (hi : IsNum (EE r ls) (to8 i) (to8 i)) (hi6 : i < 6 * M) (hil : lie6 r i = true) (h : Fl r ls W H M i out0 out (fun _ => False)) : Oinv r ls M (i + 1) out := by
  have all : ∀ y, Cn (EE r ls) (to8 i) y → ∃ x, x < 6 * M ∧ y = to8 x ∧ lie6 r x = true ∧ out[x]? = some (to8 i : Int) := by
    intro y hy
    induction hy with
    | refl => exact ⟨i, hi6, rfl, hil, h.own⟩
    | @step j' k' hc e ih =>
      obtain ⟨x, hx, rfl, hlx, hxo⟩ := ih
      obtain ⟨z, hz, rfl⟩ := edge_nr hW hH hM hW0 e
      obtain ⟨h1, h2, h3⟩ := nr_edge hW hH hM hW0 hlx hz
      refine ⟨z, h1, rfl, h2, ?_⟩
      obtain ⟨v, hv, hv0⟩ := ((h.closed x hx hxo).resolve_left id) z hz
      rcases h.cell z h1 with q | q
      · rw [hv] at q
        rcases h0.cell h1 with q' | ⟨m, q1, q2, _, q3⟩
        · rw [q', Option.some.injEq] at q; omega
        · have : m = to8 i := q3.uniq (hi.of_cn (hc.step h3))
          omega
      · exact q.1
  refine ⟨h.len, fun j hj hl => ?_, fun j hj hl => ?_⟩
  · rcases h.cell j hj with q | q
    · rw [q]; exact h0.off j hj hl
    · rw [hl] at q; exact absurd q.2.1 (by decide)
  · obtain ⟨m, h1, h2⟩ := h0.on j hj hl
    refine ⟨m, h1, ?_⟩
    by_cases c : Cn (EE r ls) (to8 i) (to8 j)
    · obtain rfl : m = to8 i := h1.uniq (hi.of_cn c)
      obtain ⟨x, hx, e, _, hxo⟩ := all _ c
      rw [to8_inj e, hxo, if_pos (to8_lt.2 (by omega))]
    · have h3 : out[j]? = out0[j]? := (h.cell j hj).resolve_right fun q => c q.2.2
      rw [h3, h2]
      have : m < to8 i ↔ m < to8 (i + 1) := by
        constructor
        · intro q
          have := (to8_lt (a := i) (b := i + 1)).2 (by omega)
          omega
        · intro q
          apply Nat.lt_of_not_le
          intro q2
          obtain ⟨x, hx, hlx, rfl⟩ := cn_lies hW hH hM hW0 hj hl h1.1
          have e1 : ¬ x < i := fun c => by have := to8_lt.2 c; omega
          have e2 : x < i + 1 := to8_lt.1 q
          obtain rfl : x = i := by omega
          exact c h1.1.symm
      by_cases c : m < to8 i
      · rw [if_pos c, if_pos (this.1 c)]
      · rw [if_neg c, if_neg (fun q => c (this.2 q))]
end
end Go.Proofs.YtiaeckidlmoohaaGreat
end
section
set_option linter.unusedVariables false
set_option linter.unusedSimpArgs false
set_option maxHeartbeats 8000000
set_option maxRecDepth 20000
namespace Go.Proofs.YtiaeckidlmoohaaGreat
open Go.Proofs.YtiaeckidlmoohaaGreat.PM
theorem appB_cut {e b gen n bytes : Nat} {xs : List Int} {y : Int} {H : Hp} (hn : n ≤ xs.length) (hs : (n + 1) * bytes ≤ 140737488355328) : appB Int (some ⟨e, gen, cl xs, none⟩) H b gen n e bytes [y] = some (mls Int b (gen + 1) (n + 1), H.set b (bk e (gen + 1) (xs.take n ++ [y]))) := by
  have h1 : List.take n (cl xs) = cl (xs.take n) := by
    have := take_cl xs n
    rw [sz_int, Nat.mul_one] at this
    exact this
  show _ = some (_, H.set b ⟨e, gen + 1, cl (xs.take n ++ [y]), none⟩)
  rw [cl_append]
  simp only [appB, List.length_singleton, if_pos hs, Option.bind_some, sz_int, Nat.mul_one, length_cl, and_self, true_and, if_pos hn, h1]
theorem evSlc_mls {b gen n : Nat} {k : IntKind} {i : Int} (h0 : 0 ≤ i) (h1 : i ≤ n) : evSlc 1 (mls Int b gen n) none (some (.int k i)) none = some (mls Int b gen i.toNat) := by
  have hn : ¬ i < 0 := by omega
  have hl : i.toNat ≤ n := by omega
  simp only [evSlc, mls, optIx, ixIn, sz_int, if_true, Option.bind_some, Nat.zero_add, Nat.zero_mul]
  rw [if_pos (by omega)]
  simp only [Option.bind_some, Nat.zero_le, true_and, if_pos hl, Nat.sub_zero]
def cutAt (ls : List Sg) (i j : Nat) : Bool := (ls.take i).any fun x => decide ((x.t * 6 + x.p) * 4 + x.o = (j : Int))
theorem cutAt_succ {ls : List Sg} {i j : Nat} (h : i < ls.length) : cutAt ls (i + 1) j = (cutAt ls i j || decide ((ls[i].t * 6 + ls[i].p) * 4 + ls[i].o = (j : Int))) := by
  simp only [cutAt]
  rw [List.take_add_one, List.any_append, List.getElem?_eq_getElem h]
  simp
theorem cutAt_sgn {r : Rl} {ls : List Sg} (v : Vd r ls) {k s : Nat} (hs : s < 4) : cutAt ls ls.length (k * 4 + s) = sgn ls ((k : Int) / 6) ((k : Int) % 6) s := by
  rw [Bool.eq_iff_iff, sgn, isAt_iff v.so]
  simp only [cutAt, List.take_length, List.any_eq_true, decide_eq_true_eq]
  constructor
  · rintro ⟨x, hx, e⟩
    have h1 := has_lt (v.hs x hx)
    refine ⟨x, hx, ?_⟩
    unfold eqS
    dsimp only
    omega
  · rintro ⟨x, hx, e⟩
    refine ⟨x, hx, ?_⟩
    unfold eqS at e
    dsimp only at e
    omega
def ic (xs : List Nat) : List Int := xs.map fun (x : Nat) => (x : Int)
@[simp] theorem ic_len (xs : List Nat) : (ic xs).length = xs.length := by simp [ic]
theorem ic_get {xs : List Nat} {j : Nat} (h : j < xs.length) : (ic xs)[j]'(by simpa using h) = (xs[j] : Int) := by simp [ic]
theorem ic_take (xs : List Nat) (n y : Nat) : (ic xs).take n ++ [(y : Int)] = ic (xs.take n ++ [y]) := by simp [ic, List.map_take]
theorem ic_app (xs : List Nat) (y : Nat) : ic xs ++ [(y : Int)] = ic (xs ++ [y]) := by simp [ic]
def cnt (out : List Int) : Nat := out.countP fun x => decide (x < 0)
theorem cnt_le (out : List Int) : cnt out ≤ out.length := List.countP_le_length
theorem cnt_set {out : List Int} {x : Nat} {v w : Int} (hv : out[x]? = some v) (hv0 : v < 0) (hw : 0 ≤ w) : cnt (out.set x w) + 1 = cnt out := by
  obtain ⟨h1, h2⟩ := List.getElem?_eq_some_iff.1 hv
  have hp : 0 < cnt out := by
    unfold cnt
    rw [List.countP_pos_iff]
    exact ⟨v, List.mem_of_getElem? hv, by simpa using hv0⟩
  have hw' : ¬ w < 0 := by omega
  have := List.countP_set (p := fun x : Int => decide (x < 0)) (a := w) h1
  unfold cnt at *
  rw [this, h2]
  simp only [hv0, hw', decide_true, decide_false, if_true]
  simp
  omega
structure NumsR (r : Rl) (ls : List Sg) (M : Nat) (out : List Int) : Prop where
  len : out.length = 6 * M
  off : ∀ j, j < 6 * M → lie6 r j = false → out[j]? = some (-1)
  on : ∀ j, j < 6 * M → lie6 r j = true → ∃ m : Nat, IsNum (EE r ls) (to8 j) m ∧ out[j]? = some (m : Int)
def MkI (r : Rl) (ls : List Sg) (W H M i : Nat) (out o1 : List Int) (cut : List Bool) (nb tb tl k : Nat) (nr : List Nat) (j : Nat) (v : PV) (h : Hp) : Prop := ∃ o2 tl2 g2 tx2, v = mls Int tb g2 tl2 ∧ h.length = nb + 1 ∧ h[0]? = some (bk 3 0 o2) ∧ h[1]? = some (bk 4 0 cut) ∧ h[tb]? = some (bk 3 g2 (ic tx2)) ∧ h[nb]? = some (bk 3 nr.length (ic nr)) ∧
  tl2 ≤ tx2.length ∧ 2 * cnt o2 + tl2 + 1 ≤ 2 * cnt o1 + tl ∧ Fl r ls W H M i out o2 (fun x => x ∈ tx2.take tl2 ∨ x = k) ∧ ∀ j' x, j' < j → nr[j']? = some x → ∃ v : Int, o2[x]? = some v ∧ 0 ≤ v
def SpI (r : Rl) (ls : List Sg) (W H M i : Nat) (out : List Int) (cut : List Bool) (a : List Int × Nat) (v : PV) (h : Hp) : Prop := ∃ tb gn tx, v = mls Int tb gn a.2 ∧ 2 ≤ tb ∧ tb < h.length ∧ h[0]? = some (bk 3 0 a.1) ∧ h[1]? = some (bk 4 0 cut) ∧ h[tb]? = some (bk 3 gn (ic tx)) ∧ a.2 ≤ tx.length ∧ 2 * cnt a.1 + a.2 ≤ 20000 ∧ Fl r ls W H M i out a.1 (fun j => j ∈ tx.take a.2)
def OuI (r : Rl) (ls : List Sg) (M i : Nat) (cut : List Bool) (h : Hp) : Prop := 2 ≤ h.length ∧ h[1]? = some (bk 4 0 cut) ∧ ∃ out, h[0]? = some (bk 3 0 out) ∧ Oinv r ls M i out
theorem refNumbers_ok {r : Rl} {nl : Nl} {ls : List Sg} (v : Vd r ls) : ∃ out, R tc 148 [vR r, lst nl ls] = some (lst .any out) ∧ NumsR r ls r.s.length out := by
  have v0 := v
  obtain ⟨g, hs, hl, _, hly, hhs⟩ := v
  have hm := g.mul
  obtain ⟨w0, w1, h0, h1, ls1, ld1, rg⟩ := id g
  obtain ⟨W, rw1⟩ : ∃ W : Nat, r.w = W := ⟨r.w.toNat, by omega⟩
  obtain ⟨H, rh1⟩ : ∃ H : Nat, r.h = H := ⟨r.h.toNat, by omega⟩
  rw [rw1] at w0 w1
  rw [rh1] at h0 h1
  have hM : r.s.length = W * H := by
    rw [rw1, rh1] at ls1
    have : ((W : Int) * (H : Int)) = ((W * H : Nat) : Int) := by push_cast; rfl
    omega
  have hWH : r.w * r.h = (r.s.length : Int) := ls1.symm
  obtain ⟨M, hMd⟩ : ∃ M, M = r.s.length := ⟨_, rfl⟩
  rw [← hMd] at hM hWH ⊢
  have hsl : r.s.length = M := hMd.symm
  have hM1 : M ≤ 1024 := by omega
  have h4W : 4 ≤ W := by omega
  obtain ⟨v, h1', out, rfl, h2⟩ := R_exB (T := tc) (f := 148) (F := pf148) (args := [vR r, lst nl ls]) (Rq := fun v => ∃ out, v = lst .any out ∧ NumsR r ls M out) (tc_nat _ rfl) rfl rfl (by
    simp (disch := first | omega | with_unfolding_all rfl) [pf148, env0_eq, rw1, rh1, hsl]
    have hn6 : (6 * (M : Int)).toNat = 6 * M := by omega
    have hn24 : (24 * (M : Int)).toNat = 24 * M := by omega
    simp only [hn6]
    refine G_loopK [1, 2, 5, 6] (fun (i : Nat) e h => i ≤ 6 * M ∧ get e 7 = .int .i64 (i : Int) ∧ ∃ out, h = [bk 3 0 out] ∧ out.length = 6 * M ∧ ∀ j, j < i → out[j]? = some (-1)) (fun i => 6 * M - i) (a₀ := 0) ⟨by omega, by simp, _, rfl, by simp, fun j hj => by omega⟩ ?_
    rintro i e h hk ⟨hi, g7, out, rfl, hlo, hsp⟩
    simp at hk
    simp (disch := first | omega | with_unfolding_all rfl) [hk, g7]
    refine G_brd (fun c => ?_) (fun c => ?_)
    · simp (disch := first | omega | with_unfolding_all rfl) [hk, g7, c]
      refine ⟨i + 1, by omega, by omega, by omega, out.set i (-1), rfl, by simp [hlo], fun j hj => ?_⟩
      by_cases e : i = j
      · subst e; exact List.getElem?_set_self (by omega)
      · rw [List.getElem?_set_ne e]; exact hsp j (by omega)
    have hi6 : i = 6 * M := by omega
    rw [hi6] at hsp
    simp (disch := first | omega | with_unfolding_all rfl) [hk, g7, c, hn24]
    refine G_loopK [1, 2, 6, 8] (fun (i : Nat) e h => i ≤ ls.length ∧ get e 9 = .int .i64 (i : Int) ∧ ∃ cut, h = [bk 3 0 out, bk 4 0 cut] ∧ cut.length = 24 * M ∧ ∀ j, j < 24 * M → cut[j]? = some (cutAt ls i j)) (fun i => ls.length - i) (a₀ := 0) ⟨by omega, by simp, _, rfl, by simp, fun j hj => by simp [cutAt, hj]⟩ ?_
    rintro i e h hk ⟨hi, g9, cut, rfl, hlc, hcu⟩
    simp at hk
    simp (disch := first | omega | with_unfolding_all rfl) [hk, g9]
    refine G_brd (fun c => ?_) (fun c => ?_)
    · have hil : i < ls.length := by omega
      obtain ⟨x, hx⟩ : ∃ x, x = ls[i] := ⟨_, rfl⟩
      have hmem : x ∈ ls := by rw [hx]; exact List.getElem_mem hil
      have hxl := lie_lt (hly x hmem)
      have hxh := has_lt (hhs x hmem)
      rw [hWH] at hxl
      obtain ⟨z, hz⟩ : ∃ z : Nat, (z : Int) = (x.t * 6 + x.p) * 4 + x.o := ⟨((x.t * 6 + x.p) * 4 + x.o).toNat, by omega⟩
      have hz24 : z < 24 * M := by omega
      simp (disch := first | omega | with_unfolding_all rfl) [hk, g9, c, ← hx, ← hz]
      refine ⟨i + 1, by omega, by omega, by omega, cut.set z true, rfl, by simp [hlc], fun j hj => ?_⟩
      rw [cutAt_succ hil, ← hx, ← hz]
      by_cases e : z = j
      · subst e; rw [List.getElem?_set_self (by omega)]; simp
      · rw [List.getElem?_set_ne e, hcu j hj]
        have : ¬ (z : Int) = (j : Int) := by omega
        simp [this]
    have hie : i = ls.length := by omega
    rw [hie] at hcu
    have hcs : ∀ k s : Nat, k < 6 * M → s < 4 → cut[k * 4 + s]? = some (sgn ls ((k : Int) / 6) ((k : Int) % 6) s) := fun k s h1 h2 => by
      rw [hcu _ (by omega), cutAt_sgn v0 h2]
    have hO0 : Oinv r ls M 0 out := ⟨hlo, fun j hj _ => hsp j hj, fun j hj _ => by
      obtain ⟨m, hm⟩ := exNum (EE r ls) (to8 j)
      refine ⟨m, hm, ?_⟩
      rw [if_neg (by simp [to8]), hsp j hj]⟩
    simp (disch := first | omega | with_unfolding_all rfl) [hk, g9, c]
    refine G_loopK [2, 6, 8] (fun (i : Nat) e h => i ≤ 6 * M ∧ get e 10 = .int .i64 (i : Int) ∧ OuI r ls M i cut h) (fun i => 6 * M - i) (a₀ := 0) ⟨by omega, by simp, by simp, rfl, out, rfl, hO0⟩ ?_
    clear hO0 hsp hlo out hcu hie
    rintro i e h hk ⟨hi, g10, hh2, hh1, out, hh0, hO⟩
    simp at hk
    have hlo := hO.len
    have hg0 : h[0] = bk 3 0 out := (List.getElem?_eq_some_iff.1 hh0).2
    have hg1 : h[1] = bk 4 0 cut := (List.getElem?_eq_some_iff.1 hh1).2
    simp (disch := first | omega | with_unfolding_all rfl) [hk, g10]
    refine G_brd (fun c => ?_) (fun c => ?_)
    · have hin : i < 6 * M := by omega
      obtain ⟨v, hv⟩ : ∃ v, v = out[i] := ⟨_, rfl⟩
      have q6 : (i : Int).tdiv 6 = (i : Int) / 6 := rfl
      have r6 : (i : Int).tmod 6 = (i : Int) % 6 := rfl
      have l1 := refLies_ok g ((i : Int) / 6) ((i : Int) % 6)
      simp only [vR, rw1, rh1] at l1
      rw [show lie r ((i : Int) / 6) ((i : Int) % 6) = lie6 r i from rfl] at l1
      have hv? : out[i]? = some v := by rw [hv, List.getElem?_eq_getElem (by omega)]
      simp (disch := first | omega | with_unfolding_all rfl) [hk, g10, c, hg0, ← hv, q6, r6, l1]
      by_cases c1 : 0 ≤ v
      · have nO := hO.skip rw1 rh1 hM h4W (.inr ⟨v, hv?, c1⟩)
        simp (disch := first | omega | with_unfolding_all rfl) [hk, g10, c1, hg0, q6, r6, l1]
        exact ⟨i + 1, by omega, by omega, by omega, hh2, hh1, out, hh0, nO⟩
      cases c2 : lie6 r i
      · have nO := hO.skip rw1 rh1 hM h4W (.inl c2)
        simp (disch := first | omega | with_unfolding_all rfl) [hk, g10, c1, c2, hg0, q6, r6, l1]
        exact ⟨i + 1, by omega, by omega, by omega, hh2, hh1, out, hh0, nO⟩
      have hown := hO.own hin c2 (by rintro ⟨v', a, b⟩; rw [hv?, Option.some.injEq] at a; omega)
      have hF := Fl.start (W := W) (H := H) hO hin c2
      have hto : (i : Int) / 6 * 8 + (i : Int) % 6 = (to8 i : Int) := by unfold to8; omega
      simp (disch := first | omega | with_unfolding_all rfl) [hk, g10, c1, c2, hg0, q6, r6, l1, hto]
      refine G_loopK [2, 6, 8, 10] (fun (a : List Int × Nat) e hh => SpI r ls W H M i out cut a (get e 11) hh) (fun a => 2 * cnt a.1 + a.2) (a₀ := (out.set i (to8 i : Int), 1)) ?_ ?_
      · refine ⟨h.length, 0, [i], by simp, by omega, by simp, ?_, ?_, by simp [ic]; rfl, by simp, ?_, ?_⟩
        · rw [List.getElem?_append_left (by simp; omega), List.getElem?_set_self (by omega)]
        · rw [List.getElem?_append_left (by simp; omega), List.getElem?_set_ne (by omega)]; exact hh1
        · have := cnt_le (out.set i (to8 i : Int))
          simp [hlo] at this
          dsimp only; omega
        · have : (fun j => j ∈ List.take 1 [i]) = fun j => j = i := by funext j; simp
          dsimp only
          rw [this]; exact hF
      rintro ⟨o1, tl⟩ e1 hh hk1 ⟨tb, gn, tx, g11, htb, htl, hb0, hb1, hbt, hlt, hms, hF1⟩
      simp at hk1
      dsimp only at hb0 hlt hms hF1 g11
      have hg0' : hh[0] = bk 3 0 o1 := (List.getElem?_eq_some_iff.1 hb0).2
      have hg1' : hh[1] = bk 4 0 cut := (List.getElem?_eq_some_iff.1 hb1).2
      have hgt' : hh[tb] = bk 3 gn (ic tx) := (List.getElem?_eq_some_iff.1 hbt).2
      simp (disch := first | omega | with_unfolding_all rfl) [hk1, g11]
      refine G_brd (fun d => ?_) (fun d => ?_)
      · have htl1 : tl - 1 < tx.length := by omega
        have hitl : (tl : Int) - 1 = ((tl - 1 : Nat) : Int) := by omega
        obtain ⟨k, hkd⟩ : ∃ k, k = tx[tl - 1] := ⟨_, rfl⟩
        have hkmem : k ∈ tx.take tl := by
          rw [List.mem_take_iff_getElem]
          exact ⟨tl - 1, by omega, hkd.symm⟩
        obtain ⟨hk6, hko⟩ := hF1.pin k hkmem
        have htk : (ic tx)[tl - 1]'(by simpa using htl1) = (k : Int) := by rw [ic_get htl1, hkd]
        have htk' : ∀ q, (ic tx)[tl - 1]'q = (k : Int) := fun _ => htk
        have icl : (ic tx).length = tx.length := by simp
        have k6 : (k : Int).tdiv 6 = (k : Int) / 6 := rfl
        have m6 : (k : Int).tmod 6 = (k : Int) % 6 := rfl
        have hsl1 : evSlc 1 (mls Int tb gn tl) none (some (.int .i64 ((tl - 1 : Nat) : Int))) none = some (mls Int tb gn (tl - 1)) := by
          rw [evSlc_mls (by omega) (by omega)]; simp
        simp (disch := first | omega | with_unfolding_all rfl) [hk1, g11, d, hitl, hgt', htk', hsl1, k6, m6]
        have hcg : ∀ B : Blk, (hh ++ [B])[hh.length]? = some B := fun B => List.getElem?_concat_length ..
        have hcst : ∀ B B' : Blk, (hh ++ [B]).set hh.length B' = hh ++ [B'] := fun B B' => by
          rw [List.set_append_right _ _ (Nat.le_refl _)]; simp
        have hc1 : ∀ B : Blk, (hh ++ [B])[1]? = some (bk 4 0 cut) := fun B => by rw [List.getElem?_append_left (by omega)]; exact hb1
        have hc1' : ∀ (B : Blk) q, (hh ++ [B])[1]'q = bk 4 0 cut := fun B q => by have := hc1 B; rw [List.getElem?_eq_getElem q, Option.some.injEq] at this; exact this
        have kr : 0 ≤ (k : Int) / 6 ∧ (k : Int) / 6 < M ∧ 0 ≤ (k : Int) % 6 ∧ (k : Int) % 6 < 6 := by omega
        refine G_loopK [2, 6, 8, 10, 11, 12, 13, 14] (fun (Q : Nat) e h => Q ≤ 6 ∧ get e 16 = .int .i64 (Q : Int) ∧ ∃ nr, get e 15 = mls Int hh.length nr.length nr.length ∧ h = hh ++ [bk 3 nr.length (ic nr)] ∧ nr.length ≤ Q ∧ ∀ x, x ∈ nr ↔ NrT r k Q x) (fun Q => 6 - Q) (a₀ := 0) ?_ ?_
        · refine ⟨by omega, by simp, [], by simp, rfl, by simp, fun x => ⟨fun q => by simp at q, fun ⟨q, h, _⟩ => by omega⟩⟩
        rintro Q e2 h2 hk2 ⟨hQ, g16, nr, g15, rfl, hnl, hnr⟩
        simp at hk2
        simp (disch := first | omega | with_unfolding_all rfl) [hk2, g15, g16]
        refine G_brd (fun d1 => ?_) (fun d1 => ?_)
        · have hQ6 : Q < 6 := by omega
          have t1 := touch_ok (p := (k : Int) % 6) (q := (Q : Int)) (by omega) (by omega)
          have l2 := refLies_ok g ((k : Int) / 6) (Q : Int)
          simp only [vR, rw1, rh1] at l2
          have nxt : (decide ((k : Int) % 6 ≠ (Q : Int)) && !prt ((k : Int) % 6) Q && lie r ((k : Int) / 6) Q) = false → ∀ x, x ∈ nr ↔ NrT r k (Q + 1) x := fun hf x => by
            rw [hnr]
            constructor
            · rintro ⟨q, a1, a2⟩; exact ⟨q, by omega, a2⟩
            · rintro ⟨q, a1, a2, a3, a4, a5, a6⟩
              by_cases eq : q = Q
              · subst eq
                have a3' : (k : Int) % 6 ≠ (q : Int) := by omega
                simp [a3', a4, a5] at hf
              · exact ⟨q, by omega, a2, a3, a4, a5, a6⟩
          have nxt2 : (decide ((k : Int) % 6 ≠ (Q : Int)) && !prt ((k : Int) % 6) Q && lie r ((k : Int) / 6) Q) = true → ∀ x, x ∈ nr ++ [k / 6 * 6 + Q] ↔ NrT r k (Q + 1) x := fun ht x => by
            simp at ht
            rw [List.mem_append, List.mem_singleton, hnr]
            constructor
            · rintro (⟨q, a1, a2⟩ | rfl)
              · exact ⟨q, by omega, a2⟩
              · exact ⟨Q, by omega, hQ6, by omega, ht.1.2, ht.2, rfl⟩
            · rintro ⟨q, a1, a2, a3, a4, a5, a6⟩
              by_cases eq : q = Q
              · subst eq; exact .inr a6
              · exact .inl ⟨q, by omega, a2, a3, a4, a5, a6⟩
          obtain ⟨b1, hb1d⟩ : ∃ b1, b1 = (decide ((k : Int) % 6 ≠ (Q : Int)) && !prt ((k : Int) % 6) Q) := ⟨_, rfl⟩
          obtain ⟨b2, hb2d⟩ : ∃ b2, b2 = lie r ((k : Int) / 6) Q := ⟨_, rfl⟩
          rw [← hb1d] at t1
          rw [← hb1d, ← hb2d] at nxt nxt2
          rw [← hb2d] at l2
          simp (disch := first | omega | with_unfolding_all rfl) [hk2, g15, g16, d1, t1]
          cases b1
          · simp (disch := first | omega | with_unfolding_all rfl) [hk2, g15, g16]
            exact ⟨Q + 1, by omega, by omega, by omega, nr, rfl, ⟨rfl, rfl⟩, by omega, nxt rfl⟩
          cases b2
          · simp (disch := first | omega | with_unfolding_all rfl) [hk2, g15, g16, l2]
            exact ⟨Q + 1, by omega, by omega, by omega, nr, rfl, ⟨rfl, rfl⟩, by omega, nxt rfl⟩
          have icn : (ic nr).length = nr.length := by simp
          have ex : (k : Int) / 6 * 6 + (Q : Int) = ((k / 6 * 6 + Q : Nat) : Int) := by omega
          simp (disch := first | omega | with_unfolding_all rfl) [hk2, g15, g16, l2, hcg, hcst]
          exact ⟨Q + 1, by omega, by omega, by omega, nr ++ [k / 6 * 6 + Q], by simp, ⟨by simp, by rw [ex, ic_app]⟩, by simp; omega, nxt2 rfl⟩
        have hQ6 : Q = 6 := by omega
        rw [hQ6] at hnr hnl
        simp (disch := first | omega | with_unfolding_all rfl) [hk2, g15, g16, d1]
        refine G_loopK [2, 6, 8, 10, 11, 12, 13, 14] (fun (S : Nat) e h => S ≤ 4 ∧ get e 17 = .int .i64 (S : Int) ∧ ∃ nr, get e 15 = mls Int hh.length nr.length nr.length ∧ h = hh ++ [bk 3 nr.length (ic nr)] ∧ nr.length ≤ 6 + 6 * S ∧ ∀ x, x ∈ nr ↔ NrT r k 6 x ∨ NrS r ls W H k S x) (fun S => 4 - S) (a₀ := 0) ?_ ?_
        · refine ⟨by omega, by simp, nr, by simp [g15], rfl, by omega, fun x => ?_⟩
          rw [hnr]
          exact ⟨.inl, fun q => q.resolve_right (by rintro ⟨s, hs, _⟩; omega)⟩
        clear hnr hnl g15
        rintro S e3 h3 hk3 ⟨hS, g17, nr, g15, rfl, hnl, hnr⟩
        simp at hk3
        simp (disch := first | omega | with_unfolding_all rfl) [hk3, g15, g17]
        refine G_brd (fun d2 => ?_) (fun d2 => ?_)
        · have hS4 : S < 4 := by omega
          have kdN : ((k / 6 : Nat) : Int) = (k : Int) / 6 := by omega
          have hbey := bey_ok (W := W) (H := H) (t := k / 6) (s := (S : Int)) (by omega) (by omega) (by rw [← hM]; omega)
          rw [kdN] at hbey
          have l3 := has_ok ((k : Int) % 6) (S : Int)
          obtain ⟨z, hz⟩ : ∃ z, z = k * 4 + S := ⟨_, rfl⟩
          have hidx : (k : Int) * 4 + (S : Int) = (z : Int) := by omega
          have hcq : ∀ q, cut[z]'q = sgn ls ((k : Int) / 6) ((k : Int) % 6) S := fun q => by
            have := hcs k S hk6 hS4
            rw [← hz] at this
            rw [List.getElem?_eq_getElem q, Option.some.injEq] at this
            exact this
          have no : ¬ (has ((k : Int) % 6) S = true ∧ sgn ls ((k : Int) / 6) ((k : Int) % 6) S = false ∧ 0 ≤ bey W H (k / 6) S) → ∀ x, x ∈ nr ↔ NrT r k 6 x ∨ NrS r ls W H k (S + 1) x := fun hno x => by
            rw [hnr]
            constructor
            · rintro (q | ⟨s, a1, a2⟩)
              · exact .inl q
              · exact .inr ⟨s, by omega, a2⟩
            · rintro (q | ⟨s, a1, a2, a3, a4, u, a5, a6⟩)
              · exact .inl q
              · by_cases es : s = S
                · subst es
                  exact absurd ⟨a3, a4, by rw [a5]; omega⟩ hno
                · exact .inr ⟨s, by omega, a2, a3, a4, u, a5, a6⟩
          obtain ⟨c1, hc1d⟩ : ∃ c1, c1 = has ((k : Int) % 6) S := ⟨_, rfl⟩
          obtain ⟨c2, hc2d⟩ : ∃ c2, c2 = sgn ls ((k : Int) / 6) ((k : Int) % 6) S := ⟨_, rfl⟩
          obtain ⟨ub, hub⟩ : ∃ ub, ub = bey W H (k / 6) S := ⟨_, rfl⟩
          rw [← hub] at hbey no
          rw [← hc1d] at l3 no
          rw [← hc2d] at hcq no
          simp (disch := first | omega | with_unfolding_all rfl) [hk3, g15, g17, d2, hbey, l3]
          cases c1
          · simp (disch := first | omega | with_unfolding_all rfl) [hk3, g15, g17]
            exact ⟨S + 1, by omega, by omega, by omega, nr, rfl, ⟨rfl, rfl⟩, by omega, no (by simp)⟩
          simp (disch := first | omega | with_unfolding_all rfl) [hk3, g15, g17, hc1, hc1', hidx, hcq]
          cases c2
          case true =>
            simp (disch := first | omega | with_unfolding_all rfl) [hk3, g15, g17]
            exact ⟨S + 1, by omega, by omega, by omega, nr, rfl, ⟨rfl, rfl⟩, by omega, no (by simp)⟩
          by_cases c3 : ub < 0
          · simp (disch := first | omega | with_unfolding_all rfl) [hk3, g15, g17, c3]
            exact ⟨S + 1, by omega, by omega, by omega, nr, rfl, ⟨rfl, rfl⟩, by omega, no (by simp; omega)⟩
          obtain ⟨u, rfl⟩ : ∃ u : Nat, ub = u := ⟨ub.toNat, by omega⟩
          simp (disch := first | omega | with_unfolding_all rfl) [hk3, g15, g17, c3]
          have yes : has ((k : Int) % 6) S = true ∧ sgn ls ((k : Int) / 6) ((k : Int) % 6) S = false := ⟨hc1d.symm, hc2d.symm⟩
          refine G_loopK [2, 6, 8, 10, 11, 12, 13, 14, 17, 18] (fun (Q : Nat) e h => Q ≤ 6 ∧ get e 19 = .int .i64 (Q : Int) ∧ ∃ nr, get e 15 = mls Int hh.length nr.length nr.length ∧ h = hh ++ [bk 3 nr.length (ic nr)] ∧ nr.length ≤ 6 + 6 * S + Q ∧ ∀ x, x ∈ nr ↔ (NrT r k 6 x ∨ NrS r ls W H k S x) ∨ NrQ r ls W H k S Q x) (fun Q => 6 - Q) (a₀ := 0) ?_ ?_
          · refine ⟨by omega, by simp, nr, by simp [g15], rfl, by omega, fun x => ?_⟩
            rw [hnr]
            exact ⟨.inl, fun q => q.resolve_right (by rintro ⟨_, _, u', _, q, hq, _⟩; omega)⟩
          clear hnr hnl g15
          rintro Q e4 h4 hk4 ⟨hQ, g19, nr, g15, rfl, hnl, hnr⟩
          simp at hk4
          simp (disch := first | omega | with_unfolding_all rfl) [hk4, g15, g19]
          refine G_brd (fun d3 => ?_) (fun d3 => ?_)
          · have hQ6 : Q < 6 := by omega
            have f1 := refLies_ok g (u : Int) (Q : Int)
            simp only [vR, rw1, rh1] at f1
            have f2 := has_ok (Q : Int) (((S : Int) + 2).tmod 4)
            obtain ⟨s2, hs2⟩ : ∃ s2 : Nat, (s2 : Int) = ((S : Int) + 2).tmod 4 := ⟨(S + 2) % 4, rfl⟩
            rw [← hs2] at f2
            have hs24 : s2 < 4 := by have := Nat.mod_lt (S + 2) (show 0 < 4 by omega); have : (s2 : Int) = ((S + 2) % 4 : Nat) := hs2; omega
            have noQ : (lie r u Q && has Q s2 && !sgn ls u Q s2) = false → ∀ x, x ∈ nr ↔ (NrT r k 6 x ∨ NrS r ls W H k S x) ∨ NrQ r ls W H k S (Q + 1) x := fun hf x => by
              rw [hnr]
              constructor
              · rintro (q | ⟨a1, a2, u', a3, q, a4, a5⟩)
                · exact .inl q
                · exact .inr ⟨a1, a2, u', a3, q, by omega, a5⟩
              · rintro (q | ⟨a1, a2, u', a3, q, a4, a5, a6, a7, a8, a9⟩)
                · exact .inl q
                · have hu' : u' = u := by omega
                  by_cases eq : q = Q
                  · subst eq hu'
                    rw [← hs2] at a7 a8
                    simp [a6, a7, a8] at hf
                  · exact .inr ⟨a1, a2, u', a3, q, by omega, a5, a6, a7, a8, a9⟩
            have yesQ : (lie r u Q && has Q s2 && !sgn ls u Q s2) = true → ∀ x, x ∈ nr ++ [u * 6 + Q] ↔ (NrT r k 6 x ∨ NrS r ls W H k S x) ∨ NrQ r ls W H k S (Q + 1) x := fun ht x => by
              simp at ht
              rw [List.mem_append, List.mem_singleton, hnr]
              constructor
              · rintro ((q | ⟨a1, a2, u', a3, q, a4, a5⟩) | rfl)
                · exact .inl q
                · exact .inr ⟨a1, a2, u', a3, q, by omega, a5⟩
                · exact .inr ⟨yes.1, yes.2, u, hub.symm, Q, by omega, hQ6, ht.1.1, by rw [← hs2]; exact ht.1.2, by rw [← hs2]; exact ht.2, rfl⟩
              · rintro (q | ⟨a1, a2, u', a3, q, a4, a5, a6, a7, a8, a9⟩)
                · exact .inl (.inl q)
                · have hu' : u' = u := by omega
                  by_cases eq : q = Q
                  · subst eq hu'
                    exact .inr a9
                  · exact .inl (.inr ⟨a1, a2, u', a3, q, by omega, a5, a6, a7, a8, a9⟩)
            obtain ⟨b1, hb1d⟩ : ∃ b1, b1 = lie r u Q := ⟨_, rfl⟩
            obtain ⟨b2, hb2d⟩ : ∃ b2, b2 = has Q s2 := ⟨_, rfl⟩
            rw [← hb1d] at f1
            rw [← hb1d, ← hb2d] at noQ yesQ
            rw [← hb2d] at f2
            simp (disch := first | omega | with_unfolding_all rfl) [hk4, g15, g19, d3, f1]
            cases b1
            · simp (disch := first | omega | with_unfolding_all rfl) [hk4, g15, g19]
              exact ⟨Q + 1, by omega, by omega, by omega, nr, rfl, ⟨rfl, rfl⟩, by omega, noQ rfl⟩
            have huM := lie_lt hb1d.symm
            rw [hWH] at huM
            simp (disch := first | omega | with_unfolding_all rfl) [hk4, g15, g19, ← hs2, f2]
            cases b2
            · simp (disch := first | omega | with_unfolding_all rfl) [hk4, g15, g19]
              exact ⟨Q + 1, by omega, by omega, by omega, nr, rfl, ⟨rfl, rfl⟩, by omega, noQ rfl⟩
            obtain ⟨z2, hz2⟩ : ∃ z2, z2 = (u * 6 + Q) * 4 + s2 := ⟨_, rfl⟩
            have hidx2 : ((u : Int) * 6 + (Q : Int)) * 4 + (s2 : Int) = (z2 : Int) := by omega
            have hcq2 : ∀ q, cut[z2]'q = sgn ls (u : Int) (Q : Int) s2 := fun q => by
              have := hcs (u * 6 + Q) s2 (by omega) hs24
              rw [← hz2, List.getElem?_eq_getElem q, Option.some.injEq] at this
              rw [this]
              congr 1 <;> omega
            obtain ⟨b3, hb3d⟩ : ∃ b3, b3 = sgn ls (u : Int) (Q : Int) s2 := ⟨_, rfl⟩
            rw [← hb3d] at hcq2 noQ yesQ
            simp (disch := first | omega | with_unfolding_all rfl) [hk4, g15, g19, ← hs2, f2, hc1, hc1', hidx2, hcq2]
            cases b3
            case true =>
              simp (disch := first | omega | with_unfolding_all rfl) [hk4, g15, g19]
              exact ⟨Q + 1, by omega, by omega, by omega, nr, rfl, ⟨rfl, rfl⟩, by omega, noQ rfl⟩
            have icn : (ic nr).length = nr.length := by simp
            have ex : (u : Int) * 6 + (Q : Int) = ((u * 6 + Q : Nat) : Int) := by omega
            simp (disch := first | omega | with_unfolding_all rfl) [hk4, g15, g19, hcg, hcst]
            exact ⟨Q + 1, by omega, by omega, by omega, nr ++ [u * 6 + Q], by simp, ⟨by simp, by rw [ex, ic_app]⟩, by simp; omega, yesQ rfl⟩
          · have hQ6 : Q = 6 := by omega
            rw [hQ6] at hnr hnl
            simp (disch := first | omega | with_unfolding_all rfl) [hk4, g15, g19, d3]
            refine ⟨S + 1, by omega, by omega, by omega, nr, rfl, ⟨rfl, rfl⟩, by omega, fun x => ?_⟩
            rw [hnr]
            constructor
            · rintro ((q | ⟨s, a1, a2⟩) | q)
              · exact .inl q
              · exact .inr ⟨s, by omega, a2⟩
              · exact .inr ⟨S, by omega, hS4, q⟩
            · rintro (q | ⟨s, a1, a2, a3⟩)
              · exact .inl (.inl q)
              · by_cases es : s = S
                · subst es; exact .inr a3
                · exact .inl (.inr ⟨s, by omega, a2, a3⟩)
        · have hS4 : S = 4 := by omega
          rw [hS4] at hnr hnl
          have hnr' : ∀ x, x ∈ nr ↔ Nr r ls W H k x := hnr
          simp (disch := first | omega | with_unfolding_all rfl) [hk3, g15, g17, d2]
          have hne0 : ¬ (0 : Nat) = tb := by omega
          have hne1 : ¬ tb = 0 := by omega
          refine G_loopK [2, 6, 8, 10, 15] (fun (j : Nat) e h => j ≤ nr.length ∧ get e 20 = .int .i64 (j : Int) ∧ MkI r ls W H M i out o1 cut hh.length tb tl k nr j (get e 11) h) (fun j => nr.length - j) (a₀ := 0) ?_ ?_
          · refine ⟨by omega, by simp, o1, tl - 1, gn, tx, by simp, by simp, ?_, hc1 _, ?_, hcg _, by omega, by omega, hF1.pend (fun x hx => ?_) (fun x hx => .inl ?_), fun j' x hj => by omega⟩
            · rw [List.getElem?_append_left (by omega)]; exact hb0
            · rw [List.getElem?_append_left (by omega)]; exact hbt
            · rcases hx with hx | rfl
              · exact (List.take_prefix_take_left (show tl - 1 ≤ tl by omega)).subset hx
              · exact hkmem
            · have : tx.take tl = tx.take (tl - 1) ++ [k] := by
                have e1 : tl = tl - 1 + 1 := by omega
                conv => lhs; rw [e1]
                rw [List.take_add_one, List.getElem?_eq_getElem htl1, ← hkd]; rfl
              rw [this, List.mem_append, List.mem_singleton] at hx
              exact hx
          rintro j e5 h5 hk5 ⟨hj, g20, o2, tl2, g2, tx2, g11', hl5, hp0, hp1, hpt, hpn, hl2, hm2, hF2, hdone⟩
          simp at hk5
          have e0 : h5[0] = bk 3 0 o2 := (List.getElem?_eq_some_iff.1 hp0).2
          have et : h5[tb] = bk 3 g2 (ic tx2) := (List.getElem?_eq_some_iff.1 hpt).2
          have en : h5[hh.length] = bk 3 nr.length (ic nr) := (List.getElem?_eq_some_iff.1 hpn).2
          have hl0 := hF2.len
          simp (disch := first | omega | with_unfolding_all rfl) [hk5, g20, g11']
          refine G_brd (fun d4 => ?_) (fun d4 => ?_)
          · have hjn : j < nr.length := by omega
            obtain ⟨x, hx⟩ : ∃ x, x = nr[j] := ⟨_, rfl⟩
            have hxm : x ∈ nr := by rw [hx]; exact List.getElem_mem hjn
            have hxn := (hnr' x).1 hxm
            have hklie : lie6 r k = true := by
              obtain ⟨a1, a2⟩ := hF2.pin k (.inr rfl)
              rcases hF2.cell k a1 with q | q
              · rw [q] at a2
                rcases hO.cell a1 with q' | ⟨m, q1, q2, _⟩
                · rw [q', Option.some.injEq] at a2; omega
                · rw [q2, Option.some.injEq] at a2; omega
              · exact q.2.1
            obtain ⟨hx6, hxl, _⟩ := nr_edge rw1 rh1 hM h4W hklie hxn
            have icn : (ic nr).length = nr.length := by simp
            have hnx : ∀ q, (ic nr)[j]'q = (x : Int) := fun q => by rw [ic_get hjn, hx]
            obtain ⟨w, hw⟩ : ∃ w, w = o2[x] := ⟨_, rfl⟩
            have hw? : o2[x]? = some w := by rw [hw, List.getElem?_eq_getElem]
            have hoi : ∀ q, o2[i]'q = (to8 i : Int) := fun q => by
              have := hF2.own
              rw [List.getElem?_eq_getElem q, Option.some.injEq] at this; exact this
            simp (disch := first | omega | with_unfolding_all rfl) [hk5, g20, g11', d4, e0, en, hnx, ← hw]
            refine G_brd (fun d5 => ?_) (fun d5 => ?_)
            · have ic2 : (ic tx2).length = tx2.length := by simp
              have hl0' : (o2.set x (to8 i : Int)).length = 6 * M := by simp [hl0]
              have hkn : ¬ hh.length = tb := by omega
              have hkn0 : ¬ hh.length = 0 := by omega
              have hkn0' : ¬ 0 = hh.length := by omega
              simp (disch := first | omega | with_unfolding_all rfl) [hk5, g20, g11', e0, en, et, hnx, ← hw, hoi, hne0, hne1, hkn, hkn0, hkn0', appB_cut]
              have htk1 : (tx2.take tl2 ++ [x]).take (tl2 + 1) = tx2.take tl2 ++ [x] := List.take_of_length_le (by simp; omega)
              refine ⟨j + 1, by omega, by omega, by omega, o2.set x (to8 i : Int), tl2 + 1, g2 + 1, tx2.take tl2 ++ [x], rfl, by simp [hl5], ?_, ?_, ?_, ?_, by simp; omega, ?_, ?_, ?_⟩
              · rw [List.getElem?_set_ne (by omega), List.getElem?_set_self (by omega)]
              · rw [List.getElem?_set_ne (by omega), List.getElem?_set_ne (by omega)]; exact hp1
              · rw [List.getElem?_set_self (by simp; omega), ic_take]
              · rw [List.getElem?_set_ne (by omega), List.getElem?_set_ne (by omega)]; exact hpn
              · have := cnt_set hw? d5 (show (0 : Int) ≤ (to8 i : Int) by omega)
                omega
              · refine (hF2.mark rw1 rh1 hM h4W hO (.inr rfl) hxn hw? d5).pend (fun y hy => ?_) (fun y hy => .inl ?_)
                · rw [htk1, List.mem_append, List.mem_singleton] at hy
                  rcases hy with (hy | hy) | hy
                  · exact .inl (.inl hy)
                  · exact .inr hy
                  · exact .inl (.inr hy)
                · rw [htk1, List.mem_append, List.mem_singleton]
                  rcases hy with (hy | hy) | hy
                  · exact .inl (.inl hy)
                  · exact .inr hy
                  · exact .inl (.inr hy)
              · intro j' y hj' hy
                by_cases exy : x = y
                · subst exy
                  exact ⟨_, List.getElem?_set_self (by omega), by omega⟩
                · rw [List.getElem?_set_ne exy]
                  refine hdone j' y ?_ hy
                  by_cases ej : j' = j
                  · subst ej
                    rw [List.getElem?_eq_getElem hjn, ← hx, Option.some.injEq] at hy
                    exact absurd hy exy
                  · omega
            · simp (disch := first | omega | with_unfolding_all rfl) [hk5, g20, g11']
              refine ⟨j + 1, by omega, by omega, by omega, o2, tl2, g2, tx2, rfl, hl5, hp0, hp1, hpt, hpn, hl2, hm2, hF2, fun j' y hj' hy => ?_⟩
              by_cases ej : j' = j
              · subst ej
                rw [List.getElem?_eq_getElem hjn, ← hx, Option.some.injEq] at hy
                subst hy
                exact ⟨w, hw?, by omega⟩
              · exact hdone j' y (by omega) hy
          · have hjn : j = nr.length := by omega
            simp (disch := first | omega | with_unfolding_all rfl) [hk5, g20, g11', d4]
            refine ⟨o2, tl2, by omega, tb, g2, tx2, rfl, htb, by omega, hp0, hp1, hpt, hl2, by dsimp only; omega, hF2.pend (fun y hy => .inl hy) fun y hy => ?_⟩
            rcases hy with hy | rfl
            · exact .inl hy
            · refine .inr fun x hx => ?_
              obtain ⟨j', hj', e⟩ := List.getElem_of_mem ((hnr' x).2 hx)
              exact hdone j' x (by omega) (by rw [List.getElem?_eq_getElem hj', e])
      · have htl0 : tl = 0 := by omega
        subst htl0
        simp (disch := first | omega | with_unfolding_all rfl) [hk1, g11, d]
        exact ⟨i + 1, by omega, by omega, by omega, by omega, hb1, o1, hb0, (hF1.pend (fun y hy => hy.elim) (fun y hy => by simp at hy)).fin rw1 rh1 hM h4W hO hown hin c2⟩
    · have hi6 : i = 6 * M := by omega
      simp (disch := first | omega | with_unfolding_all rfl) [hk, g10, c, hg0]
      refine ⟨out, rfl, hlo, hO.off, fun j hj hl => ?_⟩
      obtain ⟨m, h1, h2⟩ := hO.on j hj hl
      refine ⟨m, h1, ?_⟩
      obtain ⟨x, hx, _, rfl⟩ := cn_lies rw1 rh1 hM h4W hj hl h1.1
      rw [if_pos (to8_lt.2 (by omega))] at h2
      exact h2)
  exact ⟨out, h1', h2⟩
end Go.Proofs.YtiaeckidlmoohaaGreat
end
section
set_option linter.unusedVariables false
set_option linter.unusedSimpArgs false
set_option maxHeartbeats 8000000
set_option maxRecDepth 20000
namespace Go.Proofs.YtiaeckidlmoohaaGreat
open Go.Proofs.YtiaeckidlmoohaaGreat.PM
noncomputable def numL (r : Rl) (ls : List Sg) : List Int := open Classical in if h : ∃ out, Nums r ls out then h.choose else []
theorem nums_is {r : Rl} {ls : List Sg} (v : Vd r ls) : Nums r ls (numL r ls) := by
  obtain ⟨out, _, h⟩ := numbers_ok (nl := .any) v
  unfold numL
  rw [dif_pos ⟨out, h⟩]
  exact Exists.choose_spec (p := fun out => Nums r ls out) ⟨out, h⟩
theorem nums_ok {r : Rl} {nl : Nl} {ls : List Sg} (v : Vd r ls) : R tc 163 [vR r, lst nl ls] = some (lst .any (numL r ls)) := by
  obtain ⟨out, h1, h2⟩ := numbers_ok (nl := nl) v
  rw [h1, h2.uniq (nums_is v)]
theorem num_len {r : Rl} {ls : List Sg} (v : Vd r ls) : (numL r ls).length = 8 * r.s.length := by
  have h1 := (nums_is v).len
  have h2 := v.g.ls
  omega
theorem edge_lies {r : Rl} {ls : List Sg} {x y : Nat} (g : Good r) (h : EE r ls x y ∨ EE r ls y x) : lie r ((y : Int) / 8) ((y : Int) % 8) = true := by
  have key : ∀ t p : Nat, p < 6 → lie r t p = true → lie r (((8 * t + p : Nat) : Int) / 8) (((8 * t + p : Nat) : Int) % 8) = true := by
    intro t p hp hl
    have e1 : ((8 * t + p : Nat) : Int) / 8 = (t : Int) := by omega
    have e2 : ((8 * t + p : Nat) : Int) % 8 = (p : Int) := by omega
    rw [e1, e2]; exact hl
  rcases h with ⟨t, ht, h⟩ | ⟨t, ht, h⟩
  · rcases h with ⟨p, q, _, hqp, hp6, hl, hlq, hpr, rfl, rfl⟩ | ⟨c, p, q, _, hp6, hq6, hl, hh, hs, hlq, hhq, hsq, rfl, rfl⟩ | ⟨c, p, q, _, hp6, hq6, hl, hh, hs, hlq, hhq, hsq, rfl, rfl⟩
    · exact key _ _ (by omega) hlq
    · exact key _ _ (by omega) hlq
    · exact key _ _ (by omega) hlq
  · rcases h with ⟨p, q, _, hqp, hp6, hl, hlq, hpr, rfl, rfl⟩ | ⟨c, p, q, _, hp6, hq6, hl, hh, hs, hlq, hhq, hsq, rfl, rfl⟩ | ⟨c, p, q, _, hp6, hq6, hl, hh, hs, hlq, hhq, hsq, rfl, rfl⟩
    · exact key _ _ (by omega) hl
    · exact key _ _ (by omega) hl
    · exact key _ _ (by omega) hl
theorem cn_lies8 {r : Rl} {ls : List Sg} {x y : Nat} (g : Good r) (h : Cn (EE r ls) x y) (hx : lie r ((x : Int) / 8) ((x : Int) % 8) = true) : lie r ((y : Int) / 8) ((y : Int) % 8) = true := by
  cases h with
  | refl => exact hx
  | step _ e => exact edge_lies g e
theorem nums_nm {r : Rl} {ls : List Sg} {out : List Int} (g : Good r) (h : Nums r ls out) : Nm out := by
  have hm := g.mul
  refine ⟨by have := h.len; omega, fun i hi => ?_⟩
  cases c : lie r ((i : Int) / 8) ((i : Int) % 8)
  · left
    have := h.off i hi c
    simp [this]
  · right
    obtain ⟨m, h1, h2⟩ := h.on i hi c
    have hmi : m ≤ i := h2.2 _ (.refl _)
    have hlm := cn_lies8 g h2.1 c
    obtain ⟨m', h3, h4⟩ := h.on m (by omega) hlm
    have : m' = m := h4.uniq (h2.of_cn h2.1)
    subst this
    exact ⟨m', by simp [h1], hmi, by simp [h3]⟩
noncomputable def blks (r : Rl) (ls : List Sg) : List Pt := prt8 (numL r ls) (numL r ls).length
theorem blocks_ok (r : Rl) (nl : Nl) (ls : List Sg) (hb : r.s.length ≤ 3000) (hl : ls.length ≤ 10000) : R tc 145 [vR r, lst nl ls] = some (if valErr r ls = 0 then .tup [lst .any (blks r ls), .int .i64 0] else .tup [.list .nil 2 [], .int .i64 (valErr r ls)]) := by
  have h19 := validate_ok r nl ls hb hl
  refine R_of_G (F := pf145) (tc_nat _ rfl) rfl rfl ?_
  simp (disch := first | omega | with_unfolding_all rfl) [pf145, env0_eq, h19]
  by_cases h : valErr r ls = 0
  · have v := vd_of h
    have h58 := nums_ok (nl := nl) v
    have h57 := parts_ok (nl := .any) (nums_nm v.g (nums_is v))
    simp (disch := first | omega | with_unfolding_all rfl) [h, h58, h57, blks]
  · simp (disch := first | omega | with_unfolding_all rfl) [h]
theorem numsR_eq {r : Rl} {ls : List Sg} (v : Vd r ls) {out : List Int} (h : NumsR r ls r.s.length out) {j : Nat} (hj : j < 6 * r.s.length) : out[j]? = (numL r ls)[to8 j]? ∧ (lie6 r j = false → out[j]? = some (-1)) := by
  have hn := nums_is v
  have hl := num_len v
  have e1 : ((to8 j : Nat) : Int) / 8 = (j : Int) / 6 := by unfold to8; omega
  have e2 : ((to8 j : Nat) : Int) % 8 = (j : Int) % 6 := by unfold to8; omega
  have h8 : to8 j < (numL r ls).length := by unfold to8; omega
  refine ⟨?_, h.off j hj⟩
  cases c : lie6 r j
  · rw [h.off j hj c, hn.off _ h8 (by rw [e1, e2]; exact c)]
  · obtain ⟨m, h1, h2⟩ := h.on j hj c
    obtain ⟨m', h3, h4⟩ := hn.on _ h8 (by rw [e1, e2]; exact c)
    rw [h2, h3, h1.uniq h4]
theorem num_gap {r : Rl} {ls : List Sg} (v : Vd r ls) {i : Nat} (hi : i < (numL r ls).length) (h6 : 6 ≤ i % 8) : (numL r ls)[i]? = some (-1) := by
  refine (nums_is v).off i hi ?_
  cases c : lie r ((i : Int) / 8) ((i : Int) % 8)
  · rfl
  · have := lie_lt c; omega
def prt6 (of : List Int) (k : Nat) : List Pt := (List.range k).foldl (fun pts (j : Nat) => addP pts (to8 j : Int) (of.getD j 0)) []
theorem prt6_succ (of : List Int) (k : Nat) : prt6 of (k + 1) = addP (prt6 of k) (to8 k : Int) (of.getD k 0) := by simp [prt6, List.range_succ]
theorem addP_neg (pts : List Pt) (i n : Int) (h : n < 0) : addP pts i n = pts := by rw [addP, if_pos h]
theorem prt68 {r : Rl} {ls : List Sg} (v : Vd r ls) {out : List Int} (h : NumsR r ls r.s.length out) : ∀ T, T ≤ r.s.length → prt6 out (6 * T) = prt8 (numL r ls) (8 * T)
  | 0, _ => rfl
  | T + 1, hT => by
    have ih := prt68 v h T (by omega)
    have hl := num_len v
    have st : ∀ p, p < 6 → prt6 out (6 * T + p) = prt8 (numL r ls) (8 * T + p) := by
      intro p
      induction p with
      | zero => intro _; exact ih
      | succ p ih2 =>
        intro hp
        rw [← Nat.add_assoc, ← Nat.add_assoc, prt6_succ, prt8_succ, ih2 (by omega)]
        have h1 : to8 (6 * T + p) = 8 * T + p := by unfold to8; omega
        have h2 := (numsR_eq v h (j := 6 * T + p) (by omega)).1
        rw [h1] at h2
        rw [h1, List.getD_eq_getElem?_getD, List.getD_eq_getElem?_getD, h2]
    have h5 := st 5 (by omega)
    have h1 : to8 (6 * T + 5) = 8 * T + 5 := by unfold to8; omega
    have h2 := (numsR_eq v h (j := 6 * T + 5) (by omega)).1
    rw [h1] at h2
    have e6 : 6 * (T + 1) = 6 * T + 5 + 1 := by omega
    have e8 : 8 * (T + 1) = 8 * T + 5 + 1 + 1 + 1 := by omega
    rw [e6, e8, prt6_succ, prt8_succ, prt8_succ, prt8_succ, h5]
    have g6 := num_gap v (i := 8 * T + 5 + 1) (by omega) (by omega)
    have g7 := num_gap v (i := 8 * T + 5 + 1 + 1) (by omega) (by omega)
    rw [addP_neg _ ((8 * T + 5 + 1 + 1 : Nat) : Int) _ (by rw [List.getD_eq_getElem?_getD, g7]; decide), addP_neg _ ((8 * T + 5 + 1 : Nat) : Int) _ (by rw [List.getD_eq_getElem?_getD, g6]; decide)]
    rw [h1, List.getD_eq_getElem?_getD, List.getD_eq_getElem?_getD, h2]
end Go.Proofs.YtiaeckidlmoohaaGreat
end
section
set_option linter.unusedVariables false
set_option linter.unusedSimpArgs false
set_option maxHeartbeats 8000000
set_option maxRecDepth 20000
namespace Go.Proofs.YtiaeckidlmoohaaGreat
open Go.Proofs.YtiaeckidlmoohaaGreat.PM
structure Nm6 (out : List Int) : Prop where
  le : out.length ≤ 10000
  nm : ∀ i, i < out.length → out.getD i 0 < 0 ∨ ∃ x : Nat, out.getD i 0 = (to8 x : Int) ∧ x ≤ i ∧ out.getD x 0 = (to8 x : Int)
theorem numsR_nm {r : Rl} {ls : List Sg} {out : List Int} (v : Vd r ls) (h : NumsR r ls r.s.length out) : Nm6 out := by
  have g := v.g
  have hm := g.mul
  have hls := g.ls
  have hl := h.len
  obtain ⟨W, rw1⟩ : ∃ W : Nat, r.w = W := ⟨r.w.toNat, by have := g.w0; omega⟩
  obtain ⟨H, rh1⟩ : ∃ H : Nat, r.h = H := ⟨r.h.toNat, by have := g.h0; omega⟩
  have h4W : 4 ≤ W := by have := g.w0; omega
  have hM : r.s.length = W * H := by
    rw [rw1, rh1] at hls
    have : ((W : Int) * (H : Int)) = ((W * H : Nat) : Int) := by push_cast; rfl
    omega
  refine ⟨by omega, fun j hj => ?_⟩
  cases c : lie6 r j
  · left
    have := h.off j (by omega) c
    simp [this]
  · right
    obtain ⟨m, h1, h2⟩ := h.on j (by omega) c
    obtain ⟨x, hx, hlx, rfl⟩ := cn_lies rw1 rh1 hM h4W (by omega) c h1.1
    have hle : x ≤ j := by
      have := h1.2 _ (.refl _)
      apply Nat.le_of_not_lt
      intro q
      have := to8_lt.2 q
      omega
    obtain ⟨m', h3, h4⟩ := h.on x hx hlx
    have : m' = to8 x := h3.uniq (h1.of_cn h1.1)
    subst this
    exact ⟨x, by simp [h2], hle, by simp [h4]⟩
theorem prt6_ok {out : List Int} (h : Nm6 out) : ∀ k, k ≤ out.length → AscP (prt6 out k) ∧ ∀ m : Int, (∃ p ∈ prt6 out k, p.n = m) ↔ ∃ j : Nat, j < k ∧ out.getD j 0 = (to8 j : Int) ∧ m = (to8 j : Int)
  | 0, _ => ⟨by simp [prt6, AscP], fun m => by simp [prt6]⟩
  | k + 1, hk => by
    obtain ⟨h1, h2⟩ := prt6_ok h k (by omega)
    rw [prt6_succ]
    refine ⟨asc_add h1 _ _ fun p hp => ?_, fun m => ?_⟩
    · obtain ⟨j, hj, _, e⟩ := (h2 p.n).1 ⟨p, hp, rfl⟩
      have := to8_lt.2 hj
      omega
    · rw [add_mem, h2]
      constructor
      · rintro (⟨j, a, b, c⟩ | ⟨a, b, c⟩)
        · exact ⟨j, by omega, b, c⟩
        · exact ⟨k, by omega, b, by omega⟩
      · rintro ⟨j, a, b, c⟩
        by_cases e : j = k
        · subst e; exact .inr ⟨by omega, b, by omega⟩
        · exact .inl ⟨j, by omega, b, c⟩
theorem addP_len (pts : List Pt) (i n : Int) : (addP pts i n).length ≤ pts.length + 1 := by
  unfold addP
  split
  · omega
  · split
    · simp
    · simp
theorem prt6_len {of : List Int} (k : Nat) : (prt6 of k).length ≤ k := by
  induction k with
  | zero => simp [prt6]
  | succ k ih => rw [prt6_succ]; have := addP_len (prt6 of k) (to8 k : Int) (of.getD k 0); omega
theorem addP_plen {pts : List Pt} {i n : Int} {k : Nat} (h : ∀ p ∈ pts, p.p.length ≤ k) : ∀ p ∈ addP pts i n, p.p.length ≤ k + 1 := by
  intro p hp
  unfold addP at hp
  split at hp
  · have := h p hp; omega
  · split at hp
    · rw [List.mem_append, List.mem_singleton] at hp
      rcases hp with hp | rfl
      · have := h p hp; omega
      · simp
    · rw [List.mem_map] at hp
      obtain ⟨q, hq, rfl⟩ := hp
      have := h q hq
      split
      · simp; exact this
      · omega
theorem prt6_plen {of : List Int} : ∀ (k : Nat) (p : Pt), p ∈ prt6 of k → p.p.length ≤ k
  | 0, p, hp => by simp [prt6] at hp
  | k + 1, p, hp => by rw [prt6_succ] at hp; exact addP_plen (prt6_plen k) p hp
def RbI (out : List Int) (i : Nat) (v : PV) (h : Hp) : Prop := ∃ at' : List Int, v = mls Pr 0 (prt6 out i).length (prt6 out i).length ∧ h = bk 179 (prt6 out i).length (prs 2 (prt6 out i)) :: bk 3 0 at' :: pbs (prt6 out i) ∧ at'.length = out.length ∧ ∀ (k x : Nat) (p : Pt), (prt6 out i)[k]? = some p → p.n = (to8 x : Int) → x < out.length → at'[x]? = some (k : Int)
theorem refBlocks_ok (r : Rl) (nl : Nl) (ls : List Sg) (hb : r.s.length ≤ 3000) (hl : ls.length ≤ 10000) : R tc 99 [vR r, lst nl ls] = some (if valErr r ls = 0 then .tup [lst .any (blks r ls), .int .i64 0] else .tup [.list .nil 2 [], .int .i64 (valErr r ls)]) := by
  have h18 := refValidate_ok r nl ls hb hl
  refine R_of_G (F := pf99) (tc_nat _ rfl) rfl rfl ?_
  simp (disch := first | omega | with_unfolding_all rfl) [pf99, env0_eq, h18]
  by_cases h : valErr r ls = 0
  case neg => simp (disch := first | omega | with_unfolding_all rfl) [h]
  have v := vd_of h
  obtain ⟨out, h56, hR⟩ := refNumbers_ok (nl := nl) v
  have hN := numsR_nm v hR
  have hle := hN.le
  have heq : blks r ls = prt6 out out.length := by
    rw [hR.len, prt68 v hR _ (Nat.le_refl _), blks, num_len v]
  rw [heq]
  simp (disch := first | omega | with_unfolding_all rfl) [h, h56]
  refine G_loopK [7, 9] (fun (i : Nat) e hh => i ≤ out.length ∧ get e 10 = .int .i64 (i : Int) ∧ RbI out i (get e 8) hh) (fun i => out.length - i) (a₀ := 0) ?_ ?_
  · exact ⟨by omega, by simp, List.replicate out.length 0, rfl, rfl, by simp, fun k x p hk => by simp [prt6] at hk⟩
  rintro i e hh hk ⟨hi, g10, at', g8, rfl, hla, hat⟩
  simp at hk
  obtain ⟨pts, hpts⟩ : ∃ pts, pts = prt6 out i := ⟨_, rfl⟩
  obtain ⟨hA, hM⟩ := prt6_ok hN i hi
  have hlen := prt6_len (of := out) i
  have hsc := prt6_succ out i
  rw [← hpts] at g8 hA hM hlen hsc hat ⊢
  simp (disch := first | omega | with_unfolding_all rfl) [hk, g10]
  refine G_brd (fun c => ?_) (fun c => ?_)
  · have hin : i < out.length := by omega
    obtain ⟨n, hn⟩ : ∃ n, n = out.getD i 0 := ⟨_, rfl⟩
    have hg := getD_get hin
    rw [← hn] at hg hsc
    simp (disch := first | omega | with_unfolding_all rfl) [hk, g10, c, hg]
    refine G_brd (fun c1 => ?_) (fun c1 => ?_)
    · simp (disch := first | omega | with_unfolding_all rfl) [hk, g10, g8, c1]
      have : prt6 out (i + 1) = pts := by rw [hsc, addP, if_pos c1]
      refine ⟨i + 1, by omega, by omega, by omega, at', ?_⟩
      rw [this]
      exact ⟨rfl, rfl, hla, hat⟩
    obtain ⟨x, hnx, hxi, hxx⟩ := (hN.nm i hin).resolve_left (by rw [← hn]; exact c1)
    rw [← hn] at hnx
    have n8 : n.tdiv 8 * 6 + n.tmod 8 = (x : Int) := by
      have e1 : n.tdiv 8 = ((to8 x / 8 : Nat) : Int) := by rw [hnx]; rfl
      have e2 : n.tmod 8 = ((to8 x % 8 : Nat) : Int) := by rw [hnx]; rfl
      rw [e1, e2]; unfold to8; omega
    have hx8 : to8 x ≤ 20000 := by unfold to8; omega
    have w1 : IntKind.i64.wrap (n.tdiv 8) = n.tdiv 8 := by
      rw [show n.tdiv 8 = ((to8 x / 8 : Nat) : Int) by rw [hnx]; rfl]
      exact wrapI (by omega) (by omega)
    have b1 : n.tdiv 8 = ((to8 x / 8 : Nat) : Int) := by rw [hnx]; rfl
    have b2 : n.tmod 8 = ((to8 x % 8 : Nat) : Int) := by rw [hnx]; rfl
    have w2 : IntKind.i64.wrap (n.tdiv 8 * 6) = n.tdiv 8 * 6 := wrapI (by omega) (by omega)
    have w3 : IntKind.i64.wrap (n.tdiv 8 * 6 + n.tmod 8) = (x : Int) := by rw [n8]; exact wrapI (by omega) (by omega)
    simp (disch := first | omega | with_unfolding_all rfl) [hk, g10, g8, c1, hg, w1, w2, w3, -wrap_i64]
    have q6 : (i : Int).tdiv 6 = (i : Int) / 6 := rfl
    have r6 : (i : Int).tmod 6 = (i : Int) % 6 := rfl
    have hto : (i : Int) / 6 * 8 + (i : Int) % 6 = (to8 i : Int) := by unfold to8; omega
    refine G_brd (fun c2 => ?_) (fun c2 => ?_)
    · have exi : x = i := by omega
      subst exi
      have hlt : ∀ p ∈ pts, p.n < n := fun p hp => by
        obtain ⟨j, a, b, d⟩ := (hM p.n).1 ⟨p, hp, rfl⟩
        have := to8_lt.2 a
        omega
      have hnew : prt6 out (x + 1) = pts ++ [⟨n, [(to8 x : Int)]⟩] := by rw [hsc, addP, if_neg c1, if_pos hnx]
      have hpl : (prs 2 pts).length = pts.length := by simp
      have hpl2 : (prs 2 pts ++ [(⟨n, none⟩ : Pr)]).length = pts.length + 1 := by simp
      have hge : ∀ q, (prs 2 pts ++ [(⟨n, none⟩ : Pr)])[pts.length]'q = ⟨n, none⟩ := fun q => by
        rw [List.getElem_append_right (by simp)]; simp
      have hse : ∀ y, (prs 2 pts ++ [(⟨n, none⟩ : Pr)]).set pts.length y = prs 2 pts ++ [y] := fun y => by
        rw [List.set_append_right _ _ (by simp)]; simp
      have hla2 : (at'.set x (pts.length : Int)).length = out.length := by simp [hla]
      have hag : ∀ q, (at'.set x (pts.length : Int))[x]'q = (pts.length : Int) := fun q => by simp
      simp (disch := first | omega | with_unfolding_all rfl) [hk, g10, g8, hg, hge, hse, hag, app_one, q6, r6, hto]
      refine ⟨x + 1, by omega, by omega, by omega, at'.set x (pts.length : Int), ?_⟩
      rw [hnew]
      refine ⟨by simp, ?_, hla2, fun k y p hp he hy => ?_⟩
      · rw [prs_append]
        simp [prs, pbs, Nat.add_comm]
        rw [show 1 + (pts.length + 1) = pts.length + 2 by omega]
      · by_cases ek : k < pts.length
        · rw [List.getElem?_append_left ek] at hp
          have := hlt p (List.mem_of_getElem? hp)
          have hne : x ≠ y := by rintro rfl; omega
          rw [List.getElem?_set_ne hne]
          exact hat k y p hp he hy
        · have hk0 : k = pts.length := by
            have := (List.getElem?_eq_some_iff.1 hp).1
            simp at this; omega
          subst hk0
          simp at hp
          subst hp
          dsimp only at he
          have : x = y := to8_inj (by omega)
          subst this
          exact List.getElem?_set_self (by omega)
    · have hxi2 : x < i := by omega
      obtain ⟨p, hp, hpn⟩ := (hM n).2 ⟨x, hxi2, hxx, hnx⟩
      obtain ⟨k, hkl, hpk⟩ := List.getElem_of_mem hp
      have hk? : pts[k]? = some p := by rw [List.getElem?_eq_getElem hkl, hpk]
      have hpl : (prs 2 pts).length = pts.length := by simp
      have hpp : p.p.length ≤ i := prt6_plen i p (by rw [← hpts]; exact hp)
      have hge : ∀ q, (prs 2 pts)[k]'q = ⟨p.n, some (2 + k, p.p.length, p.p.length)⟩ := fun q => by
        have := prs_get 2 pts k p hk?
        rw [List.getElem?_eq_getElem q, Option.some.injEq] at this
        exact this
      have hbl : ∀ X Y : Blk, (X :: Y :: pbs pts)[2 + k]? = some (bk 3 p.p.length p.p) := fun X Y => by
        rw [show 2 + k = k + 1 + 1 by omega, List.getElem?_cons_succ, List.getElem?_cons_succ]
        simp [pbs, hk?]
      have hbs : ∀ X Y B : Blk, (X :: Y :: pbs pts).set (2 + k) B = X :: Y :: (pbs pts).set k B := fun X Y B => by
        rw [show 2 + k = k + 1 + 1 by omega, List.set_cons_succ, List.set_cons_succ]
      have hni : ¬ n = (to8 i : Int) := fun q => by
        have := to8_lt.2 hxi2
        omega
      have hold : prt6 out (i + 1) = pts.set k ⟨n, p.p ++ [(to8 i : Int)]⟩ := by rw [hsc, addP_old hA hk? hpn c1 hni]
      have hag : ∀ q, at'[x]'q = (k : Int) := fun q => by
        have := hat k x p hk? (by omega) (by omega)
        rw [List.getElem?_eq_getElem q, Option.some.injEq] at this
        exact this
      simp (disch := first | omega | with_unfolding_all rfl) [hk, g10, g8, hge, hbl, hbs, hag, q6, r6, hto]
      refine ⟨i + 1, by omega, by omega, by omega, at', ?_⟩
      rw [hold]
      refine ⟨by simp, ?_, hla, fun k' y p' hp' he hy => ?_⟩
      · rw [prs_set]; simp [hpn, pbs, List.map_set]
      · by_cases ek : k = k'
        · subst ek
          rw [List.getElem?_set_self hkl, Option.some.injEq] at hp'
          subst hp'
          exact hat k y p hk? (by dsimp only at he; omega) hy
        · rw [List.getElem?_set_ne ek] at hp'
          exact hat k' y p' hp' he hy
  · have e1 : i = out.length := by omega
    subst e1
    have hfz := frz_all (X := bk 179 pts.length (prs 2 pts)) (Y := bk 3 0 at') (ps := pts) (n := 60) rfl
    subst hpts
    simp (disch := first | omega | with_unfolding_all rfl) [hk, g10, g8, c, -frz_mlsC]
    show (frz _ _ (60 + 3) _).bind _ = _
    rw [hfz]
    rfl
end Go.Proofs.YtiaeckidlmoohaaGreat
end
