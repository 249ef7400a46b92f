/- Several texts in one: BlockParts, BlockParts2. -/
import Derived.Test.YtfocelelbcepnaaBlockNumA
section
set_option linter.unusedVariables false
set_option linter.unusedSimpArgs false
set_option maxHeartbeats 4000000
set_option maxRecDepth 20000
namespace Go.Proofs.Ytfocelelbcepnaa
open Go.Proofs.Ytfocelelbcepnaa.PM

/-- A block of pieces. -/
structure Pt where
  n : Int
  p : List Int
theorem cl_ints : ∀ (xs : List Int), cl xs = xs.map fun x => PV.int .i64 x
  | [] => rfl
  | x :: xs => by rw [cl_cons, cl_ints xs]; rfl
def unI : List PV → Option (List Int)
  | [] => some []
  | .int .i64 x :: xs => (unI xs).map (x :: ·)
  | _ => none
theorem unI_cl : ∀ (xs : List Int), unI (cl xs) = some xs
  | [] => rfl
  | x :: xs => by
    have := unI_cl xs
    rw [cl_cons]
    show (unI (cl xs)).map (x :: ·) = _
    rw [this]; rfl
theorem cl_unI : ∀ (l : List PV) (xs : List Int), unI l = some xs → cl xs = l
  | [], xs, h => by simp [unI] at h; subst h; rfl
  | v :: l, xs, h => by
    unfold unI at h
    split at h
    · rename_i h0; simp only [Option.some.injEq] at h; subst h; cases h0
    · rename_i x l' h0
      rw [Option.map_eq_some_iff] at h
      obtain ⟨ys, h1, rfl⟩ := h
      cases h0
      rw [cl_cons, cl_unI l ys h1]; rfl
    · cases h
instance : Enc Pt where
  sz := 2
  enc l := [.int .i64 l.n, lst .any l.p]
  dec | [.int .i64 a, .list .any 1 xs] => (unI xs).map fun p => ⟨a, p⟩ | _ => none
  cln _ := true
  pos := by decide
  len _ := rfl
  one _ := rfl
  pur _ := rfl
  hcln _ := rfl
  dec_enc x := by
    show (unI (cl x.p)).map (fun p => Pt.mk x.n p) = some x
    rw [unI_cl]; rfl
  enc_dec l x h := by
    split at h
    · rw [Option.map_eq_some_iff] at h
      obtain ⟨p, h1, rfl⟩ := h
      show [_, PV.list .any 1 (cl p)] = _
      rw [cl_unI _ _ h1]
    · cases h
@[simp] theorem sz_pt : Enc.sz Pt = 2 := rfl
@[simp] theorem enc_pt (l : Pt) : Enc.enc l = [.int .i64 l.n, lst .any l.p] := rfl
@[simp] theorem cln_pt (l : Pt) : Enc.cln l = true := rfl
/-- A block whose pieces are still written. -/
structure Pr where
  n : Int
  q : Option (Nat × Nat × Nat)
def qV : Option (Nat × Nat × Nat) → PV
  | none => .list .nil 1 []
  | some (b, g, l) => .msl true b g 0 l 1
instance : Enc Pr where
  sz := 2
  enc l := [.int .i64 l.n, qV l.q]
  dec | [.int .i64 a, .list .nil 1 []] => some ⟨a, none⟩ | [.int .i64 a, .msl true b g 0 l 1] => some ⟨a, some (b, g, l)⟩ | _ => none
  cln x := x.q.isNone
  ph := false
  pos := by decide
  len _ := rfl
  one x := by rcases x with ⟨n, _ | ⟨b, g, l⟩⟩ <;> rfl
  pur _ := rfl
  hcln x := by rcases x with ⟨n, _ | ⟨b, g, l⟩⟩ <;> rfl
  dec_enc x := by rcases x with ⟨n, _ | ⟨b, g, l⟩⟩ <;> rfl
  enc_dec l x h := by
    split at h
    · simp only [Option.some.injEq] at h; subst h; rfl
    · simp only [Option.some.injEq] at h; subst h; rfl
    · cases h
@[simp] theorem sz_pr : Enc.sz Pr = 2 := rfl
@[simp] theorem enc_pr (l : Pr) : Enc.enc l = [.int .i64 l.n, qV l.q] := rfl
@[simp] theorem dec_pr (a : Int) (b g l : Nat) : (Enc.dec [PV.int .i64 a, mls Int b g l] : Option Pr) = some ⟨a, some (b, g, l)⟩ := rfl
@[simp] theorem qV_none : qV none = .list .nil 1 [] := rfl
@[simp] theorem qV_some (b g l : Nat) : qV (some (b, g, l)) = mls Int b g l := rfl
/-- The blocks as they are written, from place k on. -/
def prs : Nat → List Pt → List Pr
  | _, [] => []
  | k, p :: ps => ⟨p.n, some (k, p.p.length, p.p.length)⟩ :: prs (k + 1) ps
def pbs (ps : List Pt) : Hp := ps.map fun p => bk 3 p.p.length p.p
@[simp] theorem length_prs : ∀ (k : Nat) (ps : List Pt), (prs k ps).length = ps.length
  | _, [] => rfl
  | k, p :: ps => by simp [prs, length_prs (k + 1) ps]
theorem prs_get : ∀ (k : Nat) (ps : List Pt) (j : Nat) (p : Pt), ps[j]? = some p → (prs k ps)[j]? = some ⟨p.n, some (k + j, p.p.length, p.p.length)⟩
  | k, q :: ps, 0, p, h => by simp at h; subst h; rfl
  | k, q :: ps, j + 1, p, h => by
    rw [List.getElem?_cons_succ] at h
    have := prs_get (k + 1) ps j p h
    rw [prs, List.getElem?_cons_succ, this, show k + 1 + j = k + (j + 1) by omega]
theorem prs_append : ∀ (k : Nat) (ps qs : List Pt), prs k (ps ++ qs) = prs k ps ++ prs (k + ps.length) qs
  | k, [], qs => rfl
  | k, p :: ps, qs => by
    rw [List.cons_append, prs, prs, prs_append (k + 1) ps qs, List.cons_append, List.length_cons, show k + 1 + ps.length = k + (ps.length + 1) by omega]
theorem prs_set : ∀ (k : Nat) (ps : List Pt) (j : Nat) (p : Pt), prs k (ps.set j p) = (prs k ps).set j ⟨p.n, some (k + j, p.p.length, p.p.length)⟩
  | k, [], j, p => rfl
  | k, q :: ps, 0, p => rfl
  | k, q :: ps, j + 1, p => by
    rw [List.set_cons_succ, prs, prs, prs_set (k + 1) ps j p, List.set_cons_succ, show k + 1 + j = k + (j + 1) by omega]
theorem frz_prs (H : Hp) : ∀ (ps : List Pt) (k n : Nat), (∀ j p, ps[j]? = some p → H[k + j]? = some (bk 3 p.p.length p.p)) → mapO (frz H .any (n + 2)) (cl (prs k ps)) = some (cl ps)
  | [], k, n, h => rfl
  | p :: ps, k, n, h => by
    have h0 := h 0 p rfl
    have ih := frz_prs H ps (k + 1) n fun j q hq => by rw [Nat.add_assoc, Nat.add_comm 1]; exact h (j + 1) q (by simpa using hq)
    have h1 : frz H .any (n + 2) (.int .i64 p.n) = some (.int .i64 p.n) := rfl
    have h2 : frz H .any (n + 2) (mls Int k p.p.length p.p.length) = some (lst .any p.p) := frz_mls h0 rfl (.inr (by simp))
    rw [prs, cl_cons, cl_cons]
    simp only [enc_pr, qV_some, enc_pt, List.cons_append, List.nil_append, mapO, h1, h2, ih, Option.bind_some, Option.map_some]
theorem frz_all {X Y : Blk} {ps : List Pt} {g n : Nat} (hX : X = bk 39 g (prs 2 ps)) : frz (X :: Y :: pbs ps) .any (n + 3) (mls Pr 0 g ps.length) = some (lst .any ps) := by
  rw [frz_mlsC]
  subst hX
  have h1 := frz_prs (bk 39 g (prs 2 ps) :: Y :: pbs ps) ps 2 n (fun j p hj => by
    rw [show 2 + j = j + 1 + 1 by omega, List.getElem?_cons_succ, List.getElem?_cons_succ]
    simp [pbs, hj])
  have h3 : List.take (ps.length * Enc.sz Pr) (cl (prs 2 ps)) = cl (prs 2 ps) := by rw [List.take_of_length_le]; simp
  simp only [List.getElem?_cons_zero, Go.Proofs.Ytfocelelbcepnaa.PM.frzB]
  split
  · rename_i h0
    rw [List.length_eq_zero_iff.1 h0]; rfl
  · simp only [Option.bind_some, length_cl, length_prs, Nat.le_refl, and_self, if_true, h3, h1]
    rw [clean_cl, show (ps.all Enc.cln) = true by simp]
    rfl
/-- One piece more. -/
def addP (pts : List Pt) (i n : Int) : List Pt := if n < 0 then pts else if n = i then pts ++ [⟨n, [i]⟩] else pts.map fun p => if p.n = n then ⟨p.n, p.p ++ [i]⟩ else p
/-- The numbers of the blocks ascend. -/
def Asc (pts : List Pt) : Prop := (pts.map Pt.n).Pairwise (· < ·)
theorem asc_uniq {pts : List Pt} (h : Asc pts) {j k : Nat} {p q : Pt} (hj : pts[j]? = some p) (hk : pts[k]? = some q) (e : p.n = q.n) : j = k := by
  unfold Asc at h
  rw [List.pairwise_iff_getElem] at h
  obtain ⟨hj1, rfl⟩ := List.getElem?_eq_some_iff.1 hj
  obtain ⟨hk1, rfl⟩ := List.getElem?_eq_some_iff.1 hk
  rcases Nat.lt_trichotomy j k with q | q | q
  · have := h j k (by simpa using hj1) (by simpa using hk1) q
    simp at this; omega
  · exact q
  · have := h k j (by simpa using hk1) (by simpa using hj1) q
    simp at this; omega
theorem addP_old {pts : List Pt} (h : Asc pts) {k : Nat} {p : Pt} {i n : Int} (hk : pts[k]? = some p) (hn : p.n = n) (h0 : ¬ n < 0) (hi : ¬ n = i) : addP pts i n = pts.set k ⟨n, p.p ++ [i]⟩ := by
  rw [addP, if_neg h0, if_neg hi]
  refine List.ext_getElem? fun j => ?_
  rw [List.getElem?_map]
  by_cases e : k = j
  · subst e
    rw [List.getElem?_set_self (List.getElem?_eq_some_iff.1 hk).1, hk]
    simp [hn]
  · rw [List.getElem?_set_ne e]
    cases hj : pts[j]? with
    | none => rfl
    | some q =>
      have : ¬ q.n = n := fun c => e (asc_uniq h hk hj (hn.trans c.symm))
      simp [this]
theorem asc_add {pts : List Pt} (h : Asc pts) (i n : Int) (hb : ∀ p ∈ pts, p.n < i) : Asc (addP pts i n) := by
  unfold addP
  split
  · exact h
  · split
    · rename_i e
      subst e
      simp only [Asc, List.map_append, List.pairwise_append]
      refine ⟨h, by simp, fun a ha b hb' => ?_⟩
      simp at ha hb'
      obtain ⟨p, hp, rfl⟩ := ha
      subst hb'
      exact hb p hp
    · have : (pts.map fun p => if p.n = n then Pt.mk p.n (p.p ++ [i]) else p).map Pt.n = pts.map Pt.n := by
        rw [List.map_map]
        refine List.map_congr_left fun p _ => ?_
        simp only [Function.comp_apply]
        split <;> rfl
      simp only [Asc, this]
      exact h
theorem add_mem {pts : List Pt} {i n : Int} {m : Int} : (∃ p ∈ addP pts i n, p.n = m) ↔ (∃ p ∈ pts, p.n = m) ∨ (0 ≤ n ∧ n = i ∧ m = n) := by
  unfold addP
  split
  · constructor
    · exact .inl
    · rintro (h | ⟨h, _⟩)
      · exact h
      · omega
  · split
    · constructor
      · rintro ⟨p, hp, rfl⟩
        rw [List.mem_append, List.mem_singleton] at hp
        rcases hp with hp | rfl
        · exact .inl ⟨p, hp, rfl⟩
        · exact .inr ⟨by omega, by assumption, rfl⟩
      · rintro (⟨p, hp, rfl⟩ | ⟨_, _, rfl⟩)
        · exact ⟨p, List.mem_append_left _ hp, rfl⟩
        · exact ⟨⟨m, [i]⟩, by simp, rfl⟩
    · constructor
      · rintro ⟨p, hp, rfl⟩
        rw [List.mem_map] at hp
        obtain ⟨q, hq, rfl⟩ := hp
        left
        refine ⟨q, hq, ?_⟩
        split <;> rfl
      · rintro (⟨p, hp, rfl⟩ | ⟨_, h, _⟩)
        · refine ⟨_, List.mem_map_of_mem hp, ?_⟩
          split <;> rfl
        · contradiction
/-- Numbers that name the first piece of each block. -/
structure Nm (of : List Int) : Prop where
  le : of.length ≤ 10000
  nm : ∀ i, i < of.length → of.getD i 0 < 0 ∨ ∃ m : Nat, of.getD i 0 = (m : Int) ∧ m ≤ i ∧ of.getD m 0 = (m : Int)
def prt8 (of : List Int) (k : Nat) : List Pt := (List.range k).foldl (fun pts (i : Nat) => addP pts (i : Int) (of.getD i 0)) []
theorem prt8_succ (of : List Int) (k : Nat) : prt8 of (k + 1) = addP (prt8 of k) (k : Int) (of.getD k 0) := by simp [prt8, List.range_succ]
theorem prt8_ok {of : List Int} (h : Nm of) : ∀ k, k ≤ of.length → Asc (prt8 of k) ∧ ∀ m : Int, (∃ p ∈ prt8 of k, p.n = m) ↔ ∃ j : Nat, j < k ∧ of.getD j 0 = (j : Int) ∧ m = (j : Int)
  | 0, _ => ⟨by simp [prt8, Asc], fun m => by simp [prt8]⟩
  | k + 1, hk => by
    obtain ⟨h1, h2⟩ := prt8_ok h k (by omega)
    rw [prt8_succ]
    refine ⟨asc_add h1 _ _ fun p hp => ?_, fun m => ?_⟩
    · obtain ⟨j, hj, _, e⟩ := (h2 p.n).1 ⟨p, hp, rfl⟩
      omega
    · rw [add_mem, h2]
      constructor
      · rintro (⟨j, a, b, c⟩ | ⟨a, b, c⟩)
        · exact ⟨j, by omega, b, c⟩
        · exact ⟨k, by omega, b, by omega⟩
      · rintro ⟨j, a, b, c⟩
        by_cases e : j = k
        · subst e; exact .inr ⟨by omega, b, by omega⟩
        · exact .inl ⟨j, by omega, b, c⟩
theorem prt8_len {of : List Int} (k : Nat) : (prt8 of k).length ≤ k := by
  induction k with
  | zero => simp [prt8]
  | succ k ih =>
    rw [prt8_succ]; unfold addP
    split
    · omega
    · split
      · simp; omega
      · simp; omega
/-! ### Where a number stands in the map -/
theorem mix_ints {ns : List Int} {k : Nat} {n : Int} (h : ns[k]? = some n) (h' : ∀ j, j < k → ns[j]? ≠ some n) : mix (ns.map fun x => PV.int .i64 x) (.int .i64 n) = some k := by
  induction ns generalizing k with
  | nil => simp at h
  | cons x ns ih =>
    cases k with
    | zero =>
      simp at h; subst h
      simp [mix, keq, keq1]
    | succ k =>
      have hx : ¬ n = x := fun e => h' 0 (by omega) (by simp [e])
      have := ih (k := k) (by simpa using h) fun j hj q => h' (j + 1) (by omega) (by simpa using q)
      simp [mix, keq, keq1, hx, this]
theorem mix_none {ns : List Int} {n : Int} (h : n ∉ ns) : mix (ns.map fun x => PV.int .i64 x) (.int .i64 n) = none := by
  induction ns with
  | nil => rfl
  | cons x ns ih =>
    rw [List.mem_cons] at h
    have hx : ¬ n = x := fun e => h (.inl e)
    simp [mix, keq, keq1, hx, ih fun q => h (.inr q)]
theorem mpos_all {ns : List Int} {n : Int} (h : ∀ x ∈ ns, x < n) : mpos (ns.map fun x => PV.int .i64 x) (.int .i64 n) = ns.length := by
  induction ns with
  | nil => rfl
  | cons x ns ih =>
    have := ih fun y hy => h y (List.mem_cons_of_mem _ hy)
    have hx := h x (by simp)
    simp [mpos, klt, kltL, hx, this]
/-- The map of the places of the blocks. -/
def mpP (ps : List Pt) : Mp := ⟨none, (ps.map Pt.n).map fun x => PV.int .i64 x, (List.range ps.length).map fun (j : Nat) => PV.int .i64 (j : Int)⟩
theorem mpP_put {ps : List Pt} {n : Int} (h : ∀ p ∈ ps, p.n < n) {l : List Int} : mput (mpP ps) (.int .i64 n) (.int .i64 (ps.length : Int)) = mpP (ps ++ [⟨n, l⟩]) := by
  have h1 : mix (mpP ps).ks (.int .i64 n) = none := mix_none fun q => by
    rw [List.mem_map] at q
    obtain ⟨p, hp, e⟩ := q
    have := h p hp; omega
  have h2 : mpos (mpP ps).ks (.int .i64 n) = ps.length := by
    rw [mpP]; dsimp only
    rw [mpos_all fun x hx => ?_, List.length_map]
    rw [List.mem_map] at hx
    obtain ⟨p, hp, rfl⟩ := hx
    exact h p hp
  simp only [mput, h1, h2]
  simp [mpP, List.range_succ]
  refine ⟨?_, ?_⟩
  · rw [List.take_of_length_le (by simp), List.drop_eq_nil_of_le (by simp)]
  · rw [List.take_of_length_le (by simp), List.drop_eq_nil_of_le (by simp)]
theorem mpP_find {ps : List Pt} (h : Asc ps) {k : Nat} {p : Pt} (hk : ps[k]? = some p) : mfind (mpP ps) (.int .i64 p.n) = some (.int .i64 (k : Int)) := by
  have hk1 := (List.getElem?_eq_some_iff.1 hk).1
  have h1 : mix (mpP ps).ks (.int .i64 p.n) = some k := mix_ints (by simp [hk]) fun j hj q => by
    rw [List.getElem?_map, Option.map_eq_some_iff] at q
    obtain ⟨r, hr, e⟩ := q
    have := asc_uniq h hr hk e
    omega
  rw [mfind, h1]
  simp [mpP, hk1]
end Go.Proofs.Ytfocelelbcepnaa
end

section
set_option linter.unusedVariables false
set_option linter.unusedSimpArgs false
set_option maxHeartbeats 4000000
set_option maxRecDepth 20000
namespace Go.Proofs.Ytfocelelbcepnaa
open Go.Proofs.Ytfocelelbcepnaa.PM

@[simp] theorem lst_pr (n : Int) : PV.list .ex 2 [.int .i64 n, .list .nil 1 []] = lst .ex [Pr.mk n none] := rfl
@[simp] theorem msl_pr {b gen n : Nat} : PV.msl true b gen 0 n 2 = mls Pr b gen n := rfl
theorem mpP_kn (ps : List Pt) : (mpP ps).kn = none := rfl
theorem app_one (x : Int) (H : Hp) : evApp 3 1 8 (.list .nil 1 []) (lst .ex [x]) H = some (mls Int H.length 1 1, H ++ [bk 3 1 [x]]) := by
  rw [evApp_nil_lst (by simp)]; simp
theorem getD_get {of : List Int} {i : Nat} (h : i < of.length) : of[i] = of.getD i 0 := by simp [h]
theorem prt8_plen {of : List Int} : ∀ (k : Nat) (p : Pt), p ∈ prt8 of k → p.p.length ≤ k := by
  intro k
  induction k with
  | zero => intro p hp; simp [prt8] at hp
  | succ k ih =>
    intro p hp
    rw [prt8_succ] at hp
    unfold addP at hp
    split at hp
    · have := ih p hp; omega
    · split at hp
      · rw [List.mem_append, List.mem_singleton] at hp
        rcases hp with hp | rfl
        · have := ih p hp; omega
        · simp
      · rw [List.mem_map] at hp
        obtain ⟨q, hq, rfl⟩ := hp
        have := ih q hq
        split
        · simp; exact this
        · omega
theorem mpP_set {ps : List Pt} {k : Nat} {p : Pt} {n : Int} {l : List Int} (hk : ps[k]? = some p) (hn : p.n = n) : mpP (ps.set k ⟨n, l⟩) = mpP ps := by
  have : (ps.set k ⟨n, l⟩).map Pt.n = ps.map Pt.n := by
    rw [List.map_set]
    refine List.ext_getElem? fun j => ?_
    by_cases e : k = j
    · subst e
      have h1 := (List.getElem?_eq_some_iff.1 hk).1
      rw [List.getElem?_set_self (by simpa using h1)]
      simp [hk, hn]
    · rw [List.getElem?_set_ne e]
  simp only [mpP, this, List.length_set]
theorem parts_ok {nl : Nl} {of : List Int} (h : Nm of) : R tb 57 [lst nl of] = some (lst .any (prt8 of of.length)) := by
  have hle := h.le
  refine R_of_G (F := pf57) rfl rfl rfl ?_
  simp (disch := first | omega | with_unfolding_all rfl) [pf57, env0_eq, evMkm]
  refine G_loopK [4, 9, 10] (fun (i : Nat) e hh => i ≤ of.length ∧ get e 11 = .int .i64 (i : Int) ∧ get e 3 = mls Pr 0 (prt8 of i).length (prt8 of i).length ∧ hh = bk 39 (prt8 of i).length (prs 2 (prt8 of i)) :: ⟨0, 0, [], some (mpP (prt8 of i))⟩ :: pbs (prt8 of i)) (fun i => of.length - i) (a₀ := 0) ?_ ?_
  · exact ⟨by omega, by simp, rfl, rfl⟩
  rintro i e hh hk ⟨hi, g11, g3, rfl⟩
  simp at hk
  obtain ⟨pts, hpts⟩ : ∃ pts, pts = prt8 of i := ⟨_, rfl⟩
  obtain ⟨hA, hM⟩ := prt8_ok h i hi
  have hlen := prt8_len (of := of) i
  have hsc := prt8_succ of i
  rw [← hpts] at g3 hA hM hlen hsc ⊢
  simp (disch := first | omega | with_unfolding_all rfl) [hk, g11]
  refine G_brd (fun c => ?_) (fun c => ?_)
  · have hin : i < of.length := by omega
    obtain ⟨n, hn⟩ : ∃ n, n = of.getD i 0 := ⟨_, rfl⟩
    have hg := getD_get hin
    rw [← hn] at hg hsc
    simp (disch := first | omega | with_unfolding_all rfl) [hk, g11, c, hg]
    refine G_brd (fun c1 => ?_) (fun c1 => ?_)
    · simp (disch := first | omega | with_unfolding_all rfl) [hk, g11, g3, c1]
      have : prt8 of (i + 1) = pts := by rw [hsc, addP, if_pos c1]
      exact ⟨i + 1, by omega, by omega, by omega, by rw [this], by rw [this]; simp⟩
    simp (disch := first | omega | with_unfolding_all rfl) [hk, g11, g3, c1]
    refine G_brd (fun c2 => ?_) (fun c2 => ?_)
    · have hlt : ∀ p ∈ pts, p.n < n := fun p hp => by
        obtain ⟨j, a, b, d⟩ := (hM p.n).1 ⟨p, hp, rfl⟩
        omega
      have hnew : prt8 of (i + 1) = pts ++ [⟨n, [(i : Int)]⟩] := by rw [hsc, addP, if_neg c1, if_pos c2]
      have hput := mpP_put hlt (l := [(i : Int)])
      have hA2 : Asc (pts ++ [⟨n, [(i : Int)]⟩]) := by rw [← hnew]; exact (prt8_ok h (i + 1) (by omega)).1
      have hfind := mpP_find hA2 (k := pts.length) (p := ⟨n, [(i : Int)]⟩) (by simp)
      dsimp only at hfind
      subst c2
      have hpl : (prs 2 pts).length = pts.length := by simp
      have hpl2 : (prs 2 pts ++ [(⟨(i : Int), none⟩ : Pr)]).length = pts.length + 1 := by simp
      have hge : ∀ q, (prs 2 pts ++ [(⟨(i : Int), none⟩ : Pr)])[pts.length]'q = ⟨(i : Int), none⟩ := fun q => by
        rw [List.getElem_append_right (by simp)]; simp
      have hse : ∀ y, (prs 2 pts ++ [(⟨(i : Int), none⟩ : Pr)]).set pts.length y = prs 2 pts ++ [y] := fun y => by
        rw [List.set_append_right _ _ (by simp)]; simp
      simp (disch := first | omega | with_unfolding_all rfl) [hk, g11, g3, evMup, evMlk, mapAt, mapOf, keyB, setMp, hput, hfind, mpP_kn, hge, hse, app_one]
      refine ⟨i + 1, by omega, by omega, by omega, by rw [hnew]; simp, ?_⟩
      rw [hnew, prs_append]
      simp [prs, pbs, Nat.add_comm]
      rw [show 1 + (pts.length + 1) = pts.length + 2 by omega]
    · obtain ⟨m, hm, hmi, hmm⟩ := (h.nm i hin).resolve_left (by rw [← hn]; exact c1)
      rw [← hn] at hm
      have hmi2 : m < i := by omega
      obtain ⟨p, hp, hpn⟩ := (hM n).2 ⟨m, hmi2, hmm, hm⟩
      obtain ⟨k, hkl, hpk⟩ := List.getElem_of_mem hp
      have hk? : pts[k]? = some p := by rw [List.getElem?_eq_getElem hkl, hpk]
      have hfind := mpP_find hA hk?
      rw [hpn] at hfind
      have hpl : (prs 2 pts).length = pts.length := by simp
      have hpp : p.p.length ≤ i := prt8_plen i p (by rw [← hpts]; exact hp)
      have hge : ∀ q, (prs 2 pts)[k]'q = ⟨p.n, some (2 + k, p.p.length, p.p.length)⟩ := fun q => by
        have := prs_get 2 pts k p hk?
        rw [List.getElem?_eq_getElem q, Option.some.injEq] at this
        exact this
      have hbl : ∀ X Y : Blk, (X :: Y :: pbs pts)[2 + k]? = some (bk 3 p.p.length p.p) := fun X Y => by
        rw [show 2 + k = k + 1 + 1 by omega, List.getElem?_cons_succ, List.getElem?_cons_succ]
        simp [pbs, hk?]
      have hbs : ∀ X Y B : Blk, (X :: Y :: pbs pts).set (2 + k) B = X :: Y :: (pbs pts).set k B := fun X Y B => by
        rw [show 2 + k = k + 1 + 1 by omega, List.set_cons_succ, List.set_cons_succ]
      have hold : prt8 of (i + 1) = pts.set k ⟨n, p.p ++ [(i : Int)]⟩ := by rw [hsc, addP_old hA hk? hpn c1 c2]
      simp (disch := first | omega | with_unfolding_all rfl) [hk, g11, g3, evMup, evMlk, mapAt, mapOf, keyB, setMp, hfind, mpP_kn, hge, hbl, hbs]
      refine ⟨i + 1, by omega, by omega, by omega, by rw [hold]; simp, ?_⟩
      rw [hold]
      refine ⟨⟨by simp, ?_⟩, ?_, ?_⟩
      · rw [prs_set]; simp [hpn]
      · exact (mpP_set hk? hpn).symm
      · simp [pbs, List.map_set]
  · have e1 : i = of.length := by omega
    subst e1
    have hfz := frz_all (X := bk 39 pts.length (prs 2 pts)) (Y := ⟨0, 0, [], some (mpP pts)⟩) (ps := pts) (n := 61) rfl
    subst hpts
    simp (disch := first | omega | with_unfolding_all rfl) [hk, g11, g3, c, -frz_mlsC]
    exact hfz
end Go.Proofs.Ytfocelelbcepnaa
end
