/- Several texts in one: TrainOptP, TrainOpt, TrainOpt2, TrainOpt3, TrainOpt4. -/
import Derived.Test.YtiaeckidlmoohaaGreatTrainOrdA
import Derived.Test.YtiaeckidlmoohaaGreatTrainValA
section
set_option linter.unusedVariables false
set_option linter.unusedSimpArgs false
set_option maxHeartbeats 4000000
namespace Go.Proofs.YtiaeckidlmoohaaGreat
open Go.Proofs.YtiaeckidlmoohaaGreat.PM Go.Sort

theorem ltO_iff (a b : So) : ltO a b = true ↔ a.t < b.t ∨ (a.t = b.t ∧ (a.p < b.p ∨ (a.p = b.p ∧ a.o < b.o))) := by
  unfold ltO
  rw [decide_eq_true_eq, cmS_lt]
theorem ltO_no (a b : So) : ltO a b = false ↔ ¬ (a.t < b.t ∨ (a.t = b.t ∧ (a.p < b.p ∨ (a.p = b.p ∧ a.o < b.o)))) := by
  rw [← ltO_iff]; simp
theorem ltO_irr (a : So) : ltO a a = false := by rw [ltO_no]; omega
theorem ltO_tr {a b c : So} (h : ltO a b = true) (k : ltO b c = true) : ltO a c = true := by rw [ltO_iff] at *; omega
theorem ltO_tot {a b : So} (h : ltO a b = false) (k : ltO b a = false) : a = b := by
  rw [ltO_no] at *
  exact so_ext.2 (by omega)
theorem ltO_as {a b : So} (h : ltO a b = true) : ltO b a = false := by rw [ltO_iff] at h; rw [ltO_no]; omega
/-- Strictly ascending. -/
abbrev Asc (l : List So) : Prop := l.Pairwise fun a b => ltO a b = true
theorem asc_ext : ∀ {l m : List So}, Asc l → Asc m → (∀ x, x ∈ l ↔ x ∈ m) → l = m
  | [], [], _, _, _ => rfl
  | [], b :: m, _, _, h => by have := (h b).2 (by simp); simp at this
  | a :: l, [], _, _, h => by have := (h a).1 (by simp); simp at this
  | a :: l, b :: m, h1, h2, h => by
    rw [Asc, List.pairwise_cons] at h1 h2
    have e : a = b := by
      have ha := (h a).1 (by simp)
      have hb := (h b).2 (by simp)
      rcases List.mem_cons.1 ha with ha | ha
      · exact ha
      · rcases List.mem_cons.1 hb with hb | hb
        · exact hb.symm
        · have q1 := h2.1 a ha
          have q2 := h1.1 b hb
          have := ltO_as q1
          rw [this] at q2; cases q2
    subst e
    rw [asc_ext h1.2 h2.2 fun x => ?_]
    constructor
    · intro hx
      have := (h x).1 (by simp [hx])
      rcases List.mem_cons.1 this with e | e
      · subst e
        have := h1.1 x hx
        rw [ltO_irr] at this; cases this
      · exact e
    · intro hx
      have := (h x).2 (by simp [hx])
      rcases List.mem_cons.1 this with e | e
      · subst e
        have := h2.1 x hx
        rw [ltO_irr] at this; cases this
      · exact e
/-- Putting a spot into a list. -/
def pt (s : So) : Bool → List So → List So
  | done, [] => if done then [] else [s]
  | done, t :: l => (if (!done && !ltO t s) = true then [s] else []) ++ ((if t = s then [] else [t]) ++ pt s (done || !ltO t s) l)
theorem pt_true (s : So) : ∀ l, pt s true l = l.filter fun t => decide (t ≠ s)
  | [] => rfl
  | t :: l => by
    simp only [pt, Bool.not_true, Bool.false_and, Bool.false_eq_true, if_false, List.nil_append, Bool.true_or, pt_true s l]
    by_cases h : t = s
    · simp [h]
    · simp [h]
theorem pt_asc {s : So} : ∀ {l : List So}, Asc l → pt s false l = l.filter (fun t => ltO t s) ++ s :: l.filter (fun t => ltO s t)
  | [], _ => rfl
  | t :: l, h => by
    rw [Asc, List.pairwise_cons] at h
    cases c : ltO t s
    · have hf : (t :: l).filter (fun t => ltO t s) = [] := by
        rw [List.filter_eq_nil_iff]
        intro x hx
        rcases List.mem_cons.1 hx with e | e
        · subst e; simp [c]
        · have := h.1 x e
          intro q
          have := ltO_tr this q
          rw [c] at this; cases this
      have hg : ((t :: l).filter fun x => decide (x ≠ s)) = (t :: l).filter (fun x => ltO s x) := by
        apply List.filter_congr
        intro x hx
        have hsx : ltO x s = false := by
          have := List.filter_eq_nil_iff.1 hf x hx
          simpa using this
        rw [Bool.eq_iff_iff]
        simp
        constructor
        · intro hne
          cases q : ltO s x
          · exact absurd (ltO_tot hsx q) hne
          · rfl
        · intro q e
          subst e
          rw [ltO_irr] at q; cases q
      rw [hf, ← hg]
      simp only [pt, c, Bool.not_false, Bool.true_and, if_true, Bool.or_true, Bool.false_or, pt_true, List.nil_append]
      by_cases e : t = s
      · simp [e]
      · simp [e]
    · have hts : t ≠ s := fun e => by rw [e, ltO_irr] at c; cases c
      have hst := ltO_as c
      simp only [pt, c, Bool.not_true, Bool.and_false, Bool.false_eq_true, if_false, List.nil_append, Bool.or_false, pt_asc h.2, if_neg hts, List.filter_cons, if_true, hst]
      simp
theorem pt_mem {s : So} {l : List So} (h : Asc l) (x : So) : x ∈ pt s false l ↔ x = s ∨ x ∈ l := by
  rw [pt_asc h, List.mem_append, List.mem_cons, List.mem_filter, List.mem_filter]
  constructor
  · rintro (h | rfl | h)
    · exact .inr h.1
    · exact .inl rfl
    · exact .inr h.1
  · rintro (rfl | h)
    · exact .inr (.inl rfl)
    · cases q : ltO x s
      · cases q2 : ltO s x
        · exact .inr (.inl (ltO_tot q q2))
        · exact .inr (.inr ⟨h, rfl⟩)
      · exact .inl ⟨h, rfl⟩
theorem pt_Asc {s : So} {l : List So} (h : Asc l) : Asc (pt s false l) := by
  rw [pt_asc h, Asc, List.pairwise_append]
  refine ⟨h.filter _, ?_, ?_⟩
  · rw [List.pairwise_cons]
    exact ⟨fun x hx => (List.mem_filter.1 hx).2, h.filter _⟩
  · intro a ha b hb
    have h1 := (List.mem_filter.1 ha).2
    rcases List.mem_cons.1 hb with rfl | hb
    · exact h1
    · exact ltO_tr h1 (List.mem_filter.1 hb).2
def ptAll (l : List So) : List So := l.foldl (fun a s => pt s false a) []
theorem ptAll_spec (l : List So) : Asc (ptAll l) ∧ ∀ x, x ∈ ptAll l ↔ x ∈ l := by
  have key : ∀ (l acc : List So), Asc acc → Asc (l.foldl (fun a s => pt s false a) acc) ∧ ∀ x, x ∈ l.foldl (fun a s => pt s false a) acc ↔ x ∈ acc ∨ x ∈ l := by
    intro l
    induction l with
    | nil => intro acc h; exact ⟨h, fun x => by simp⟩
    | cons s l ih =>
      intro acc h
      obtain ⟨h1, h2⟩ := ih (pt s false acc) (pt_Asc h)
      refine ⟨h1, fun x => ?_⟩
      rw [List.foldl_cons, h2, pt_mem h, List.mem_cons]
      constructor
      · rintro ((rfl | h) | h)
        · exact .inr (.inl rfl)
        · exact .inl h
        · exact .inr (.inr h)
      · rintro (h | rfl | h)
        · exact .inl (.inr h)
        · exact .inl (.inl rfl)
        · exact .inr h
  obtain ⟨h1, h2⟩ := key l [] List.Pairwise.nil
  exact ⟨h1, fun x => by rw [ptAll, h2]; simp⟩
/-- Neighbours that are the same, once. -/
def cps : List So → List So
  | [] => []
  | [x] => [x]
  | x :: y :: l => if x = y then cps (y :: l) else x :: cps (y :: l)
theorem cps_mem : ∀ (l : List So) (x : So), x ∈ cps l ↔ x ∈ l
  | [], x => by simp [cps]
  | [a], x => by simp [cps]
  | a :: b :: l, x => by
    rw [cps]
    have ih := cps_mem (b :: l) x
    split
    · rename_i e
      subst e
      rw [ih]; simp
    · rw [List.mem_cons, ih, List.mem_cons (a := x) (b := a)]
theorem cps_asc : ∀ {l : List So}, l.Pairwise (fun a b => ltO b a = false) → Asc (cps l)
  | [], _ => List.Pairwise.nil
  | [a], _ => by simp [cps]
  | a :: b :: l, h => by
    rw [cps]
    have h' := h
    rw [List.pairwise_cons] at h
    have ih := cps_asc h.2
    split
    · exact ih
    · rename_i hne
      rw [Asc, List.pairwise_cons]
      refine ⟨fun x hx => ?_, ih⟩
      rw [cps_mem] at hx
      have h1 := h.1 x hx
      cases q : ltO a x
      · exfalso
        have e := ltO_tot q h1
        subst e
        rcases List.mem_cons.1 hx with e | e
        · exact hne e
        · have h2 := (List.pairwise_cons.1 h.2).1 a e
          have h3 := h.1 b (by simp)
          exact hne (ltO_tot h2 h3)
      · rfl
/-- Sorted, each once: as if put in one by one. -/
theorem cps_srt {l m : List So} (hm : m.Pairwise (fun a b => ltO b a = false)) (hp : ∀ x, x ∈ m ↔ x ∈ l) : cps m = ptAll l :=
  asc_ext (cps_asc hm) (ptAll_spec l).1 fun x => by rw [cps_mem, hp, (ptAll_spec l).2]
theorem cps_srtS (l : List So) : cps (srtS l) = ptAll l := by
  have hlt : ∀ a b, ltOf cmS a b = ltO a b := fun a b => rfl
  refine cps_srt ?_ fun x => ?_
  · have := List.pairwise_mergeSort (le := fun x y => !(ltOf cmS) y x) (fun a b c h1 h2 => by
      simp only [hlt, Bool.not_eq_true'] at *
      rw [ltO_no] at *; omega) (fun a b => by
      simp only [hlt]
      cases q : ltO b a
      · rfl
      · rw [ltO_as q]; rfl) l
    refine this.imp fun h => ?_
    simpa [hlt] using h
  · unfold srtS
    rw [List.mem_mergeSort]
end Go.Proofs.YtiaeckidlmoohaaGreat
end

section
set_option linter.unusedVariables false
set_option linter.unusedSimpArgs false
set_option maxHeartbeats 8000000
set_option maxRecDepth 20000
namespace Go.Proofs.YtiaeckidlmoohaaGreat
open Go.Proofs.YtiaeckidlmoohaaGreat.PM

def atS (s : So) (q : Sg) : Bool := decide (q.t = s.t ∧ q.p = s.p ∧ q.o = s.o)
/-- The kind of the first signal at a spot's end; -1: there is none. -/
def sgF (g : List Sg) (s : So) : Int := match g.find? (atS s) with | some q => q.k | none => -1
theorem sgF_at {g : List Sg} {s : So} {i : Nat} (hi : i < g.length) (h : atS s g[i] = true) (hz : ∀ j (hj : j < g.length), j < i → atS s g[j] = false) : sgF g s = g[i].k := by
  have : g.find? (atS s) = some g[i] := by
    rw [List.find?_eq_some_iff_getElem]
    exact ⟨h, i, hi, rfl, fun j hj => by rw [hz j (by omega) hj]; rfl⟩
  unfold sgF
  rw [this]
theorem sgF_no {g : List Sg} {s : So} (hz : ∀ j (hj : j < g.length), atS s g[j] = false) : sgF g s = -1 := by
  have : g.find? (atS s) = none := by
    rw [List.find?_eq_none]
    intro x hx
    obtain ⟨j, hj, rfl⟩ := List.getElem_of_mem hx
    rw [hz j hj]; simp
  unfold sgF
  rw [this]
theorem signal_ok {nl : Nl} (g : List Sg) (st sp so : Int) (hg : g.length ≤ 2000) : R tc 140 [lst nl g, .int .i64 st, .int .i64 sp, .int .i64 so] = some (.int .i64 (sgF g ⟨st, sp, so⟩)) := by
  refine R_of_G (F := pf140) (tc_nat _ rfl) rfl rfl ?_
  simp (disch := first | omega | with_unfolding_all rfl) [pf140, env0_eq]
  refine G_scanC [1, 2, 3, 11, 12] 13 (fun i => match g[i]? with | some q => atS ⟨st, sp, so⟩ q | none => false) g.length 0 (by simp) (Nat.zero_le _) ?_
  rintro i e - hi hz hk g13
  simp at hk
  have hz' : ∀ j (hj : j < g.length), j < i → atS ⟨st, sp, so⟩ g[j] = false := fun j hj h => by
    have := hz j (Nat.zero_le j) h
    simpa only [List.getElem?_eq_getElem hj] using this
  simp (disch := first | omega | with_unfolding_all rfl) [hk, g13]
  refine G_brd (fun d => ?_) (fun d => ?_)
  · have hin : i < g.length := by omega
    have hat := fun h => sgF_at (s := ⟨st, sp, so⟩) hin h hz'
    obtain ⟨x, hx⟩ : ∃ x, x = g[i] := ⟨_, rfl⟩
    rw [← hx] at hat
    simp (disch := first | omega | with_unfolding_all rfl) [hk, g13, d, ← hx]
    by_cases c1 : x.t = st
    case neg =>
      have hno : atS ⟨st, sp, so⟩ x = false := by simp [atS, c1]
      simp (disch := first | omega | with_unfolding_all rfl) [hk, g13, c1, hno]
      try omega
    by_cases c2 : x.p = sp
    case neg =>
      have hno : atS ⟨st, sp, so⟩ x = false := by simp [atS, c2]
      simp (disch := first | omega | with_unfolding_all rfl) [hk, g13, c1, c2, hno]
      try omega
    by_cases c3 : x.o = so
    case neg =>
      have hno : atS ⟨st, sp, so⟩ x = false := by simp [atS, c3]
      simp (disch := first | omega | with_unfolding_all rfl) [hk, g13, c1, c2, c3, hno]
      try omega
    have hyes : atS ⟨st, sp, so⟩ x = true := by simp [atS, c1, c2, c3]
    have := hat hyes
    simp (disch := first | omega | with_unfolding_all rfl) [hk, g13, c1, c2, c3, this]
  · have hno : sgF g ⟨st, sp, so⟩ = -1 := sgF_no fun j hj => hz' j hj (by omega)
    simp (disch := first | omega | with_unfolding_all rfl) [hk, g13, d, hno]
theorem pt_len (s : So) : ∀ (l : List So) (d : Bool), (pt s d l).length ≤ l.length + 1
  | [], d => by cases d <;> simp [pt]
  | t :: l, true => by
    have := pt_len s l true
    rw [pt_true] at *
    have := List.length_filter_le (fun t => decide (t ≠ s)) (t :: l)
    omega
  | t :: l, false => by
    cases c : ltO t s
    · have h1 : pt s true l = l.filter fun t => decide (t ≠ s) := pt_true s l
      have h2 := List.length_filter_le (fun t => decide (t ≠ s)) l
      simp only [pt, c, Bool.not_false, Bool.true_and, if_true, Bool.or_true, Bool.false_or, h1]
      generalize (l.filter fun t => decide (t ≠ s)) = F at h2
      split <;> simp <;> omega
    · have := pt_len s l false
      simp only [pt, c, Bool.not_true, Bool.and_false, Bool.false_eq_true, if_false, List.nil_append, Bool.or_false, List.length_append, List.length_cons]
      split <;> simp <;> omega
theorem pt_ne (s : So) (l : List So) : pt s false l ≠ [] := by
  intro h
  have : s ∈ pt s false l := by
    induction l with
    | nil => simp [pt]
    | cons t l ih =>
      cases c : ltO t s
      · simp [pt, c]
      · simp only [pt, c, Bool.not_true, Bool.and_false, Bool.false_eq_true, if_false, List.nil_append, Bool.or_false] at h ⊢
        have := ih (List.append_eq_nil_iff.1 h).2
        simp [this]
  rw [h] at this; cases this
def PtI (s : So) (l : List So) (i : Nat) (a b : PV) (h : Hp) : Prop := ∃ (g : Nat) (acc : List So) (dn : Bool), a = mls So 0 g acc.length ∧ b = .bool dn ∧ h = [bk 54 g acc] ∧ acc ++ pt s dn (l.drop i) = pt s false l
theorem put_ok {nl : Nl} (l : List So) (s : So) (hl : l.length ≤ 1000) : R tc 142 [lst nl l, vSo s] = some (lst .any (pt s false l)) := by
  have hpl := pt_len s l false
  refine R_of_G (F := pf142) (tc_nat _ rfl) rfl rfl ?_
  simp (disch := first | omega | with_unfolding_all rfl) [pf142, env0_eq]
  refine G_loopK [3, 9, 10] (fun (i : Nat) e h => i ≤ l.length ∧ get e 11 = .int .i64 (i : Int) ∧ PtI s l i (get e 5) (get e 6) h) (fun i => l.length - i) (a₀ := 0) ⟨by omega, by simp, 0, [], false, rfl, by simp, rfl, by simp⟩ ?_
  rintro i e h hk ⟨hi, g11, g, acc, dn, g5, g6, rfl, hacc⟩
  simp at hk
  have hq : ∀ y : So, acc.length + 1 = (acc ++ [y]).length := fun y => by simp
  have hal : acc.length ≤ l.length + 1 := by have := congrArg List.length hacc; rw [List.length_append] at this; omega
  simp (disch := first | omega | exact hq _ | with_unfolding_all rfl) [hk, g11]
  refine G_brd (fun d => ?_) (fun d => ?_)
  · have hin : i < l.length := by omega
    have hdr : l.drop i = l[i] :: l.drop (i + 1) := List.drop_eq_getElem_cons hin
    obtain ⟨x, hx⟩ : ∃ x, x = l[i] := ⟨_, rfl⟩
    rw [← hx] at hdr
    rw [hdr, pt] at hacc
    have hls := lessR_ok x s
    have hb : (!x.t == s.t || (!x.p == s.p || !x.o == s.o)) = !decide (x = s) := by rw [← Bool.not_and, ← Bool.not_and, Bool.eq_iff_iff]; simp [so_ext]
    simp only [vSo] at hls
    simp (disch := first | omega | exact hq _ | with_unfolding_all rfl) [hk, g11, g5, g6, d, ← hx]
    cases dn
    · simp (disch := first | omega | exact hq _ | with_unfolding_all rfl) [hk, g11, g5, g6, hls]
      cases c : ltO x s
      · simp (disch := first | omega | exact hq _ | with_unfolding_all rfl) [hk, g11, g5, g6, c]
        rw [hb]
        by_cases c2 : x = s
        · simp (disch := first | omega | exact hq _ | with_unfolding_all rfl) [hk, g11, g5, g6, c2]
          simp [c, c2, ltO_irr] at hacc
          refine ⟨i + 1, by omega, by omega, by omega, ?_⟩
          exact ⟨g + 1, acc ++ [s], true, by simp, rfl, rfl, by simpa using hacc⟩
        · simp (disch := first | omega | exact hq _ | with_unfolding_all rfl) [hk, g11, g5, g6, c2]
          simp [c, c2, ltO_irr] at hacc
          refine ⟨i + 1, by omega, by omega, by omega, ?_⟩
          exact ⟨g + 1 + 1, acc ++ [s, x], true, by simp, rfl, rfl, by simpa using hacc⟩
      · simp (disch := first | omega | exact hq _ | with_unfolding_all rfl) [hk, g11, g5, g6, c]
        rw [hb]
        by_cases c2 : x = s
        · exfalso; rw [c2, ltO_irr] at c; cases c
        · simp (disch := first | omega | exact hq _ | with_unfolding_all rfl) [hk, g11, g5, g6, c2]
          simp [c, c2, ltO_irr] at hacc
          refine ⟨i + 1, by omega, by omega, by omega, ?_⟩
          exact ⟨g + 1, acc ++ [x], false, by simp, rfl, rfl, by simpa using hacc⟩
    · simp (disch := first | omega | exact hq _ | with_unfolding_all rfl) [hk, g11, g5, g6]
      rw [hb]
      by_cases c2 : x = s
      · simp (disch := first | omega | exact hq _ | with_unfolding_all rfl) [hk, g11, g5, g6, c2]
        simp [c2] at hacc
        refine ⟨i + 1, by omega, by omega, by omega, ?_⟩
        exact ⟨g, acc, true, rfl, rfl, rfl, by simpa using hacc⟩
      · simp (disch := first | omega | exact hq _ | with_unfolding_all rfl) [hk, g11, g5, g6, c2]
        simp [c2] at hacc
        refine ⟨i + 1, by omega, by omega, by omega, ?_⟩
        exact ⟨g + 1, acc ++ [x], true, by simp, rfl, rfl, by simpa using hacc⟩
  · have hi2 : l.drop i = [] := List.drop_eq_nil_iff.2 (by omega)
    rw [hi2] at hacc
    cases dn
    · simp [pt] at hacc
      simp (disch := first | omega | exact hq _ | with_unfolding_all rfl) [hk, g11, g5, g6, d]
      rw [← hacc]
    · simp [pt] at hacc
      simp (disch := first | omega | exact hq _ | with_unfolding_all rfl) [hk, g11, g5, g6, d]
      rw [← hacc]
end Go.Proofs.YtiaeckidlmoohaaGreat
end

section
set_option linter.unusedVariables false
set_option linter.unusedSimpArgs false
set_option maxHeartbeats 8000000
set_option maxRecDepth 20000
namespace Go.Proofs.YtiaeckidlmoohaaGreat
open Go.Proofs.YtiaeckidlmoohaaGreat.PM

theorem sg_sorted {ls : List Sg} (h : anyN (badK ls) 0 ls.length = false) : ls.Pairwise ltS := by
  have adj : ∀ i (h1 : i + 1 < ls.length), ltS ls[i] ls[i + 1] := by
    intro i h1
    have := anyN_off h (Nat.zero_le (i + 1)) h1
    have h0 : i < ls.length := by omega
    simp only [badK, List.getElem?_eq_getElem h1, Nat.add_sub_cancel, List.getElem?_eq_getElem h0] at this
    simpa using (Bool.or_eq_false_iff.1 (Bool.or_eq_false_iff.1 this).2).2
  have far : ∀ d i (h1 : i + d + 1 < ls.length) (h0 : i < ls.length), ltS ls[i] ls[i + d + 1] := by
    intro d
    induction d with
    | zero => intro i h1 h0; exact adj i h1
    | succ d ih =>
      intro i h1 h0
      exact ltS_trans (ih i (by omega) h0) (adj (i + d + 1) h1)
  rw [List.pairwise_iff_getElem]
  intro i j hi hj hij
  obtain ⟨d, rfl⟩ : ∃ d, j = i + d + 1 := ⟨j - i - 1, by omega⟩
  exact far d i hj hi
theorem valErr_k {r : Rl} {ls : List Sg} (h : valErr r ls = 0) : anyN (badK ls) 0 ls.length = false := by
  unfold valErr at h
  repeat' split at h
  all_goals simp_all
/-- The signals of a yard that is right. -/
theorem sig_uniq {r : Rl} {g : List Sg} (h : valErr r g = 0) : (∀ x ∈ g, 0 ≤ x.k) ∧ ∀ (s : So), ∀ x ∈ g, ∀ y ∈ g, atS s x = true → atS s y = true → x = y := by
  have hk := valErr_k h
  have hp := sg_sorted hk
  refine ⟨fun x hx => ?_, fun s x hx y hy h1 h2 => ?_⟩
  · obtain ⟨i, hi, rfl⟩ := List.getElem_of_mem hx
    have := anyN_off hk (Nat.zero_le i) hi
    simp only [badK, List.getElem?_eq_getElem hi] at this
    simp at this
    omega
  · rw [List.pairwise_iff_getElem] at hp
    obtain ⟨i, hi, rfl⟩ := List.getElem_of_mem hx
    obtain ⟨j, hj, rfl⟩ := List.getElem_of_mem hy
    unfold atS at h1 h2
    rw [decide_eq_true_eq] at h1 h2
    rcases Nat.lt_trichotomy i j with q | q | q
    · have := hp i j hi hj q
      unfold ltS at this; omega
    · subst q; rfl
    · have := hp j i hj hi q
      unfold ltS at this; omega
theorem sgF_K {y : Yd} (v : Val y) (s : So) : match sgK y.g s with | some k => sgF y.g s = k ∧ 0 ≤ k | none => sgF y.g s = -1 := by
  obtain ⟨h0, hu⟩ := sig_uniq (Val.parts v.e).1
  have hat : (fun q : Sg => decide (q.t = s.t ∧ q.p = s.p ∧ q.o = s.o)) = atS s := rfl
  unfold sgK
  rw [hat]
  cases hf : y.g.reverse.find? (atS s) with
  | none =>
    have : ∀ x ∈ y.g, ¬ atS s x = true := fun x hx => by
      have := List.find?_eq_none.1 hf x (by simpa using hx)
      exact this
    show sgF y.g s = -1
    unfold sgF
    rw [List.find?_eq_none.2 this]
  | some q =>
    have h1 := List.find?_some hf
    have h2 : q ∈ y.g := by simpa using List.mem_of_find?_eq_some hf
    show sgF y.g s = q.k ∧ 0 ≤ q.k
    refine ⟨?_, h0 q h2⟩
    unfold sgF
    cases hg : y.g.find? (atS s) with
    | none => exact absurd h1 (List.find?_eq_none.1 hg q h2)
    | some q' =>
      have h3 := List.find?_some hg
      have h4 := List.mem_of_find?_eq_some hg
      show q'.k = q.k
      rw [hu s q' h4 q h2 h3 h1]
/-- May one go on from a spot to one beyond it? -/
def okN (y : Yd) (s n : So) : Bool := decide (0 ≤ sgF y.g s) || (decide (sgF y.g ⟨n.t, n.p, (s.o + 2).tmod 4⟩ < 0) || decide (sgF y.g ⟨n.t, n.p, (s.o + 2).tmod 4⟩ = 4))
/-- The spots that one may go on to. -/
noncomputable def optL (y : Yd) (s : So) : List So := (nxt y.r s).filter (okN y s) ++ jts y.j s
theorem ptAll_snoc (l : List So) (n : So) : ptAll (l ++ [n]) = pt n false (ptAll l) := by simp [ptAll]
theorem nlA_ne {α : Type} {l : List α} (h : l ≠ []) : nlA l = .any := by cases l with | nil => exact absurd rfl h | cons _ _ => rfl
theorem ptAll_len (l : List So) : (ptAll l).length ≤ l.length := by
  have key : ∀ (n : Nat) (m : List So), m.length = n → (ptAll m).length ≤ m.length := by
    intro n
    induction n with
    | zero => intro m h; rw [List.length_eq_zero_iff.1 h]; simp [ptAll]
    | succ n ih =>
      intro m h
      have hne : m ≠ [] := fun q => by rw [q] at h; simp at h
      have hm := List.dropLast_concat_getLast hne
      have hl : m.dropLast.length = n := by simp; omega
      have := ih m.dropLast hl
      have h2 := pt_len (m.getLast hne) (ptAll m.dropLast) false
      rw [← hm, ptAll_snoc]
      simp only [List.length_append, List.length_cons, List.length_nil]
      omega
  exact key _ l rfl
theorem turns_ok (y : Yd) (g : Good y.r) (hg : y.g.length ≤ 2000) (hj : y.j.length ≤ 900) {s : So} (h1 : has s.p s.o = true) (h2 : lie y.r s.t s.p = true) : R tc 93 [vYd y, vSo s] = some (lst (nlA (ptAll (optL y s))) (ptAll (optL y s))) := by
  have hn := on_ok g h1 h2
  obtain ⟨nl, hnl, hnv⟩ := nxtV_lst y.r s
  rw [hnv] at hn
  have hl6 := nxU_len6 y.r s
  have ho := (has_lt h1).2.2
  have hs1 := signal_ok (nl := y.n1) y.g s.t s.p s.o hg
  have hs2 := fun n : So => signal_ok (nl := y.n1) y.g n.t n.p ((s.o + 2).tmod 4) hg
  unfold optL
  obtain ⟨N, hN⟩ : ∃ N, N = nxt y.r s := ⟨_, rfl⟩
  rw [← hN] at hn hl6 ⊢
  obtain ⟨st, sp, so⟩ := s
  dsimp only at *
  refine R_of_G (F := pf93) (tc_nat _ rfl) rfl rfl ?_
  simp (disch := first | omega | with_unfolding_all rfl) [pf93, env0_eq, hs1, hn]
  refine G_loopK [2, 3, 6, 25, 26] (fun (i : Nat) e h => i ≤ N.length ∧ get e 27 = .int .i64 (i : Int) ∧ h = [] ∧ get e 5 = lst (nlA (ptAll ((N.take i).filter (okN y ⟨st, sp, so⟩)))) (ptAll ((N.take i).filter (okN y ⟨st, sp, so⟩)))) (fun i => N.length - i) (a₀ := 0) ⟨by omega, by simp, rfl, by simp; rfl⟩ ?_
  rintro i e h hk ⟨hi, g27, rfl, g5⟩
  simp at hk
  obtain ⟨A, hA⟩ : ∃ A, A = ptAll ((N.take i).filter (okN y ⟨st, sp, so⟩)) := ⟨_, rfl⟩
  have hAl : A.length ≤ 6 := by
    rw [hA]
    refine Nat.le_trans (ptAll_len _) (Nat.le_trans (List.length_filter_le _ _) ?_)
    simp; omega
  rw [← hA] at g5
  simp (disch := first | omega | with_unfolding_all rfl) [hk, g27]
  refine G_brd (fun d => ?_) (fun d => ?_)
  · have hin : i < N.length := by omega
    obtain ⟨x, hx⟩ : ∃ x, x = N[i] := ⟨_, rfl⟩
    have htk : (N.take (i + 1)).filter (okN y ⟨st, sp, so⟩) = (N.take i).filter (okN y ⟨st, sp, so⟩) ++ if okN y ⟨st, sp, so⟩ x = true then [x] else [] := by
      rw [List.take_add_one, List.getElem?_eq_getElem hin, ← hx, List.filter_append]
      simp [List.filter_cons]
    have hs := hs2 x
    have hp := put_ok (nl := nlA A) A x (by omega)
    simp only [vSo] at hp
    simp (disch := first | omega | with_unfolding_all rfl) [hk, g27, g5, d, ← hx, hs]
    have hfin : ∀ e' : Env, okN y ⟨st, sp, so⟩ x = true → lst Nl.any (pt x false A) = lst (nlA (ptAll ((N.take (i + 1)).filter (okN y ⟨st, sp, so⟩)))) (ptAll ((N.take (i + 1)).filter (okN y ⟨st, sp, so⟩))) := fun _ hy => by
      rw [htk, if_pos hy, ptAll_snoc, ← hA, nlA_ne (pt_ne x A)]
    have hfin2 : okN y ⟨st, sp, so⟩ x = false → lst (nlA A) A = lst (nlA (ptAll ((N.take (i + 1)).filter (okN y ⟨st, sp, so⟩)))) (ptAll ((N.take (i + 1)).filter (okN y ⟨st, sp, so⟩))) := fun hy => by
      rw [htk, hy]; simp [← hA]
    by_cases c1 : 0 ≤ sgF y.g ⟨st, sp, so⟩
    · have hy : okN y ⟨st, sp, so⟩ x = true := by simp [okN, c1]
      simp (disch := first | omega | with_unfolding_all rfl) [hk, g27, g5, c1, hp]
      exact ⟨i + 1, by omega, by omega, by omega, hfin [] hy⟩
    by_cases c2 : sgF y.g ⟨x.t, x.p, (so + 2).tmod 4⟩ < 0
    · have hy : okN y ⟨st, sp, so⟩ x = true := by simp [okN, c2]
      simp (disch := first | omega | with_unfolding_all rfl) [hk, g27, g5, c1, c2, hp]
      exact ⟨i + 1, by omega, by omega, by omega, hfin [] hy⟩
    by_cases c3 : sgF y.g ⟨x.t, x.p, (so + 2).tmod 4⟩ = 4
    · have hy : okN y ⟨st, sp, so⟩ x = true := by simp [okN, c3]
      simp (disch := first | omega | with_unfolding_all rfl) [hk, g27, g5, c1, c2, c3, hp]
      exact ⟨i + 1, by omega, by omega, by omega, hfin [] hy⟩
    · have hy : okN y ⟨st, sp, so⟩ x = false := by simp [okN, c1, c2, c3]
      simp (disch := first | omega | with_unfolding_all rfl) [hk, g27, g5, c1, c2, c3]
      exact ⟨i + 1, by omega, by omega, by omega, hfin2 hy⟩
  · have hi2 : N.take i = N := List.take_of_length_le (by omega)
    rw [hi2] at hA
    simp (disch := first | omega | with_unfolding_all rfl) [hk, g27, g5, d]
    clear hk g27 d hi2 hs2
    refine G_loopK [3, 56, 57] (fun (i : Nat) e h => i ≤ y.j.length ∧ get e 58 = .int .i64 (i : Int) ∧ h = [] ∧ get e 5 = lst (nlA (ptAll (N.filter (okN y ⟨st, sp, so⟩) ++ jts (y.j.take i) ⟨st, sp, so⟩))) (ptAll (N.filter (okN y ⟨st, sp, so⟩) ++ jts (y.j.take i) ⟨st, sp, so⟩))) (fun i => y.j.length - i) (a₀ := 0) ⟨by omega, by simp, rfl, by simp [jts, ← hA]⟩ ?_
    rintro j e h hk ⟨hj2, g58, rfl, g5⟩
    simp at hk
    obtain ⟨B, hB⟩ : ∃ B, B = ptAll (N.filter (okN y ⟨st, sp, so⟩) ++ jts (y.j.take j) ⟨st, sp, so⟩) := ⟨_, rfl⟩
    have hBl : B.length ≤ 906 := by
      rw [hB]
      refine Nat.le_trans (ptAll_len _) ?_
      have q1 := List.length_filter_le (okN y ⟨st, sp, so⟩) N
      have q2 := jts_len (y.j.take j) ⟨st, sp, so⟩
      rw [List.length_append]
      have q3 : (y.j.take j).length ≤ y.j.length := by simp; omega
      omega
    rw [← hB] at g5
    simp (disch := first | omega | with_unfolding_all rfl) [hk, g58]
    refine G_brd (fun d => ?_) (fun d => ?_)
    · have hin : j < y.j.length := by omega
      obtain ⟨x, hx⟩ : ∃ x, x = y.j[j] := ⟨_, rfl⟩
      have htk : jts (y.j.take (j + 1)) ⟨st, sp, so⟩ = if x.a = ⟨st, sp, so⟩ then jts (y.j.take j) ⟨st, sp, so⟩ ++ [x.b] else jts (y.j.take j) ⟨st, sp, so⟩ := by
        rw [List.take_add_one, List.getElem?_eq_getElem hin, ← hx]
        exact jts_snoc _ _ _
      have hp := put_ok (nl := nlA B) B x.b (by omega)
      simp only [vSo] at hp
      have hb : (x.a.t == st && (x.a.p == sp && x.a.o == so)) = decide (x.a = (⟨st, sp, so⟩ : So)) := by rw [Bool.eq_iff_iff]; simp [so_ext]
      simp (disch := first | omega | with_unfolding_all rfl) [hk, g58, g5, d, ← hx]
      rw [hb]
      by_cases c : x.a = (⟨st, sp, so⟩ : So)
      · simp (disch := first | omega | with_unfolding_all rfl) [hk, g58, g5, c, hp]
        refine ⟨j + 1, by omega, by omega, by omega, ?_⟩
        rw [htk, if_pos c, ← List.append_assoc, ptAll_snoc, ← hB, nlA_ne (pt_ne x.b B)]
      · simp (disch := first | omega | with_unfolding_all rfl) [hk, g58, g5, c]
        refine ⟨j + 1, by omega, by omega, by omega, ?_⟩
        rw [htk, if_neg c, ← hB]
    · have hj3 : y.j.take j = y.j := List.take_of_length_le (by omega)
      rw [hj3] at hB
      simp (disch := first | omega | with_unfolding_all rfl) [hk, g58, g5, d]
      rw [hB]
theorem other_has {p o : Int} (h : 0 ≤ p ∧ p < 6) : ((if o = sa p then sb p else if o = sb p then sa p else -1) < 0) = ¬ has p o = true := by
  have := sab_rg h
  unfold has
  by_cases c1 : o = sa p
  · simp [c1, h]; omega
  · by_cases c2 : o = sb p
    · simp [c1, c2, h]
      split <;> omega
    · simp [c1, c2, h]
theorem lieS_eq {r : Rl} {s : So} (h : has s.p s.o = true) : lieS r s = lie r s.t s.p := by
  have h' := h
  unfold has at h'
  unfold lieS
  rw [Bool.and_eq_true] at h'
  rw [h'.2, Bool.and_true]
noncomputable def optV (y : Yd) (s : So) (nl : Nl) : PV := if yErr y = 0 then (if spErr y.r s = 0 then .tup [lst nl (ptAll (optL y s)), .int .i64 0] else .tup [.list .nil 3 [], .int .i64 (spErr y.r s)]) else .tup [.list .nil 3 [], .int .i64 (yErr y)]
theorem refOptions_ok (y : Yd) (k : Yk y) (s : So) : R tc 37 [vYd y, vSo s] = some (optV y s (nlA (ptAll (optL y s)))) := by
  have hv := refValidateT_ok y k
  unfold optV
  refine R_of_G (F := pf37) (tc_nat _ rfl) rfl rfl ?_
  by_cases h0 : yErr y = 0
  case neg => 
    obtain ⟨st, sp, so⟩ := s
    simp (disch := first | omega | with_unfolding_all rfl) [pf37, env0_eq, hv, h0]
  rw [h0] at hv
  have vl : Val y := ⟨h0, k⟩
  have hw := within_ok s.p 0 5
  have hl := liesR_ok vl.good s
  by_cases h1 : has s.p s.o = true
  · have hp : 0 ≤ s.p ∧ s.p < 6 := ⟨(has_lt h1).1, (has_lt h1).2.1⟩
    have hot := otherR_ok hp s.o
    have hno : ¬ ((if s.o = sa s.p then sb s.p else if s.o = sb s.p then sa s.p else -1) < 0) := by rw [other_has hp]; simp [h1]
    obtain ⟨O, hO⟩ : ∃ O : Int, O = if s.o = sa s.p then sb s.p else if s.o = sb s.p then sa s.p else -1 := ⟨_, rfl⟩
    rw [← hO] at hot hno
    rw [lieS_eq h1] at hl
    have hp5 : 0 ≤ s.p ∧ s.p ≤ 5 := by omega
    by_cases h2 : lie y.r s.t s.p = true
    · have ht := turns_ok y vl.good (by have := k.g; omega) (by have := (Val.parts vl.e).2.1; omega) h1 h2
      have hsp : spErr y.r s = 0 := by unfold spErr; rw [if_pos h1, if_pos h2]
      rw [h2] at hl
      obtain ⟨st, sp, so⟩ := s
      dsimp only at *
      simp (disch := first | omega | with_unfolding_all rfl) [pf37, env0_eq, hv, h0, hw, hp5, hot, hno, hl, ht, hsp]
    · have hsp : spErr y.r s = 2 := by unfold spErr; rw [if_pos h1, if_neg h2]
      have h2' : lie y.r s.t s.p = false := by simpa using h2
      rw [h2'] at hl
      obtain ⟨st, sp, so⟩ := s
      dsimp only at *
      simp (disch := first | omega | with_unfolding_all rfl) [pf37, env0_eq, hv, h0, hw, hp5, hot, hno, hl, hsp]
  · have hsp : spErr y.r s = 1 := by unfold spErr; rw [if_neg h1]
    by_cases hp : 0 ≤ s.p ∧ s.p < 6
    · have hot := otherR_ok hp s.o
      have hno : (if s.o = sa s.p then sb s.p else if s.o = sb s.p then sa s.p else -1) < 0 := by rw [other_has hp]; exact h1
      obtain ⟨O, hO⟩ : ∃ O : Int, O = if s.o = sa s.p then sb s.p else if s.o = sb s.p then sa s.p else -1 := ⟨_, rfl⟩
      rw [← hO] at hot hno
      have hp5 : 0 ≤ s.p ∧ s.p ≤ 5 := by omega
      obtain ⟨st, sp, so⟩ := s
      dsimp only at *
      simp (disch := first | omega | with_unfolding_all rfl) [pf37, env0_eq, hv, h0, hw, hp5, hot, hno, hsp]
    · have hp5 : ¬ (0 ≤ s.p ∧ s.p ≤ 5) := by omega
      obtain ⟨st, sp, so⟩ := s
      dsimp only at *
      simp (disch := first | omega | with_unfolding_all rfl) [pf37, env0_eq, hv, h0, hw, hp5, hsp]
end Go.Proofs.YtiaeckidlmoohaaGreat
end

section
set_option linter.unusedVariables false
set_option linter.unusedSimpArgs false
set_option maxHeartbeats 8000000
set_option maxRecDepth 20000
namespace Go.Proofs.YtiaeckidlmoohaaGreat
open Go.Proofs.YtiaeckidlmoohaaGreat.PM

theorem cps_snoc : ∀ (l : List So) (b a : So), cps (l ++ [b] ++ [a]) = if b = a then cps (l ++ [b]) else cps (l ++ [b]) ++ [a]
  | [], b, a => by
    by_cases h : b = a
    · subst h; simp [cps]
    · simp [cps, h]
  | [x], b, a => by
    by_cases h : b = a
    · subst h
      by_cases h2 : x = b
      · simp [cps, h2]
      · simp [cps, h2]
    · by_cases h2 : x = b
      · simp [cps, h2, h]
      · simp [cps, h2, h]
  | x :: y :: l, b, a => by
    have ih := cps_snoc (y :: l) b a
    simp only [List.cons_append] at ih ⊢
    rw [cps, cps, ih]
    by_cases h : b = a
    · simp [h]
    · by_cases h2 : x = y
      · simp [h, h2]
      · simp [h, h2]
theorem cps_take {xs : List So} {k : Nat} (h0 : 0 < k) (hk : k < xs.length) : cps (xs.take (k + 1)) = if xs[k - 1] = xs[k] then cps (xs.take k) else cps (xs.take k) ++ [xs[k]] := by
  have h1 : xs.take k = xs.take (k - 1) ++ [xs[k - 1]] := by
    have := List.take_add_one (l := xs) (i := k - 1)
    rw [show k - 1 + 1 = k by omega, List.getElem?_eq_getElem (by omega)] at this
    exact this
  have h2 : xs.take (k + 1) = xs.take k ++ [xs[k]] := by
    rw [List.take_add_one, List.getElem?_eq_getElem hk]; rfl
  rw [h2, h1, cps_snoc]
theorem cps_id {xs : List So} : ∀ {k : Nat}, k ≤ xs.length → (∀ j (h : j < xs.length), 1 ≤ j → j < k → xs[j] ≠ xs[j - 1]) → cps (xs.take k) = xs.take k
  | 0, _, _ => by simp [cps]
  | 1, h, _ => by
    cases xs with
    | nil => simp at h
    | cons x l => simp [cps]
  | k + 2, h, hn => by
    have ih := cps_id (k := k + 1) (by omega) fun j h1 h2 h3 => hn j h1 h2 (by omega)
    have := hn (k + 1) (by omega) (by omega) (by omega)
    rw [cps_take (by omega) (by omega), if_neg (fun q => this q.symm), ih]
    rw [List.take_add_one (i := k + 1), List.getElem?_eq_getElem (by omega)]; rfl
theorem cps_le (xs : List So) : ∀ k, (cps (xs.take k)).length ≤ k := by
  have key : ∀ l : List So, (cps l).length ≤ l.length := by
    intro l
    induction l with
    | nil => simp [cps]
    | cons a l ih =>
      cases l with
      | nil => simp [cps]
      | cons b l =>
        rw [cps]
        split
        · simp only [List.length_cons] at *; omega
        · simp only [List.length_cons] at *; omega
  intro k
  exact Nat.le_trans (key _) (by simp; omega)
theorem least {P : Nat → Prop} (h : ∃ k, P k) : ∃ k, P k ∧ ∀ j, j < k → ¬ P j := by
  obtain ⟨k, hk⟩ := h
  induction k using Nat.strongRecOn with
  | ind k ih =>
    by_cases c : ∃ j, j < k ∧ P j
    · obtain ⟨j, hj, hp⟩ := c
      exact ih j hj hp
    · exact ⟨k, hk, fun j hj hp => c ⟨j, hj, hp⟩⟩
theorem setCells_pre : ∀ (r p q : List PV), r.length = q.length → setCells (p ++ q) p.length r = p ++ r
  | [], p, q, h => by rw [List.length_eq_zero_iff.1 h.symm]; rfl
  | y :: r, p, [], h => by simp at h
  | y :: r, p, x :: q, h => by
    have h1 : (p ++ x :: q).set p.length y = (p ++ [y]) ++ q := by simp
    have h2 := setCells_pre r (p ++ [y]) q (by simpa using h)
    rw [setCells, h1, show p.length + 1 = (p ++ [y]).length by simp, h2]; simp
theorem setCells_full {r q : List PV} (h : r.length = q.length) : setCells q 0 r = r := setCells_pre r [] q h
theorem hp_self {H : Hp} {b : Nat} {B : Blk} (hb : H[b]? = some B) : H.set b B = H := by
  apply List.ext_getElem?
  intro j
  rw [List.getElem?_set]
  split
  · rename_i q
    subst q
    obtain ⟨h, h2⟩ := List.getElem?_eq_some_iff.1 hb
    rw [if_pos h, hb]
  · rfl
theorem frz_cutS {e gen k : Nat} {H : Hp} (A : List So) (zs : List PV) : frzB So H .any k (some ⟨e, gen, cl A ++ zs, none⟩) gen A.length = some (lst .any A) := by
  unfold frzB
  split
  · rename_i h0
    rw [List.length_eq_zero_iff.1 h0]; rfl
  · have h2 : mapO (frz H .any (k + 1)) (cl A) = some (cl A) := mapO_cl .any k A
    have h3 : List.take (A.length * Enc.sz So) (cl A ++ zs) = cl A := by
      rw [List.take_append_of_le_length (by simp), ← length_cl, List.take_length]
    simp only [Option.bind_some]
    rw [if_pos ⟨trivial, by simp⟩]
    simp only [Option.bind_some, h3, h2]
    have h4 : PV.cleanLB (cl A) = true := by
      rw [clean_cl, List.all_eq_true]
      exact fun x _ => rfl
    rw [if_pos (by simp [h4])]
    rfl
/-- What has been gone through. -/
def CpI (xs : List So) (b e g : Nat) (H : Hp) (i : Nat) (v : PV) (h : Hp) : Prop := ∃ (K : Nat) (ys : List So), v = .int .i64 (K : Int) ∧ h = H.set b (bk e g ys) ∧ ys.length = xs.length ∧ K = (cps (xs.take i)).length ∧ K < i ∧ ys.take K = cps (xs.take i) ∧ ∀ m, i - 1 ≤ m → ys[m]? = xs[m]?
/-- slices.Compact on spots. -/
theorem compactS_ok {xs : List So} {b e g : Nat} {H : Hp} (hb : H[b]? = some (bk e g xs)) (hl : xs.length ≤ 100000) :
    ∃ zs, RO tc 138 [mls So b g xs.length] H = some (mls So b g (cps xs).length, H.set b ⟨e, g, cl (cps xs) ++ zs, none⟩) := by
  obtain ⟨hbl, hb2⟩ := List.getElem?_eq_some_iff.1 hb
  have hnone : cps xs = xs → mls So b g (cps xs).length = mls So b g xs.length ∧ H.set b ⟨e, g, cl (cps xs) ++ [], none⟩ = H := fun h => by
    rw [h, List.append_nil]; exact ⟨rfl, hp_self hb⟩
  by_cases h2 : (xs.length : Int) < 2
  · have hid : cps xs = xs := by
      have := cps_id (xs := xs) (k := xs.length) (Nat.le_refl _) fun j h1 h2 h3 => by omega
      rwa [List.take_length] at this
    refine ⟨[], ?_⟩
    rw [(hnone hid).1, (hnone hid).2]
    refine RO_of_G (F := pf138) (tc_natO _ _ rfl) rfl rfl ?_
    simp (disch := first | omega | with_unfolding_all rfl) [pf138, env0_eq, h2]
  by_cases hex : ∃ k, 1 ≤ k ∧ ∃ h : k < xs.length, xs[k] = xs[k - 1]
  case neg =>
    have hid : cps xs = xs := by
      have := cps_id (xs := xs) (k := xs.length) (Nat.le_refl _) fun j h1 h2 h3 q => hex ⟨j, h2, h1, q⟩
      rwa [List.take_length] at this
    refine ⟨[], ?_⟩
    rw [(hnone hid).1, (hnone hid).2]
    refine RO_of_G (F := pf138) (tc_natO _ _ rfl) rfl rfl ?_
    simp (disch := first | omega | with_unfolding_all rfl) [pf138, env0_eq, h2]
    refine G_loopK [0] (fun (k : Nat) e' h => 1 ≤ k ∧ k ≤ xs.length ∧ get e' 3 = .int .i64 (k : Int) ∧ h = H) (fun k => xs.length - k) (a₀ := 1) ⟨by omega, by omega, by simp, rfl⟩ ?_
    rintro k e' h hk ⟨hk1, hkl, g3, rfl⟩
    simp at hk
    simp (disch := first | omega | with_unfolding_all rfl) [hk, g3]
    refine G_brd (fun d => ?_) (fun d => ?_)
    · have hin : k < xs.length := by omega
      have hne : xs[k] ≠ xs[k - 1] := fun q => hex ⟨k, hk1, hin, q⟩
      have hck : (k : Int) - 1 = ((k - 1 : Nat) : Int) := by omega
      obtain ⟨x, hx⟩ : ∃ x, x = xs[k] := ⟨_, rfl⟩
      obtain ⟨z, hz⟩ : ∃ z, z = xs[k - 1] := ⟨_, rfl⟩
      rw [← hx, ← hz] at hne
      have hbq : (x.t == z.t && (x.p == z.p && x.o == z.o)) = decide (x = z) := by rw [Bool.eq_iff_iff]; simp [so_ext]
      simp (disch := first | omega | with_unfolding_all rfl) [hk, g3, d, hb2, hck, ← hx, ← hz]
      rw [hbq]
      simp (disch := first | omega | with_unfolding_all rfl) [hk, g3, hne]
      exact ⟨k + 1, by omega, by omega, by omega, by omega⟩
    · simp (disch := first | omega | with_unfolding_all rfl) [hk, g3, d]
  -- the first one that is as the one ahead of it
  obtain ⟨k0, ⟨h01, h0l, h0e⟩, h0m⟩ : ∃ k, (1 ≤ k ∧ ∃ h : k < xs.length, xs[k] = xs[k - 1]) ∧ ∀ j, j < k → ¬ (1 ≤ j ∧ ∃ h : j < xs.length, xs[j] = xs[j - 1]) := by
    exact least hex
  have hid0 : cps (xs.take k0) = xs.take k0 := cps_id (by omega) fun j h1 h2 h3 q => h0m j h3 ⟨h2, h1, q⟩
  have hslo : ∀ i : Nat, i ≤ xs.length → evSlc 3 (mls So b g xs.length) (some (.int .i64 i)) none none = some (.msl true b g (i * 3) (xs.length - i) 3) := fun i hi => by
    show evSlc 3 (.msl true b g 0 xs.length 3) _ _ _ = _
    have hp : (0 : Int) ≤ (i : Int) := by omega
    simp only [evSlc, optIx, if_true, if_pos hp, Option.bind_some, Nat.zero_add, Int.toNat_natCast, hi, Nat.le_refl, and_self]
  have hshi : ∀ i : Nat, i ≤ xs.length → evSlc 3 (mls So b g xs.length) none (some (.int .i64 i)) none = some (mls So b g i) := fun i hi => by
    show evSlc 3 (.msl true b g 0 xs.length 3) _ _ _ = some (.msl true b g 0 i 3)
    have hp : (0 : Int) ≤ (i : Int) := by omega
    simp only [evSlc, optIx, if_true, if_pos hp, Option.bind_some, Nat.zero_add, Nat.zero_mul, Nat.sub_zero, Int.toNat_natCast, hi, Nat.zero_le, and_self]
  have hix : ∀ j : Nat, j < xs.length - k0 → evIaS 3 (.msl true b g (k0 * 3) (xs.length - k0) 3) (.int .i64 j) = some (mep So b g (k0 + j) 0) := fun j hj => by
    have h1 : ixIn (.int .i64 (j : Int)) (xs.length - k0) = some j := by
      simp only [ixIn]
      rw [if_pos ⟨by omega, by omega⟩]
      rfl
    simp only [evIaS, h1, Option.map_some, if_true]
    show some (PV.mptr b g (k0 * 3 + j * 3)) = some (.mptr b g ((k0 + j) * 3 + 0))
    congr 2; omega
  have hle : evLen (.msl true b g (k0 * 3) (xs.length - k0) 3) = some (.int .i64 ((xs.length - k0 : Nat) : Int)) := rfl
  have hclr : ∀ (ys : List So) (K : Nat), ys.length = xs.length → K < xs.length → evClr 3 [.int .i64 0, .int .i64 0, .int .i64 0] (.msl true b g (K * 3) (xs.length - K) 3) (H.set b (bk e g ys)) = some (.tup [], H.set b ⟨e, g, cl (ys.take K) ++ rep (xs.length - K) [PV.int .i64 0, .int .i64 0, .int .i64 0], none⟩) := fun ys K h1 h2 => by
    have hg : (H.set b (bk e g ys))[b]? = some (bk e g ys) := by rw [List.getElem?_set_self hbl]
    have hrl : (rep (xs.length - K) [PV.int .i64 0, .int .i64 0, .int .i64 0]).length = (xs.length - K) * 3 := by simp [rep]
    have hcy : cl ys = cl (ys.take K) ++ (cl (ys.drop K) ++ []) := by rw [List.append_nil, ← cl_append, List.take_append_drop]
    have hlt : (cl (ys.take K)).length = K * 3 := by rw [length_cl, List.length_take, Nat.min_eq_left (by omega)]; rfl
    have hld : (cl (ys.drop K)).length = (xs.length - K) * 3 := by rw [length_cl, List.length_drop, h1]; rfl
    have hsc := setCells_app (cl (ys.take K)) [] (rep (xs.length - K) [PV.int .i64 0, .int .i64 0, .int .i64 0]) (cl (ys.drop K)) 0 (by omega)
    rw [← hcy, hlt, Nat.add_zero, List.append_nil, setCells_full (by rw [hrl, hld])] at hsc
    simp only [evClr, if_true]
    rw [if_neg (by omega), hg]
    dsimp only
    rw [if_pos ⟨rfl, by rw [length_cl, h1]; show K * 3 + (xs.length - K) * 3 ≤ xs.length * 3; omega, rfl, rfl⟩, hsc, List.set_set]
  obtain ⟨C, hC⟩ : ∃ C, C = cps xs := ⟨_, rfl⟩
  have hCl : C.length < xs.length := by
    have h1 := cps_le xs
    have key : ∀ d, k0 + 1 + d ≤ xs.length → (cps (xs.take (k0 + 1 + d))).length ≤ k0 + d := by
      intro d
      induction d with
      | zero =>
        intro _
        rw [Nat.add_zero, cps_take (by omega) h0l, if_pos h0e.symm]
        exact h1 k0
      | succ d ih =>
        intro hd
        have := ih (by omega)
        rw [show k0 + 1 + (d + 1) = (k0 + 1 + d) + 1 by omega, cps_take (by omega) (by omega)]
        split
        · omega
        · simp; omega
    have := key (xs.length - k0 - 1) (by omega)
    rw [show k0 + 1 + (xs.length - k0 - 1) = xs.length by omega, List.take_length] at this
    rw [hC]; omega
  rw [← hC]
  refine ⟨rep (xs.length - C.length) [PV.int .i64 0, .int .i64 0, .int .i64 0], ?_⟩
  refine RO_of_G (F := pf138) (tc_natO _ _ rfl) rfl rfl ?_
  simp (disch := first | omega | with_unfolding_all rfl) [pf138, env0_eq, h2]
  refine G_loopK [0] (fun (k : Nat) e' h => 1 ≤ k ∧ k ≤ k0 ∧ get e' 3 = .int .i64 (k : Int) ∧ h = H) (fun k => xs.length - k) (a₀ := 1) ⟨by omega, by omega, by simp, rfl⟩ ?_
  rintro k e' h hk ⟨hk1, hkl, g3, hh⟩
  rw [hh]
  clear hh h
  simp at hk
  have hin : k < xs.length := by omega
  have hin' : (k : Int) < xs.length := by omega
  have hck : (k : Int) - 1 = ((k - 1 : Nat) : Int) := by omega
  obtain ⟨x, hx⟩ : ∃ x, x = xs[k] := ⟨_, rfl⟩
  obtain ⟨z, hz⟩ : ∃ z, z = xs[k - 1] := ⟨_, rfl⟩
  have hbq : (x.t == z.t && (x.p == z.p && x.o == z.o)) = decide (x = z) := by rw [Bool.eq_iff_iff]; simp [so_ext]
  simp (disch := first | omega | with_unfolding_all rfl) [hk, g3, hin', hb2, hck, ← hx, ← hz]
  rw [hbq]
  by_cases hkk : k = k0
  case neg =>
    have hne : x ≠ z := fun q => h0m k (by omega) ⟨hk1, hin, by rw [← hx, ← hz]; exact q⟩
    simp (disch := first | omega | with_unfolding_all rfl) [hk, g3, hne]
    exact ⟨k + 1, by omega, by omega, by omega, by omega⟩
  subst hkk
  have heq : x = z := by rw [hx, hz]; exact h0e
  have hslk := hslo k (by omega)
  simp (disch := first | omega | with_unfolding_all rfl) [hk, g3, heq, hslk]
  refine G_loopK [0, 4] (fun (j : Nat) e'' h => 1 ≤ j ∧ k + j ≤ xs.length ∧ get e'' 5 = .int .i64 (j : Int) ∧ CpI xs b e g H (k + j) (get e'' 3) h) (fun j => xs.length - j) (a₀ := 1) ?_ ?_
  · have h3 : cps (xs.take (k + 1)) = xs.take k := by rw [cps_take (by omega) h0l, if_pos h0e.symm, hid0]
    have h4 : (xs.take k).length = k := by simp; omega
    refine ⟨by omega, by omega, by simp, ?_⟩
    exact ⟨k, xs, by simp [hk, g3], (hp_self hb).symm, rfl, by rw [h3, h4], by omega, h3.symm, fun m _ => rfl⟩
  rintro j e'' h hk2 ⟨hj1, hjl, g5, K, ys, g3', rfl, hyl, hK, hKl, hyt, hyr⟩
  simp at hk2
  clear hk g3 hslk hbq
  have hjn : ((xs.length - k : Nat) : Int) = (xs.length : Int) - k := by omega
  simp (disch := first | omega | with_unfolding_all rfl) [hk2, g5, g3', hle]
  refine G_brd (fun d => ?_) (fun d => ?_)
  · have hi1 := hix j (by omega)
    have hi2 := hix (j - 1) (by omega)
    have hcj : (j : Int) - 1 = ((j - 1 : Nat) : Int) := by omega
    have hn1 : k + j < ys.length := by omega
    have hn2 : k + (j - 1) < ys.length := by omega
    have hn3 : K < ys.length := by omega
    have hq1 : ys[k + j] = xs[k + j] := by
      have := hyr (k + j) (by omega)
      rw [List.getElem?_eq_getElem hn1, List.getElem?_eq_getElem (by omega)] at this
      exact Option.some.inj this
    have hq2 : ys[k + (j - 1)] = xs[k + j - 1] := by
      have := hyr (k + (j - 1)) (by omega)
      rw [List.getElem?_eq_getElem hn2, List.getElem?_eq_getElem (by omega)] at this
      have h5 := Option.some.inj this
      rw [h5]; congr 1; omega
    have hct := cps_take (xs := xs) (k := k + j) (by omega) (by omega)
    obtain ⟨u, hu⟩ : ∃ u, u = xs[k + j] := ⟨_, rfl⟩
    obtain ⟨v, hv⟩ : ∃ v, v = xs[k + j - 1] := ⟨_, rfl⟩
    rw [← hu] at hq1 hct
    rw [← hv] at hq2 hct
    have hbq : (!u.t == v.t || (!u.p == v.p || !u.o == v.o)) = !decide (u = v) := by rw [← Bool.not_and, ← Bool.not_and, Bool.eq_iff_iff]; simp [so_ext]
    simp (disch := first | omega | with_unfolding_all rfl) [hk2, g5, g3', d, hcj, hi1, hi2, hbl, hn1, hn2, hq1, hq2]
    rw [hbq]
    by_cases c : u = v
    · rw [if_pos c.symm] at hct
      simp (disch := first | omega | with_unfolding_all rfl) [hk2, g5, g3', c]
      refine ⟨j + 1, by omega, by omega, by omega, by omega, ?_⟩
      exact ⟨K, ys, rfl, rfl, hyl, by rw [← Nat.add_assoc, hct]; exact hK, by omega, by rw [← Nat.add_assoc, hct]; exact hyt, fun m hm => hyr m (by omega)⟩
    · rw [if_neg (fun q => c q.symm)] at hct
      simp (disch := first | omega | with_unfolding_all rfl) [hk2, g5, g3', c, hi1, hbl, hn1, hn3, hq1]
      refine ⟨j + 1, by omega, by omega, by omega, by omega, ?_⟩
      refine ⟨K + 1, ys.set K u, by simp, rfl, by simp [hyl], ?_, by omega, ?_, fun m hm => ?_⟩
      · rw [← Nat.add_assoc, hct, List.length_append, ← hK]; rfl
      · rw [← Nat.add_assoc, hct, ← hyt, List.take_add_one, List.getElem?_set_self hn3, List.take_set_of_le (Nat.le_refl _)]; rfl
      · rw [List.getElem?_set_ne (by omega)]; exact hyr m (by omega)
  · have hjx : xs.take (k + j) = xs := List.take_of_length_le (by omega)
    rw [hjx, ← hC] at hK hyt
    subst hK
    have hs1 := hslo C.length (by omega)
    have hs2 := hshi C.length (by omega)
    have hcl := hclr ys C.length hyl hCl
    rw [hyt] at hcl
    simp (disch := first | omega | with_unfolding_all rfl) [hk2, g5, g3', d, hs1, hs2, hcl]
end Go.Proofs.YtiaeckidlmoohaaGreat
end

section
set_option linter.unusedVariables false
set_option linter.unusedSimpArgs false
set_option maxHeartbeats 8000000
set_option maxRecDepth 20000
namespace Go.Proofs.YtiaeckidlmoohaaGreat
open Go.Proofs.YtiaeckidlmoohaaGreat.PM

theorem RO_n {n f : Nat} {args : List PV} {H : Hp} {r : PV × Hp} (h : callO tc (pexec tc n) f args H = some r) : RO tc f args H = some r := callO_mono (le_X n) h
theorem ROnat {T : Table} {f : Nat} {args : List PV} {H H' : Hp} {r : PV} (hn : T.natO f args H = some (r, H')) : RO T f args H = some (r, H') := by
  unfold RO callO
  rw [hn]
theorem sort0 : RO tc 137 [mls So 0 0 0, .clo (.func 56) [] []] [bk 54 0 ([] : List So)] = some (.tup [], [bk 54 0 ([] : List So)]) := RO_n (n := 30) (by kernel_rfl)
theorem sort_ok {g : Nat} {L : List So} (h0 : L = [] → g = 0) (hl : L.length ≤ 100000) : RO tc 137 [mls So 0 g L.length, .clo (.func 56) [] []] [bk 54 g L] = some (.tup [], [bk 54 g (srtS L)]) := by
  by_cases h : L = []
  · obtain rfl := h0 h
    subst h
    have : srtS [] = [] := by simp [srtS]
    rw [this]
    exact sort0
  · refine ROnat ?_
    show (natS 137 [.msl true 0 g 0 L.length 3, .clo (.func 56) [] []] [bk 54 g L]) = _
    unfold natS
    have hne : L.length ≠ 0 := fun q => h (List.length_eq_zero_iff.1 q)
    simp only [if_true, List.getElem?_cons_zero, Option.bind_some, and_self, decS_cl]
    rw [if_pos ⟨trivial, hne, by omega⟩]
    rfl
theorem comp_ok {g : Nat} {L : List So} (hl : L.length ≤ 100000) : ∃ zs, RO tc 138 [mls So 0 g L.length] [bk 54 g (srtS L)] = some (mls So 0 g (ptAll L).length, [⟨54, g, cl (ptAll L) ++ zs, none⟩]) := by
  obtain ⟨zs, h⟩ := compactS_ok (xs := srtS L) (b := 0) (e := 54) (g := g) (H := [bk 54 g (srtS L)]) rfl (by rw [len_srtS]; exact hl)
  rw [len_srtS, cps_srtS] at h
  exact ⟨zs, h⟩
theorem okN_K {y : Yd} (v : Val y) (s n : So) : okN y s n = ((sgK y.g s).isSome || (!(sgK y.g ⟨n.t, n.p, (s.o + 2).tmod 4⟩).isSome || decide ((sgK y.g ⟨n.t, n.p, (s.o + 2).tmod 4⟩).getD 0 = 4))) := by
  have h1 := sgF_K v s
  have h2 := sgF_K v ⟨n.t, n.p, (s.o + 2).tmod 4⟩
  unfold okN
  rw [Bool.eq_iff_iff]
  cases c1 : sgK y.g s <;> cases c2 : sgK y.g ⟨n.t, n.p, (s.o + 2).tmod 4⟩ <;> rw [c1] at h1 <;> rw [c2] at h2 <;> simp at h1 h2 ⊢ <;> omega
theorem options_ok {y : Yd} {F : PV} (hF : Fd y F) (v : Val y) {s : So} (h1 : has s.p s.o = true) (h2 : lie y.r s.t s.p = true) : R tc 91 [F, vSo s] = some (lst .any (ptAll (optL y s))) := by
  have hn := nextF_ok hF v.good h1 h2
  obtain ⟨nl, hnl, hnv⟩ := nxtV_lst y.r s
  rw [hnv] at hn
  have hl6 := nxU_len6 y.r s
  have ho := (has_lt h1).2.2
  have hok := fun n => okN_K v s n
  have hjl := jts_len y.j s
  have hj80 := (Val.parts v.e).2.1
  unfold optL
  obtain ⟨ks1, vs1, ks2, vs2, sig, jnt⟩ := hF
  have hjn := jnt s
  obtain ⟨N, hN⟩ : ∃ N, N = nxt y.r s := ⟨_, rfl⟩
  obtain ⟨J, hJ⟩ : ∃ J, J = jts y.j s := ⟨_, rfl⟩
  rw [← hN] at hn hl6 ⊢
  rw [← hJ] at hjn hjl ⊢
  have hm1 : ∀ H : Hp, evMlk (some 3) (.int .i64 0) true (.fmap false (some 3) ks1 vs1) (vSo s) H = some (.tup [.int .i64 ((sgK y.g s).getD 0), .bool (sgK y.g s).isSome]) := fun H => by
    rw [evMlk_fmap (keyB_3 _ _ _), sig]
    cases sgK y.g s <;> rfl
  have hm2 : ∀ (n : So) (H : Hp), evMlk (some 3) (.int .i64 0) true (.fmap false (some 3) ks1 vs1) (.agg [.int .i64 n.t, .int .i64 n.p, .int .i64 ((s.o + 2).tmod 4)]) H = some (.tup [.int .i64 ((sgK y.g ⟨n.t, n.p, (s.o + 2).tmod 4⟩).getD 0), .bool (sgK y.g ⟨n.t, n.p, (s.o + 2).tmod 4⟩).isSome]) := fun n H => by
    rw [evMlk_fmap (keyB_3 _ _ _)]
    have := sig ⟨n.t, n.p, (s.o + 2).tmod 4⟩
    dsimp only [vSo] at this
    rw [this]
    cases sgK y.g ⟨n.t, n.p, (s.o + 2).tmod 4⟩ <;> rfl
  have hm3 : ∀ H : Hp, evMlk (some 3) (.list .nil 3 []) false (.fmap false (some 3) ks2 vs2) (vSo s) H = some (lst (if J = [] then .nil else .any) J) := fun H => by
    rw [evMlk_fmap (keyB_3 _ _ _), hjn]
    by_cases h0 : J = []
    · rw [if_pos h0, if_pos h0, h0]; rfl
    · rw [if_neg h0, if_neg h0]; rfl
  obtain ⟨K1, hK1⟩ : ∃ K1, K1 = sgK y.g s := ⟨_, rfl⟩
  rw [← hK1] at hm1
  simp only [← hK1] at hok
  obtain ⟨A, hA⟩ : ∃ A, A = okN y s := ⟨_, rfl⟩
  rw [← hA] at hok ⊢
  clear hjn sig jnt
  obtain ⟨st, sp, so⟩ := s
  dsimp only [vSo] at *
  refine R_of_G (F := pf91) (tc_nat _ rfl) rfl rfl ?_
  simp (disch := first | omega | with_unfolding_all rfl) [pf91, env0_eq, hm1, hn]
  refine G_loopK [2, 3, 7, 21, 22] (fun (i : Nat) e h => i ≤ N.length ∧ get e 23 = .int .i64 (i : Int) ∧ h = [bk 54 ((N.take i).filter A).length ((N.take i).filter A)] ∧ get e 5 = mls So 0 ((N.take i).filter A).length ((N.take i).filter A).length) (fun i => N.length - i) (a₀ := 0) ⟨by omega, by simp, by simp, by simp; rfl⟩ ?_
  rintro i e h hk ⟨hi, g23, rfl, g5⟩
  simp at hk
  obtain ⟨acc, hacc⟩ : ∃ acc, acc = (N.take i).filter A := ⟨_, rfl⟩
  have hal : acc.length ≤ 6 := by
    rw [hacc]
    refine Nat.le_trans (List.length_filter_le _ _) ?_
    simp; omega
  rw [← hacc] at g5 ⊢
  simp (disch := first | omega | with_unfolding_all rfl) [hk, g23]
  refine G_brd (fun d => ?_) (fun d => ?_)
  · have hin : i < N.length := by omega
    obtain ⟨x, hx⟩ : ∃ x, x = N[i] := ⟨_, rfl⟩
    have htk : (N.take (i + 1)).filter A = acc ++ if A x = true then [x] else [] := by
      rw [List.take_add_one, List.getElem?_eq_getElem hin, ← hx, List.filter_append, hacc]
      simp [List.filter_cons]
    have hmx := hm2 x
    have hox := hok x
    obtain ⟨K2, hK2⟩ : ∃ K2, K2 = sgK y.g ⟨x.t, x.p, (so + 2).tmod 4⟩ := ⟨_, rfl⟩
    rw [← hK2] at hmx hox
    have yes : A x = true → ∃ a', N.length - a' < N.length - i ∧ a' ≤ N.length ∧ (i : Int) + 1 = (a' : Int) ∧ bk 54 (acc.length + 1) (acc ++ [x]) = bk 54 ((N.take a').filter A).length ((N.take a').filter A) ∧ mls So 0 (acc.length + 1) (acc.length + 1) = mls So 0 ((N.take a').filter A).length ((N.take a').filter A).length := fun q => by
      rw [if_pos q] at htk
      exact ⟨i + 1, by omega, by omega, by omega, by rw [htk]; simp, by rw [htk]; simp⟩
    have no : A x = false → ∃ a', N.length - a' < N.length - i ∧ a' ≤ N.length ∧ (i : Int) + 1 = (a' : Int) ∧ bk 54 acc.length acc = bk 54 ((N.take a').filter A).length ((N.take a').filter A) ∧ mls So 0 acc.length acc.length = mls So 0 ((N.take a').filter A).length ((N.take a').filter A).length := fun q => by
      rw [q] at htk
      simp at htk
      exact ⟨i + 1, by omega, by omega, by omega, by rw [htk], by rw [htk]⟩
    simp (disch := first | omega | with_unfolding_all rfl) [hk, g23, g5, d, ← hx, hmx]
    cases K1 with
    | some k =>
      simp at hox
      simp (disch := first | omega | with_unfolding_all rfl) [hk, g23, g5]
      simpa using yes hox
    | none =>
      cases K2 with
      | none =>
        simp at hox
        simp (disch := first | omega | with_unfolding_all rfl) [hk, g23, g5]
        simpa using yes hox
      | some k =>
        by_cases c : k = 4
        · simp [c] at hox
          simp (disch := first | omega | with_unfolding_all rfl) [hk, g23, g5, c]
          simpa using yes hox
        · simp [c] at hox
          simp (disch := first | omega | with_unfolding_all rfl) [hk, g23, g5, c]
          simpa using no hox
  · have hi2 : N.take i = N := List.take_of_length_le (by omega)
    rw [hi2] at hacc
    rw [← hacc]
    clear hm1 hm2 hok hn
    by_cases hJ0 : J = []
    · subst hJ0
      have hs := sort_ok (g := acc.length) (L := acc) (fun q => by rw [q]; rfl) (by omega)
      obtain ⟨zs, hc⟩ := comp_ok (g := acc.length) (L := acc) (by omega)
      simp (disch := first | omega | with_unfolding_all rfl) [hk, g23, g5, d, hm3, hs, hc, frz_cutS]
    · have hs := sort_ok (g := acc.length + 1) (L := acc ++ J) (fun q => absurd (List.append_eq_nil_iff.1 q).2 hJ0) (by rw [List.length_append]; omega)
      obtain ⟨zs, hc⟩ := comp_ok (g := acc.length + 1) (L := acc ++ J) (by rw [List.length_append]; omega)
      rw [List.length_append] at hs hc
      simp (disch := first | omega | with_unfolding_all rfl) [hk, g23, g5, d, hm3, hJ0, hs, hc, frz_cutS]
theorem optionsT_ok (y : Yd) (k : Yk y) (s : So) : R tc 36 [vYd y, vSo s] = some (optV y s .any) := by
  have hv := validateT_ok y k
  unfold optV
  refine R_of_G (F := pf36) (tc_nat _ rfl) rfl rfl ?_
  by_cases h0 : yErr y = 0
  case neg =>
    obtain ⟨st, sp, so⟩ := s
    simp (disch := first | omega | with_unfolding_all rfl) [pf36, env0_eq, hv, h0]
  rw [h0] at hv
  have vl : Val y := ⟨h0, k⟩
  have hnx := next_ok vl.good (by
    have := (Val.parts h0).1
    unfold valErr at this
    split at this
    · assumption
    · exact this) (by have := k.s; omega) s
  unfold nextV at hnx
  by_cases h1 : spErr y.r s = 0
  · obtain ⟨F, hF, hFd⟩ := fieldOf_ok y (by have := k.g; omega) (by have := k.j; omega)
    obtain ⟨p1, p2⟩ := spErr0 h1
    have hop := options_ok hFd vl p1 p2
    rw [if_pos h1] at hnx
    obtain ⟨nl, -, hnv⟩ := nxtV_lst y.r s
    rw [hnv] at hnx
    obtain ⟨ks1, vs1, ks2, vs2, -, -⟩ := hFd
    obtain ⟨st, sp, so⟩ := s
    dsimp only at *
    simp (disch := first | omega | with_unfolding_all rfl) [pf36, env0_eq, hv, h0, hnx, h1, hF, hop]
  · rw [if_neg h1] at hnx
    obtain ⟨st, sp, so⟩ := s
    simp (disch := first | omega | with_unfolding_all rfl) [pf36, env0_eq, hv, h0, hnx, h1]
theorem law10_ok (y : Yd) (a : Ya y) (s : So) : R tc 10 [vYd y, vSo s] = some (.bool true) := by
  obtain ⟨b, h1, h2⟩ := large_ok y a.t (nl := .nil) [] (by simp)
  refine R_of_G (F := pf10) (tc_nat _ rfl) rfl rfl ?_
  have hk := knownC_ok
  have h1' : R tc 19 [vYd y, .list .nil 1 []] = some (.bool b) := h1
  cases b
  · have k := Ya.k a (h2 rfl).1
    have e1 := optionsT_ok y k s
    have e2 := refOptions_ok y k s
    unfold optV at e1 e2
    by_cases h0 : yErr y = 0
    · rw [if_pos h0] at e1 e2
      have vl : Val y := ⟨h0, k⟩
      by_cases h3 : spErr y.r s = 0
      · rw [if_pos h3] at e1 e2
        have e3 := same38_ok (n1 := .any) (n2 := nlA (ptAll (optL y s))) (ptAll (optL y s)) (by
          refine Nat.le_trans (ptAll_len _) ?_
          have q1 := List.length_filter_le (okN y s) (nxt y.r s)
          have q2 := jts_len y.j s
          have q3 := nxU_len6 y.r s
          have q4 := (Val.parts h0).2.1
          unfold optL
          rw [List.length_append]
          omega)
        obtain ⟨p, q, r⟩ := s
        simp (disch := first | omega | with_unfolding_all rfl) [pf10, env0_eq, h1', hk, e1, e2, e3]
      · rw [if_neg h3] at e1 e2
        have e3 := same38_ok (n1 := .nil) (n2 := .nil) [] (by simp)
        simp only [lst, cl_nil, sz_so] at e3
        obtain ⟨p, q, r⟩ := s
        simp (disch := first | omega | with_unfolding_all rfl) [pf10, env0_eq, h1', hk, e1, e2, e3]
    · rw [if_neg h0] at e1 e2
      have e3 := same38_ok (n1 := .nil) (n2 := .nil) [] (by simp)
      simp only [lst, cl_nil, sz_so] at e3
      obtain ⟨p, q, r⟩ := s
      simp (disch := first | omega | with_unfolding_all rfl) [pf10, env0_eq, h1', hk, e1, e2, e3]
  · obtain ⟨p, q, r⟩ := s
    simp (disch := first | omega | with_unfolding_all rfl) [pf10, env0_eq, h1', hk]
end Go.Proofs.YtiaeckidlmoohaaGreat
end
