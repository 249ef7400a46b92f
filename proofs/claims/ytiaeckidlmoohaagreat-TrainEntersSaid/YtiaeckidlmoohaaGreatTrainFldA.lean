/- Several texts in one: TrainPath, TrainField, TrainFieldOf. -/
import Derived.Test.YtiaeckidlmoohaaGreatTrainFolA
import Derived.Test.YtiaeckidlmoohaaGreatPmThirty
section
set_option linter.unusedVariables false
set_option linter.unusedSimpArgs false
set_option maxHeartbeats 8000000
set_option maxRecDepth 20000
namespace Go.Proofs.YtiaeckidlmoohaaGreat
open Go.Proofs.YtiaeckidlmoohaaGreat.PM
def smP (a b : So) : Bool := decide (a.t = b.t) && decide (a.p = b.p)
noncomputable def badW (y : Yd) (l : List So) (i : Nat) : Bool := match l[i]? with
  | none => false
  | some s => (decide (0 < i) && !(match l[i - 1]? with | some p => folB y p s | none => true)) || (l.take i).any fun t => smP t s
noncomputable def wayB (y : Yd) (l : List So) : Bool := !anyN (badW y l) 0 l.length
theorem lieS_has {r : Rl} {s : So} (h : lieS r s = true) : has s.p s.o = true ∧ lie r s.t s.p = true := by
  unfold lieS at h
  rw [Bool.and_eq_true] at h
  have hl := lie_lt h.1
  refine ⟨?_, h.1⟩
  unfold has
  rw [decide_eq_true (show 0 ≤ s.p ∧ s.p < 6 by omega)]
  exact h.2
theorem one_ok {y : Yd} (g : Good y.r) (hj : y.j.length ≤ 2000) {nl : Nl} {l : List So} (hl : l.length ≤ 10000) (hs : ∀ s ∈ l, lieS y.r s = true) : R tc 68 [vYd y, lst nl l] = some (.bool (wayB y l)) := by
  have hf : ∀ i j (hi : i < l.length) (hj : j < l.length), R tc 115 [vYd y, vSo l[i], vSo l[j]] = some (.bool (folB y l[i] l[j])) := fun i j h1 h2 => by
    have := lieS_has (hs _ (List.getElem_mem h1))
    exact refFollows_ok g hj this.1 this.2
  have hW : ∀ i, i < l.length → badW y l i = true → wayB y l = false := fun i h1 h2 => by
    simp [wayB, anyN_t (Nat.zero_le i) h1 h2]
  refine R_of_G (F := pf68) (tc_nat _ rfl) rfl rfl ?_
  simp (disch := first | omega | with_unfolding_all rfl) [pf68, env0_eq]
  refine G_scanC [1, 2, 9, 10] 11 (badW y l) l.length 0 (by simp) (Nat.zero_le _) ?_
  rintro i e - hi hz hk g11
  simp at hk
  simp (disch := first | omega | with_unfolding_all rfl) [hk, g11]
  refine G_brd (fun d => ?_) (fun d => ?_)
  · have hin : i < l.length := by omega
    obtain ⟨x, hx⟩ : ∃ x, x = l[i] := ⟨_, rfl⟩
    have hb : badW y l i = ((decide (0 < i) && !(match l[i - 1]? with | some p => folB y p x | none => true)) || (l.take i).any fun t => smP t x) := by
      unfold badW; rw [List.getElem?_eq_getElem hin, ← hx]
    simp (disch := first | omega | with_unfolding_all rfl) [hk, g11, d, ← hx]
    by_cases h0 : 0 < i
    case' pos =>
      have h1 : i - 1 < l.length := by omega
      have hci : (i : Int) - 1 = ((i - 1 : Nat) : Int) := by omega
      have hfi := hf (i - 1) i h1 hin
      rw [List.getElem?_eq_getElem h1] at hb
      dsimp only at hb
      rw [← hx] at hfi
      simp only [vYd, vSo] at hfi
      simp (disch := first | omega | with_unfolding_all rfl) [hk, g11, h0, hci, hfi]
      cases c : folB y l[i - 1] x
      case false =>
        rw [c] at hb
        simp (disch := first | omega | with_unfolding_all rfl) [hW i hin (by rw [hb]; simp [h0])]
      rw [c] at hb
      have hb' : badW y l i = (l.take i).any fun t => smP t x := by rw [hb]; simp
    case' neg =>
      have hb' : badW y l i = (l.take i).any fun t => smP t x := by rw [hb]; simp [h0]
    all_goals
      have htl : (l.take i).length = i := by simp; omega
      obtain ⟨t, ht⟩ : ∃ t, t = l.take i := ⟨_, rfl⟩
      rw [← ht] at htl hb'
      simp (disch := first | omega | with_unfolding_all rfl) [hk, g11, h0, ← ht]
      refine G_scanC [1, 2, 6, 9, 10, 11, 31, 32] 33 (fun j => match t[j]? with | some z => smP z x | none => false) i 0 (by simp) (Nat.zero_le _) ?_
      rintro j e2 - hj2 hz2 hk2 g33
      simp at hk2
      simp (disch := first | omega | with_unfolding_all rfl) [hk, g11, hk2, g33]
      refine G_brd (fun d2 => ?_) (fun d2 => ?_)
      · have hjn : j < t.length := by omega
        first
        | (exfalso; omega; done)
        | (
            obtain ⟨z, hz3⟩ : ∃ z, z = t[j] := ⟨_, rfl⟩
            simp (disch := first | omega | with_unfolding_all rfl) [hk, g11, hk2, g33, d2, ← hz3]
            by_cases c1 : z.t = x.t
            · by_cases c2 : z.p = x.p
              · have hbt : badW y l i = true := by
                  rw [hb', List.any_eq_true]
                  exact ⟨z, by rw [hz3]; exact List.getElem_mem hjn, by simp [smP, c1, c2]⟩
                simp (disch := first | omega | with_unfolding_all rfl) [c1, c2, hW i hin hbt]
              · simp (disch := first | omega | with_unfolding_all rfl) [c1, c2, hk, g11, hk2, g33, smP]
                try omega
            · simp (disch := first | omega | with_unfolding_all rfl) [c1, hk, g11, hk2, g33, smP]
              try omega)
      · have hbf : badW y l i = false := by
          rw [hb', Bool.eq_false_iff]
          intro q
          rw [List.any_eq_true] at q
          obtain ⟨z, hz3, hz4⟩ := q
          obtain ⟨j2, hj3, rfl⟩ := List.getElem_of_mem hz3
          have := hz2 j2 (Nat.zero_le _) (by omega)
          simp only [List.getElem?_eq_getElem hj3] at this
          rw [this] at hz4; cases hz4
        simp (disch := first | omega | with_unfolding_all rfl) [hk, g11, hk2, g33, d2, hbf]
        try omega
  · have hb1 : wayB y l = true := by
      simp only [wayB, Bool.not_eq_true']
      exact anyN_f fun j h1 h2 => hz j h1 (by omega)
    simp (disch := first | omega | with_unfolding_all rfl) [hk, g11, d, hb1]
structure Seen (m : Mp) (t : List So) : Prop where
  wf : MW m
  kn : m.kn = some 2
  vals : ∀ v ∈ m.vs, v = .bool true
  look : ∀ a b : Int, mfind m (.agg [.int .i64 a, .int .i64 b]) = if (t.any fun z => decide (z.t = a) && decide (z.p = b)) = true then some (.bool true) else none
theorem Seen.put {m : Mp} {t : List So} (h : Seen m t) (x : So) : Seen (mput m (.agg [.int .i64 x.t, .int .i64 x.p]) (.bool true)) (t ++ [x]) := by
  have hx : keyB m.kn (.agg [.int .i64 x.t, .int .i64 x.p]) = true := by rw [h.kn]; rfl
  refine ⟨h.wf.put hx _, by rw [mput_kn]; exact h.kn, fun v hv => ?_, fun a b => ?_⟩
  · rcases mput_vs hv with rfl | hv
    · rfl
    · exact h.vals v hv
  · rw [List.any_append]
    by_cases c : x.t = a ∧ x.p = b
    · obtain ⟨rfl, rfl⟩ := c
      rw [mfind_put_eq h.wf hx, if_pos]
      simp
    · rw [mfind_put_ne h.wf hx (by rw [h.kn]; rfl), h.look]
      · have : ([x].any fun z => decide (z.t = a) && decide (z.p = b)) = false := by
          simp
          intro q r; exact c ⟨q, r⟩
        rw [this, Bool.or_false]
      · intro q
        simp at q
        exact c q
theorem Seen.empty : Seen ⟨some 2, [], []⟩ [] := ⟨.empty _, rfl, fun v h => by simp at h, fun a b => by simp⟩
theorem path_ok {y : Yd} {F : PV} (hF : Fd y F) (g : Good y.r) (hj : y.j.length ≤ 2000) {nl : Nl} {l : List So} (hl : l.length ≤ 10000) (hs : ∀ s ∈ l, lieS y.r s = true) : R tc 61 [F, lst nl l] = some (.bool (wayB y l)) := by
  have hf : ∀ i j (hi : i < l.length) (hj : j < l.length), R tc 110 [F, vSo l[i], vSo l[j]] = some (.bool (folB y l[i] l[j])) := fun i j h1 h2 => by
    have := lieS_has (hs _ (List.getElem_mem h1))
    exact follows_ok hF g hj this.1 this.2
  have hW : ∀ i, i < l.length → badW y l i = true → wayB y l = false := fun i h1 h2 => by
    simp [wayB, anyN_t (Nat.zero_le i) h1 h2]
  obtain ⟨ks1, vs1, ks2, vs2, sig, jnt⟩ := hF
  refine R_of_G (F := pf61) (tc_nat _ rfl) rfl rfl ?_
  have hmk : ∀ H, evMkm (some 2) H = (.mmap H.length, H ++ [mpB ⟨some 2, [], []⟩]) := fun _ => rfl
  simp (disch := first | omega | with_unfolding_all rfl) [pf61, env0_eq, hmk]
  refine G_scanK [1, 2, 5, 10, 11] (fun i e h => get e 12 = .int .i64 (i : Int) ∧ ∃ m, Seen m (l.take i) ∧ h = [mpB m]) (badW y l) l.length 0 ⟨by simp, _, Seen.empty, by simp⟩ (Nat.zero_le _) ?_
  rintro i e h - hi hz hk ⟨g12, m, hm, rfl⟩
  simp at hk
  simp (disch := first | omega | with_unfolding_all rfl) [hk, g12]
  refine G_brd (fun d => ?_) (fun d => ?_)
  · have hin : i < l.length := by omega
    obtain ⟨x, hx⟩ : ∃ x, x = l[i] := ⟨_, rfl⟩
    have hb : badW y l i = ((decide (0 < i) && !(match l[i - 1]? with | some p => folB y p x | none => true)) || (l.take i).any fun t => smP t x) := by
      unfold badW; rw [List.getElem?_eq_getElem hin, ← hx]
    obtain ⟨t, ht⟩ : ∃ t, t = l.take i := ⟨_, rfl⟩
    have htl : t.length = i := by rw [ht]; simp; omega
    have hsn : l.take (i + 1) = t ++ [x] := by rw [ht, List.take_add_one, List.getElem?_eq_getElem hin, hx]; rfl
    rw [← ht] at hb hm
    have hlk : ∀ bs : Hp, evMlk (some 2) (.bool false) false (.mmap 0) (.agg [.int .i64 x.t, .int .i64 x.p]) (mpB m :: bs) = some (.bool (t.any fun z => smP z x)) := fun bs => by
      rw [evMlk_mmap (keyB_2 _ _) (m := m) rfl hm.kn, hm.look]
      have e0 : (t.any fun z => decide (z.t = x.t) && decide (z.p = x.p)) = t.any fun z => smP z x := rfl
      rw [e0]
      cases t.any fun z => smP z x <;> rfl
    have hup : ∀ bs : Hp, evMup (some 2) (.mmap 0) (.agg [.int .i64 x.t, .int .i64 x.p]) (.bool true) (mpB m :: bs) = some (mpB (mput m (.agg [.int .i64 x.t, .int .i64 x.p]) (.bool true)) :: bs) := fun bs => by
      rw [evMup_mmap (keyB_2 _ _) (m := m) rfl hm.kn]; rfl
    have hnr : ∀ (k : Nat) (v : List PV), (∀ w ∈ v, w = .bool true) → PV.noRefL k v = true := fun k v h => noRefL_iff.2 fun w hw => by rw [h w hw]; rfl
    have hm' := hm.put x
    have hnr1 := fun k => hnr k _ hm.vals
    have hnr2 := fun k => hnr k _ hm'.vals
    simp (disch := first | omega | with_unfolding_all rfl) [hk, g12, d, ← hx, hlk]
    cases hS : t.any fun z => smP z x
    · rw [hS, Bool.or_false] at hb
      simp (disch := first | omega | with_unfolding_all rfl)
      by_cases h0 : 0 < i
      · have h1 : i - 1 < l.length := by omega
        have hci : (i : Int) - 1 = ((i - 1 : Nat) : Int) := by omega
        have hfi := hf (i - 1) i h1 hin
        rw [List.getElem?_eq_getElem h1] at hb
        dsimp only at hb
        rw [← hx] at hfi
        simp only [vSo] at hfi
        cases c : folB y l[i - 1] x
        · rw [c] at hb hfi
          simp (disch := first | omega | with_unfolding_all rfl) [hk, g12, h0, hci, hfi, hnr1, hW i hin (by rw [hb]; simp [h0])]
        · rw [c] at hb hfi
          have hbf : badW y l i = false := by rw [hb]; simp
          simp (disch := first | omega | with_unfolding_all rfl) [hk, g12, h0, hci, hfi, hnr1, hnr2, hup, hbf]
          rw [hsn]; exact hm'
      · have hbf : badW y l i = false := by rw [hb]; simp [h0]
        simp (disch := first | omega | with_unfolding_all rfl) [hk, g12, h0, hnr1, hnr2, hup, hbf]
        rw [hsn]; exact hm'
    · simp (disch := first | omega | with_unfolding_all rfl) [hk, g12, hnr1, hW i hin (by rw [hb, hS]; simp)]
  · have hb1 : wayB y l = true := by
      simp only [wayB, Bool.not_eq_true']
      exact anyN_f fun j h1 h2 => hz j h1 (by omega)
    have hnr1 : ∀ k, PV.noRefL k m.vs = true := fun k => noRefL_iff.2 fun w hw => by rw [hm.vals w hw]; rfl
    simp (disch := first | omega | with_unfolding_all rfl) [hk, g12, d, hb1, hnr1]
end Go.Proofs.YtiaeckidlmoohaaGreat
end
section
set_option linter.unusedVariables false
set_option linter.unusedSimpArgs false
set_option maxHeartbeats 8000000
set_option maxRecDepth 20000
namespace Go.Proofs.YtiaeckidlmoohaaGreat
open Go.Proofs.YtiaeckidlmoohaaGreat.PM
@[simp] theorem hp_set (h : Hp) (x y : Blk) : (h ++ [x] : Hp).set (List.length h) y = h ++ [y] := by simp
@[simp] theorem hp_last (h : Hp) (x : Blk) : (h ++ [x] : Hp)[List.length h]? = some x := by simp
theorem key3_so {k : PV} (h : keyB (some 3) k = true) : ∃ s : So, k = vSo s := by
  obtain ⟨xs, rfl, hl, hx⟩ := keyB_some h
  match xs, hl with
  | [a, b, c], _ =>
    obtain ⟨a', rfl⟩ := hx a (by simp)
    obtain ⟨b', rfl⟩ := hx b (by simp)
    obtain ⟨c', rfl⟩ := hx c (by simp)
    exact ⟨⟨a', b', c'⟩, rfl⟩
theorem vSo_inj {a b : So} (h : vSo a = vSo b) : a = b := by
  simp at h
  exact so_ext.2 h
def sgS (q : Sg) : So := ⟨q.t, q.p, q.o⟩
theorem sgK_snoc (t : List Sg) (q : Sg) (s : So) : sgK (t ++ [q]) s = if sgS q = s then some q.k else sgK t s := by
  unfold sgK
  rw [List.reverse_append, List.reverse_singleton, List.singleton_append, List.find?_cons]
  by_cases c : sgS q = s
  · rw [if_pos c, decide_eq_true (by rw [← c]; exact ⟨rfl, rfl, rfl⟩)]; rfl
  · have : decide (q.t = s.t ∧ q.p = s.p ∧ q.o = s.o) = false := decide_eq_false (fun h => c (so_ext.2 h))
    rw [if_neg c, this]
structure SigM (t : List Sg) (m : Mp) : Prop where
  wf : MN m
  kn : m.kn = some 3
  vals : ∀ v ∈ m.vs, ∃ k, v = .int .i64 k
  look : ∀ s : So, mfind m (vSo s) = (sgK t s).map fun k => .int .i64 k
theorem SigM.empty : SigM [] ⟨some 3, [], []⟩ := ⟨.empty _, rfl, fun v h => by simp at h, fun s => rfl⟩
theorem SigM.put {t : List Sg} {m : Mp} (h : SigM t m) (q : Sg) : SigM (t ++ [q]) (mput m (vSo (sgS q)) (.int .i64 q.k)) := by
  have hx : keyB m.kn (vSo (sgS q)) = true := by rw [h.kn]; rfl
  refine ⟨h.wf.put hx _, by rw [mput_kn]; exact h.kn, fun v hv => ?_, fun s => ?_⟩
  · rcases mput_vs hv with rfl | hv
    · exact ⟨_, rfl⟩
    · exact h.vals v hv
  · rw [sgK_snoc]
    by_cases c : sgS q = s
    · rw [if_pos c, ← c, mfind_put_eq h.wf.toMW hx]; rfl
    · rw [if_neg c, mfind_put_ne h.wf.toMW hx (by rw [h.kn]; rfl) (fun e => c (vSo_inj e)), h.look]
theorem SigM.frz {t : List Sg} {m : Mp} (h : SigM t m) {H : Hp} {b : Nat} (hb : H[b]? = some (mpB m)) (n : Nat) : PM.frz H .any (n + 2) (.mmap b) = some (.fmap false (some 3) m.ks m.vs) := by
  rw [frz_mmap hb id (fun v hv => ?_), h.kn, List.map_id]; rfl
  obtain ⟨k, rfl⟩ := h.vals v hv
  exact ⟨rfl, rfl⟩
theorem jts_snoc (t : List Jo) (q : Jo) (s : So) : jts (t ++ [q]) s = if q.a = s then jts t s ++ [q.b] else jts t s := by
  unfold jts
  rw [List.filter_append, List.map_append]
  by_cases c : q.a = s
  · simp [c]
  · simp [c]
structure JntM (t : List Jo) (m : Mp) (bs : Hp) : Prop where
  wf : MN m
  kn : m.kn = some 3
  no : ∀ s : So, jts t s = [] → mfind m (vSo s) = none
  yes : ∀ s : So, jts t s ≠ [] → ∃ b gen, mfind m (vSo s) = some (mls So (b + 4) gen (jts t s).length) ∧ bs[b]? = some (bk 54 gen (jts t s))
  inj : ∀ (s s' : So) (b gen n gen' n' : Nat), mfind m (vSo s) = some (mls So b gen n) → mfind m (vSo s') = some (mls So b gen' n') → s = s'
theorem JntM.empty (bs : Hp) : JntM [] ⟨some 3, [], []⟩ bs := ⟨.empty _, rfl, fun s _ => rfl, fun s h => absurd rfl h, fun s s' b gen n gen' n' h => by cases h⟩
theorem JntM.frz {t : List Jo} {m : Mp} {bs : Hp} (h : JntM t m bs) (B0 B1 B3 : Blk) : ∃ vs', (∀ n, PM.frz (B0 :: B1 :: mpB m :: B3 :: bs) .any (n + 3) (.mmap 2) = some (.fmap false (some 3) m.ks vs')) ∧
    ∀ s : So, mfind ⟨some 3, m.ks, vs'⟩ (vSo s) = if jts t s = [] then none else some (lst .any (jts t s)) := by
  obtain ⟨H, hH⟩ : ∃ H, H = B0 :: B1 :: mpB m :: B3 :: bs := ⟨_, rfl⟩
  have key : ∀ (s : So), jts t s ≠ [] → ∃ v, mfind m (vSo s) = some v ∧ ∀ n, PM.frz H .any (n + 2) v = some (lst .any (jts t s)) := fun s hs => by
    obtain ⟨b, gen, h1, h2⟩ := h.yes s hs
    refine ⟨_, h1, fun n => ?_⟩
    have hb : H[b + 4]? = some (bk 54 gen (jts t s)) := by rw [hH]; exact h2
    exact frz_mls hb rfl (.inr (by simp))
  refine ⟨m.vs.map fun v => (PM.frz H .any 2 v).getD v, fun n => ?_, fun s => ?_⟩
  · rw [← hH, show n + 3 = (n + 2) + 1 from rfl, frz_mmap (b := 2) (m := m) (by rw [hH]; rfl) (fun v => (PM.frz H .any 2 v).getD v) (fun v hv => ?_), h.kn]; rfl
    obtain ⟨k, hk, hf⟩ := h.wf.val hv
    obtain ⟨s, rfl⟩ := key3_so (by have := h.wf.key k hk; rwa [h.kn] at this)
    have hs : jts t s ≠ [] := fun e => by rw [h.no s e] at hf; cases hf
    obtain ⟨v', h1, h2⟩ := key s hs
    rw [hf, Option.some.injEq] at h1
    subst h1
    have e0 := h2 0
    simp only [Nat.zero_add] at e0
    rw [h2 n, e0]
    exact ⟨rfl, rfl⟩
  · have e1 := mfind_map (some 3) m.ks m.vs (fun v => (PM.frz H .any 2 v).getD v) (vSo s)
    rw [e1]
    have e2 : mfind ⟨some 3, m.ks, m.vs⟩ (vSo s) = mfind m (vSo s) := by
      obtain ⟨kn, ks, vs⟩ := m; rfl
    rw [e2]
    by_cases hs : jts t s = []
    · rw [if_pos hs, h.no s hs]; rfl
    · rw [if_neg hs]
      obtain ⟨v', h1, h2⟩ := key s hs
      have e0 := h2 0
      simp only [Nat.zero_add] at e0
      rw [h1, Option.map_some, e0]; rfl
theorem JntM.new {t : List Jo} {m : Mp} {bs : Hp} (h : JntM t m bs) (q : Jo) (hq : jts t q.a = []) (z : PV) (bx : Blk) (gen : Nat) :
    JntM (t ++ [q]) (mput (mput m (vSo q.a) z) (vSo q.a) (mls So (bs.length + 5) gen 1)) (bs ++ [bx] ++ [bk 54 gen [q.b]]) := by
  have hx : keyB m.kn (vSo q.a) = true := by rw [h.kn]; rfl
  have hx' : keyB (mput m (vSo q.a) z).kn (vSo q.a) = true := by rw [mput_kn]; exact hx
  have hm1 := h.wf.put hx z
  have e1 : mfind (mput (mput m (vSo q.a) z) (vSo q.a) (mls So (bs.length + 5) gen 1)) (vSo q.a) = some (mls So (bs.length + 5) gen 1) := mfind_put_eq hm1.toMW hx' _
  have e2 : ∀ s : So, q.a ≠ s → mfind (mput (mput m (vSo q.a) z) (vSo q.a) (mls So (bs.length + 5) gen 1)) (vSo s) = mfind m (vSo s) := fun s hs => by
    rw [mfind_put_ne hm1.toMW hx' (by rw [mput_kn, h.kn]; rfl) (fun e => hs (vSo_inj e)), mfind_put_ne h.wf.toMW hx (by rw [h.kn]; rfl) (fun e => hs (vSo_inj e))]
  have e3 : ∀ (s : So) b g n, mfind m (vSo s) = some (mls So b g n) → b < bs.length + 4 := fun s b g n hs => by
    by_cases c : jts t s = []
    · rw [h.no s c] at hs; cases hs
    · obtain ⟨b', g', h1, h2⟩ := h.yes s c
      rw [h1] at hs
      simp [mls] at hs
      have := (List.getElem?_eq_some_iff.1 h2).1
      have hh : b' < List.length bs := this
      omega
  refine ⟨hm1.put hx' _, by rw [mput_kn, mput_kn]; exact h.kn, fun s hs => ?_, fun s hs => ?_, fun s s' b g n g' n' h1 h2 => ?_⟩
  · rw [jts_snoc] at hs
    by_cases c : q.a = s
    · rw [if_pos c] at hs; simp at hs
    · rw [if_neg c] at hs
      rw [e2 s c]; exact h.no s hs
  · rw [jts_snoc] at hs ⊢
    by_cases c : q.a = s
    · rw [if_pos c] at hs ⊢
      rw [← c, hq]
      refine ⟨bs.length + 1, gen, ?_, ?_⟩
      · rw [e1]; rfl
      · have : List.length bs + 1 = List.length (bs ++ [bx]) := by simp
        rw [this, hp_last]; rfl
    · rw [if_neg c] at hs ⊢
      obtain ⟨b, g, h1, h2⟩ := h.yes s hs
      have hlt := (List.getElem?_eq_some_iff.1 h2).1
      refine ⟨b, g, by rw [e2 s c]; exact h1, ?_⟩
      rw [List.append_assoc, List.getElem?_append_left hlt]; exact h2
  · by_cases c : q.a = s
    · by_cases c' : q.a = s'
      · rw [← c, ← c']
      · exfalso
        rw [← c, e1] at h1
        rw [e2 s' c'] at h2
        have := e3 _ _ _ _ h2
        simp [mls] at h1
        omega
    · by_cases c' : q.a = s'
      · exfalso
        rw [← c', e1] at h2
        rw [e2 s c] at h1
        have := e3 _ _ _ _ h1
        simp [mls] at h2
        omega
      · rw [e2 s c] at h1
        rw [e2 s' c'] at h2
        exact h.inj s s' b g n g' n' h1 h2
theorem JntM.more {t : List Jo} {m : Mp} {bs : Hp} (h : JntM t m bs) (q : Jo) {b gen : Nat} (hq : jts t q.a ≠ []) (h1 : mfind m (vSo q.a) = some (mls So (b + 4) gen (jts t q.a).length)) (h2 : bs[b]? = some (bk 54 gen (jts t q.a))) (bx : Blk) :
    JntM (t ++ [q]) (mput m (vSo q.a) (mls So (b + 4) (gen + 1) ((jts t q.a).length + 1))) (bs.set b (bk 54 (gen + 1) (jts t q.a ++ [q.b])) ++ [bx]) := by
  have hx : keyB m.kn (vSo q.a) = true := by rw [h.kn]; rfl
  have hlt : b < List.length bs := (List.getElem?_eq_some_iff.1 h2).1
  have e1 := mfind_put_eq h.wf.toMW hx (mls So (b + 4) (gen + 1) ((jts t q.a).length + 1))
  have e2 : ∀ s : So, q.a ≠ s → mfind (mput m (vSo q.a) (mls So (b + 4) (gen + 1) ((jts t q.a).length + 1))) (vSo s) = mfind m (vSo s) := fun s hs => by
    rw [mfind_put_ne h.wf.toMW hx (by rw [h.kn]; rfl) (fun e => hs (vSo_inj e))]
  refine ⟨h.wf.put hx _, by rw [mput_kn]; exact h.kn, fun s hs => ?_, fun s hs => ?_, fun s s' b' g n g' n' q1 q2 => ?_⟩
  · rw [jts_snoc] at hs
    by_cases c : q.a = s
    · rw [if_pos c] at hs; simp at hs
    · rw [if_neg c] at hs
      rw [e2 s c]; exact h.no s hs
  · rw [jts_snoc] at hs ⊢
    by_cases c : q.a = s
    · rw [if_pos c]
      rw [← c]
      refine ⟨b, gen + 1, ?_, ?_⟩
      · rw [e1]; simp
      · rw [List.getElem?_append_left (by simpa using hlt), List.getElem?_set_self hlt]
    · rw [if_neg c] at hs ⊢
      obtain ⟨b', g, k1, k2⟩ := h.yes s hs
      have hlt' : b' < List.length bs := (List.getElem?_eq_some_iff.1 k2).1
      refine ⟨b', g, by rw [e2 s c]; exact k1, ?_⟩
      rw [List.getElem?_append_left (by simpa using hlt'), List.getElem?_set_ne]
      · exact k2
      · rintro rfl
        exact c (h.inj _ _ _ _ _ _ _ h1 k1)
  · have e4 : ∀ (s : So) b' g n, mfind (mput m (vSo q.a) (mls So (b + 4) (gen + 1) ((jts t q.a).length + 1))) (vSo s) = some (mls So b' g n) → ∃ g n, mfind m (vSo s) = some (mls So b' g n) := fun s b' g n hs => by
      by_cases c : q.a = s
      · rw [← c, e1] at hs
        simp [mls] at hs
        obtain ⟨rfl, _, _⟩ := hs
        exact ⟨_, _, by rw [← c]; exact h1⟩
      · rw [e2 s c] at hs
        exact ⟨_, _, hs⟩
    obtain ⟨_, _, r1⟩ := e4 _ _ _ _ q1
    obtain ⟨_, _, r2⟩ := e4 _ _ _ _ q2
    exact h.inj _ _ _ _ _ _ _ r1 r2
end Go.Proofs.YtiaeckidlmoohaaGreat
end
section
set_option linter.unusedVariables false
set_option linter.unusedSimpArgs false
set_option maxHeartbeats 8000000
set_option maxRecDepth 20000
namespace Go.Proofs.YtiaeckidlmoohaaGreat
open Go.Proofs.YtiaeckidlmoohaaGreat.PM
abbrev BF (y : Yd) (a b : PV) : Blk := ⟨90, 0, [.int .i64 y.r.w, .int .i64 y.r.h, lst y.r.n1 y.r.s, lst y.r.n2 y.r.d, lst y.n1 y.g, lst y.n2 y.j, lst y.n3 y.t, a, b], none⟩
theorem fieldOf_ok (y : Yd) (hg : y.g.length ≤ 2000) (hj : y.j.length ≤ 2000) : ∃ F, R tc 60 [vYd y] = some F ∧ Fd y F := by
  obtain ⟨v, h1, h2⟩ := R_ex (T := tc) (f := 60) (F := pf60) (args := [vYd y]) (Rq := fun v => Fd y v) (tc_nat _ rfl) rfl rfl (by
    have hmk : ∀ H, evMkm (some 3) H = (.mmap H.length, H ++ [mpB ⟨some 3, [], []⟩]) := fun _ => rfl
    simp (disch := first | omega | with_unfolding_all rfl) [pf60, env0_eq, hmk]
    have hB0 : ∃ B0 : Blk, B0 = ⟨90, 0, [.int .i64 0, .int .i64 0, .list .nil 1 [], .list .nil 1 [], .list .nil 4 [], .list .nil 6 [], .list .nil 5 [], .nilmap, .nilmap], none⟩ := ⟨_, rfl⟩
    obtain ⟨B0, hB0⟩ := hB0
    rw [← hB0]
    refine G_loopK [1, 2, 3, 13, 14] (fun (i : Nat) e h => i ≤ y.g.length ∧ get e 15 = .int .i64 (i : Int) ∧ ∃ m bs, SigM (y.g.take i) m ∧ h = B0 :: mpB m :: mpB ⟨some 3, [], []⟩ :: BF y (.mmap 1) (.mmap 2) :: bs) (fun i => y.g.length - i) (a₀ := 0) ⟨by omega, by simp, _, [], SigM.empty, by simp⟩ ?_
    rintro i e h hk ⟨hi, g15, m, bs, hm, rfl⟩
    simp at hk
    simp (disch := first | omega | with_unfolding_all rfl) [hk, g15]
    refine G_brd (fun d => ?_) (fun d => ?_)
    · have hin : i < y.g.length := by omega
      obtain ⟨x, hx⟩ : ∃ x, x = y.g[i] := ⟨_, rfl⟩
      have hsn : y.g.take (i + 1) = y.g.take i ++ [x] := by rw [List.take_add_one, List.getElem?_eq_getElem hin, hx]; rfl
      have hup : ∀ (b2 b3 : Blk) (bs : Hp), evMup (some 3) (.mmap 1) (.agg [.int .i64 x.t, .int .i64 x.p, .int .i64 x.o]) (.int .i64 x.k) (B0 :: mpB m :: b2 :: b3 :: bs) = some (B0 :: mpB (mput m (vSo (sgS x)) (.int .i64 x.k)) :: b2 :: b3 :: bs) := fun b2 b3 bs => by
        rw [evMup_mmap (keyB_3 _ _ _) (m := m) rfl hm.kn]; rfl
      simp (disch := first | omega | with_unfolding_all rfl) [hk, g15, d, ← hx, hup]
      refine ⟨i + 1, by omega, by omega, by omega, ?_⟩
      rw [hsn]; exact hm.put x
    · have hi2 : i = y.g.length := by omega
      rw [hi2, List.take_length] at hm
      simp (disch := first | omega | with_unfolding_all rfl) [hk, g15, d]
      refine G_loopK [2, 3, 32, 33] (fun (i : Nat) e h => i ≤ y.j.length ∧ get e 34 = .int .i64 (i : Int) ∧ ∃ m2 bs, JntM (y.j.take i) m2 bs ∧ h = B0 :: mpB m :: mpB m2 :: BF y (.mmap 1) (.mmap 2) :: bs) (fun i => y.j.length - i) (a₀ := 0) ⟨by omega, by simp, _, bs, JntM.empty bs, rfl⟩ ?_
      rintro i e h hk ⟨hi, g34, m2, bs, hm2, rfl⟩
      simp at hk
      simp (disch := first | omega | with_unfolding_all rfl) [hk, g34]
      refine G_brd (fun d => ?_) (fun d => ?_)
      · have hin : i < y.j.length := by omega
        obtain ⟨x, hx⟩ : ∃ x, x = y.j[i] := ⟨_, rfl⟩
        have hsn : y.j.take (i + 1) = y.j.take i ++ [x] := by rw [List.take_add_one, List.getElem?_eq_getElem hin, hx]; rfl
        have htl : (y.j.take i).length ≤ 2000 := by rw [List.length_take]; omega
        obtain ⟨t, ht⟩ : ∃ t, t = y.j.take i := ⟨_, rfl⟩
        rw [← ht] at hm2 hsn htl
        have hjl := jts_len t x.a
        have hest : ∀ (mm : Mp) (v : PV) (b3 : Blk) (bs : Hp), mm.kn = some 3 → MW mm → (mfind mm (vSo x.a)).isSome = true → evEst (some 3) (.mmap 2) (.stp 2 (.agg [.int .i64 x.a.t, .int .i64 x.a.p, .int .i64 x.a.o])) v (B0 :: mpB m :: mpB mm :: b3 :: bs) = some (B0 :: mpB m :: mpB (mput mm (vSo x.a) v) :: b3 :: bs) := fun mm v b3 bs h1 h2 h3 => by
          rw [evEst_mmap (keyB_3 _ _ _) (m := mm) rfl h1 h2 h3]; rfl
        by_cases hq : jts t x.a = []
        · have hpe : ∀ (b3 : Blk) (bs : Hp), evMpe (some 3) (.list .nil 3 []) (.mmap 2) (.agg [.int .i64 x.a.t, .int .i64 x.a.p, .int .i64 x.a.o]) (B0 :: mpB m :: mpB m2 :: b3 :: bs) = some (.tup [.list .nil 3 [], .stp 2 (vSo x.a)], B0 :: mpB m :: mpB (mput m2 (vSo x.a) (.list .nil 3 [])) :: b3 :: bs) := fun b3 bs => by
            rw [evMpe_none (keyB_3 _ _ _) (m := m2) rfl hm2.kn (hm2.no _ hq)]; rfl
          have hk1 : keyB m2.kn (vSo x.a) = true := by rw [hm2.kn]; rfl
          have hs1 : (mfind (mput m2 (vSo x.a) (.list .nil 3 [])) (vSo x.a)).isSome = true := by rw [mfind_put_eq hm2.wf.toMW hk1]; rfl
          have hest1 := fun v b3 bs => hest (mput m2 (vSo x.a) (.list .nil 3 [])) v b3 bs (by rw [mput_kn]; exact hm2.kn) (hm2.wf.put hk1 _).toMW hs1
          have happ : ∀ (H : Hp), evApp 54 3 24 (.list .nil 3 []) (lst .ex [x.b]) H = some (mls So H.length 1 1, H ++ [bk 54 1 [x.b]]) := fun H =>
            evApp_lst (α := So) (nl := .nil) (xs := []) (e := 54) (bytes := 24) (H := H) rfl (.inl rfl) (srcOf_lst (nl := .ex) (xs := [x.b]) (H := H) 3) (by simp) (by simp)
          simp (disch := first | omega | with_unfolding_all rfl) [hk, g34, d, ← hx, hpe, hest1, happ]
          refine ⟨i + 1, by omega, by omega, by omega, ?_⟩
          have := hm2.new x hq (.list .nil 3 []) ⟨78, 0, [.int .i64 x.a.t, .int .i64 x.a.p, .int .i64 x.a.o, .int .i64 x.b.t, .int .i64 x.b.p, .int .i64 x.b.o], none⟩ 1
          rw [hsn]
          simpa using this
        · obtain ⟨b, gen, hf1, hf2⟩ := hm2.yes _ hq
          have hpe : ∀ (b3 : Blk) (bs : Hp), evMpe (some 3) (.list .nil 3 []) (.mmap 2) (.agg [.int .i64 x.a.t, .int .i64 x.a.p, .int .i64 x.a.o]) (B0 :: mpB m :: mpB m2 :: b3 :: bs) = some (.tup [mls So (b + 4) gen (jts t x.a).length, .stp 2 (vSo x.a)], B0 :: mpB m :: mpB m2 :: b3 :: bs) := fun b3 bs => by
            rw [evMpe_some (keyB_3 _ _ _) (m := m2) rfl hm2.kn hf1]
          have hest1 := fun v b3 bs => hest m2 v b3 bs hm2.kn hm2.wf.toMW (by rw [hf1]; rfl)
          have hbl : b < List.length bs := (List.getElem?_eq_some_iff.1 hf2).1
          have happ : ∀ (b0 b1 b2 b3 bx : Blk) (nl : Nl), evApp 54 3 24 (mls So (b + 4) gen (jts t x.a).length) (lst nl [x.b]) (b0 :: b1 :: b2 :: b3 :: (bs ++ [bx])) = some (mls So (b + 4) (gen + 1) ((jts t x.a).length + 1), b0 :: b1 :: b2 :: b3 :: (bs.set b (bk 54 (gen + 1) (jts t x.a ++ [x.b])) ++ [bx])) := fun b0 b1 b2 b3 bx nl => by
            have hg : (b0 :: b1 :: b2 :: b3 :: (bs ++ [bx]) : Hp)[b + 4]? = some (bk 54 gen (jts t x.a)) := by
              show (bs ++ [bx] : Hp)[b]? = _
              rw [List.getElem?_append_left hbl]; exact hf2
            have := evApp_mls (α := So) (e := 54) (s := 3) (bytes := 24) (x := lst nl [x.b]) (ys := [x.b]) (n := (jts t x.a).length) rfl (srcOf_lst (nl := nl) (xs := [x.b]) (H := b0 :: b1 :: b2 :: b3 :: (bs ++ [bx])) 3) (by simp) hg rfl (by simp; omega)
            rw [this]
            simp [List.set_append, hbl]
          simp (disch := first | omega | with_unfolding_all rfl) [hk, g34, d, ← hx, hpe, hest1, happ]
          refine ⟨i + 1, by omega, by omega, by omega, ?_⟩
          rw [hsn]
          exact hm2.more x hq hf1 hf2 _
      · have hi2 : i = y.j.length := by omega
        rw [hi2, List.take_length] at hm2
        subst hB0
        have hz1 : ∀ (b0 : Blk) (bs : Hp), frz (b0 :: mpB m :: bs) .any 63 (.mmap 1) = some (.fmap false (some 3) m.ks m.vs) := fun b0 bs => hm.frz (b := 1) rfl 61
        obtain ⟨vs', hz2, hz3⟩ := hm2.frz (BF y (.mmap 1) (.mmap 2)) (mpB m) (BF y (.mmap 1) (.mmap 2))
        have hz2 := hz2 60
        simp (disch := first | omega | with_unfolding_all rfl) [hk, g34, d, hz1, hz2]
        refine Fd.mk _ _ _ _ (fun s => ?_) (fun s => hz3 s)
        have := hm.look s
        obtain ⟨kn, ks, vs⟩ := m
        obtain rfl : kn = some 3 := hm.kn
        exact this)
  exact ⟨v, h1, h2⟩
end Go.Proofs.YtiaeckidlmoohaaGreat
end
