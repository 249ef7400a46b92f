/- Airports: the way that is found leads there, and none that is given has fewer nodes. -/
import Derived.Test.YtmbknidfkddpfaaAirWays
import Derived.Test.YtmbknidfkddpfaaAirLeast
set_option linter.unusedVariables false
set_option linter.unusedSimpArgs false
set_option maxHeartbeats 1000000
namespace Go.Proofs.Ytmbknidfkddpfaa
open Go.Proofs.Ytmbknidfkddpfaa.PM

def onHit (os : List Int) (b : Int) (j : Nat) : Bool := match os[j]? with | some o => decide (o = b) | none => false
theorem onHit_mem (os : List Int) (b : Int) : anyN (onHit os b) 0 os.length = decide (b ∈ os) := by
  by_cases h : b ∈ os
  · rw [decide_eq_true h]
    obtain ⟨j, hj, rfl⟩ := List.getElem_of_mem h
    exact anyN_t (Nat.zero_le j) hj (by simp [onHit, hj])
  · rw [decide_eq_false h]
    refine anyN_f fun j _ hj => ?_
    simp only [onHit, List.getElem?_eq_getElem hj, decide_eq_false_iff_not]
    rintro rfl
    exact h (List.getElem_mem hj)
theorem on_ok (f : Fd) (hf : f.nl ≠ .bor) (hb : f.nodes.length ≤ 400) (hc : ∀ n ∈ f.nodes, n.on.length ≤ 400) (a b : Int) (h0 : 0 ≤ a) (h1 : a < f.nodes.length) : R tb 34 [vFd f, .int .i64 a, .int .i64 b] = some (.bool (decide (b ∈ onOf f.nodes a.toNat))) := by
  have hm : maxLen = 9223372036854775807 := rfl
  have hl : a.toNat < f.nodes.length := by omega
  have hon := hc _ (List.getElem_mem hl)
  rw [on_eq hl, ← onHit_mem]
  refine R_of_G (F := pf34) rfl rfl rfl ?_
  simp (disch := first | omega | with_unfolding_all rfl) [pf34, env0_eq]
  refine G_scanC [2, 14, 15] 16 (onHit f.nodes[a.toNat].on b) f.nodes[a.toNat].on.length 0 (by simp) (Nat.zero_le _) ?_
  rintro i e - hi hz hk hci
  simp at hk
  simp (disch := first | omega | with_unfolding_all rfl) [hk, hci]
  refine G_brd (fun h2 => ?_) (fun h2 => ?_)
  · simp (disch := first | omega | with_unfolding_all rfl) [h2]
    refine G_brd (fun h3 => ?_) (fun h3 => ?_)
    · have hh : onHit f.nodes[a.toNat].on b i = true := by simp [onHit, h2, h3]
      have hn := anyN_t (Nat.zero_le i) h2 hh
      simp (disch := first | omega | with_unfolding_all rfl) [h3, hn]
    · have hh : onHit f.nodes[a.toNat].on b i = false := by simp [onHit, h2, h3]
      simp (disch := first | omega | with_unfolding_all rfl) [h3, hh, h2]
  · have hn : anyN (onHit f.nodes[a.toNat].on b) 0 f.nodes[a.toNat].on.length = false := anyN_cut hz (by omega)
    simp (disch := first | omega | with_unfolding_all rfl) [h2, hn]

theorem getD_lt {l : List Int} {i : Nat} (h : i < l.length) : l.getD i 0 = l[i] := by
  rw [List.getD_eq_getElem?_getD, List.getElem?_eq_getElem h]; rfl
theorem thr_zero {ns : List Nd} {a k : Nat} {fr : Nat → Bool} (h : thr ns a fr k = true) (hk : kd ns k = 0) : k = a := by
  unfold thr at h
  rw [hk] at h
  simp at h
  omega
def badW (ns : List Nd) (way : List Int) (i : Nat) : Bool := match way[i]? with
  | some v => decide (v < 0 ∨ (ns.length : Int) ≤ v ∨ (0 < i ∧ ¬ v ∈ onOf ns (way.getD (i - 1) 0).toNat) ∨ (0 < i ∧ i + 1 < way.length ∧ kd ns v.toNat = 0))
  | none => false
def leadsB (ns : List Nd) (at_ w : Int) (way : List Int) : Bool := decide (way ≠ [] ∧ way.getD 0 0 = at_) && (!anyN (badW ns way) 0 way.length && decide (w = 1 ∧ kd ns (way.getD (way.length - 1) 0).toNat = 3 ∨ w = 2 ∧ kd ns (way.getD (way.length - 1) 0).toNat = 0))
theorem leads_bad {ns : List Nd} {way : List Int} {i : Nat} (a w : Int) (h : i < way.length) (hb : badW ns way i = true) : leadsB ns a w way = false := by
  have hn : anyN (badW ns way) 0 way.length = true := anyN_t (Nat.zero_le i) h hb
  unfold leadsB
  rw [hn]
  simp
theorem leads_ok (f : Fd) (hf : f.nl ≠ .bor) (hb : f.nodes.length ≤ 400) (hc : ∀ n ∈ f.nodes, n.on.length ≤ 400) (a w : Int) (nl : Nl) (way : List Int) (hw : way.length ≤ 1000) :
    R tb 27 [vFd f, .int .i64 a, .int .i64 w, lst nl way] = some (.bool (leadsB f.nodes a w way)) := by
  have hm : maxLen = 9223372036854775807 := rfl
  have ho := on_ok f hf hb hc
  simp only [vFd] at ho
  refine R_of_G (F := pf27) rfl rfl rfl ?_
  simp (disch := first | omega | with_unfolding_all rfl) [pf27, env0_eq]
  by_cases hne : way = []
  · subst hne
    simp (disch := first | omega | with_unfolding_all rfl) [leadsB]
  have hl : 0 < way.length := List.length_pos_iff.2 hne
  have hne0 : ¬ (way.length : Int) = 0 := by omega
  simp (disch := first | omega | with_unfolding_all rfl) [hne0, hne]
  refine G_brd (fun h1 => ?_) (fun h1 => ?_)
  case refine_2 =>
    have hx : leadsB f.nodes a w way = false := by simp [leadsB, hl, h1]
    simp (disch := first | omega | with_unfolding_all rfl) [h1, hx]
  simp (disch := first | omega | with_unfolding_all rfl) [h1]
  refine G_scanC [2, 3, 4, 22, 23] 24 (badW f.nodes way) way.length 0 (by simp) (Nat.zero_le _) ?_
  rintro i e - hi hz hk hci
  simp at hk
  simp (disch := first | omega | with_unfolding_all rfl) [hk, hci]
  refine G_brd (fun h2 => ?_) (fun h2 => ?_)
  · have hbw : badW f.nodes way i = decide (way[i] < 0 ∨ (f.nodes.length : Int) ≤ way[i] ∨ (0 < i ∧ ¬ way[i] ∈ onOf f.nodes (way.getD (i - 1) 0).toNat) ∨ (0 < i ∧ i + 1 < way.length ∧ kd f.nodes way[i].toNat = 0)) := by simp [badW, h2]
    have hi1 : ((i : Int) - 1).toNat = i - 1 := by omega
    have hprev : 0 < i → (h : i - 1 < way.length) → 0 ≤ way[i - 1] ∧ way[i - 1] < f.nodes.length := by
      intro q hlt
      have := hz (i - 1) (Nat.zero_le _) (by omega)
      simp only [badW, List.getElem?_eq_getElem hlt, decide_eq_false_iff_not] at this
      omega
    simp (disch := first | omega | with_unfolding_all rfl) [h2]
    refine G_grdn (fun h3 => ?_) (fun h3 => ?_)
    case refine_2 =>
      have hx : leadsB f.nodes a w way = false := leads_bad a w h2 (by rw [hbw]; exact decide_eq_true (.inl h3))
      simp (disch := first | omega | with_unfolding_all rfl) [h3, hx]
    simp (disch := first | omega | with_unfolding_all rfl) [h3]
    by_cases h4 : (f.nodes.length : Int) ≤ way[i]
    · have hx : leadsB f.nodes a w way = false := leads_bad a w h2 (by rw [hbw]; exact decide_eq_true (.inr (.inl h4)))
      simp (disch := first | omega | with_unfolding_all rfl) [h4, hx]
    simp (disch := first | omega | with_unfolding_all rfl) [h4]
    by_cases h5 : 0 < i
    case neg =>
      have h5' : ¬ 0 < (i : Int) := by omega
      have hbf : badW f.nodes way i = false := by rw [hbw]; exact decide_eq_false (by rintro (q | q | q | q); exact h3 q; exact h4 q; exact h5 q.1; exact h5 q.1)
      simp (disch := first | omega | with_unfolding_all rfl) [h5, h5', hbf, h2]
    have h5' : 0 < (i : Int) := by omega
    have hlt : i - 1 < way.length := by omega
    obtain ⟨hp0, hp1⟩ := hprev h5 hlt
    have hgp : way.getD (i - 1) 0 = way[i - 1] := by simp [hlt]
    rw [hgp] at hbw
    have hoi := ho way[i - 1] way[i] hp0 hp1
    simp (disch := first | omega | with_unfolding_all rfl) [h5, h5', hi1, hoi]
    by_cases h6 : way[i] ∈ onOf f.nodes way[i - 1].toNat
    case neg =>
      have hx : leadsB f.nodes a w way = false := leads_bad a w h2 (by rw [hbw]; exact decide_eq_true (.inr (.inr (.inl ⟨h5, h6⟩))))
      simp (disch := first | omega | with_unfolding_all rfl) [h6, hx]
    simp (disch := first | omega | with_unfolding_all rfl) [h6, h5, h5']
    have hkl : way[i].toNat < f.nodes.length := by omega
    by_cases h7 : i + 1 < way.length
    case neg =>
      have h7' : ¬ (i : Int) < (way.length : Int) - 1 := by omega
      have hbf : badW f.nodes way i = false := by rw [hbw]; exact decide_eq_false (by rintro (q | q | q | q); exact h3 q; exact h4 q; exact q.2 h6; exact h7 q.2.1)
      simp (disch := first | omega | with_unfolding_all rfl) [h7, h7', hbf, h2]
    have h7' : (i : Int) < (way.length : Int) - 1 := by omega
    simp (disch := first | omega | with_unfolding_all rfl) [h7, h7', kd_sym hkl]
    refine G_brd (fun h8 => ?_) (fun h8 => ?_)
    · have hx : leadsB f.nodes a w way = false := leads_bad a w h2 (by rw [hbw]; exact decide_eq_true (.inr (.inr (.inr ⟨h5, h7, h8⟩))))
      simp (disch := first | omega | with_unfolding_all rfl) [h8, hx]
    · have hbf : badW f.nodes way i = false := by rw [hbw]; exact decide_eq_false (by rintro (q | q | q | q); exact h3 q; exact h4 q; exact q.2 h6; exact h8 q.2.2)
      simp (disch := first | omega | with_unfolding_all rfl) [h8, hbf, h2]
  · have hn : anyN (badW f.nodes way) 0 way.length = false := anyN_cut hz (by omega)
    obtain rfl : i = way.length := by omega
    have hlast := hz (way.length - 1) (Nat.zero_le _) (by omega)
    have hl1 : way.length - 1 < way.length := by omega
    simp only [badW, List.getElem?_eq_getElem hl1, decide_eq_false_iff_not] at hlast
    have hi1 : ((way.length : Int) - 1).toNat = way.length - 1 := by omega
    have hb0 : 0 ≤ way[way.length - 1] := by omega
    have hb1 : way[way.length - 1] < f.nodes.length := by omega
    have hkl : way[way.length - 1].toNat < f.nodes.length := by omega
    have hgl : way.getD (way.length - 1) 0 = way[way.length - 1] := getD_lt hl1
    have hg0 : way.getD 0 0 = way[0] := getD_lt hl
    have hx : leadsB f.nodes a w way = decide (w = 1 ∧ kd f.nodes way[way.length - 1].toNat = 3 ∨ w = 2 ∧ kd f.nodes way[way.length - 1].toNat = 0) := by
      unfold leadsB
      rw [hn, hgl, hg0, decide_eq_true ⟨hne, h1⟩]
      simp
    simp (disch := first | omega | with_unfolding_all rfl) [h2, hi1, kd_sym hkl]
    rw [hx]
    refine G_grdd (fun h3 => ?_) (fun h3 => ?_)
    · simp (disch := first | omega | with_unfolding_all rfl) [h3]
      refine G_grdn (fun h4 => ?_) (fun h4 => ?_)
      · simp (disch := first | omega | with_unfolding_all rfl) [h3, h4]
      · simp (disch := first | omega | with_unfolding_all rfl) [h3, h4]
    · simp (disch := first | omega | with_unfolding_all rfl) [h3]
      refine G_grdd (fun h4 => ?_) (fun h4 => ?_)
      · simp (disch := first | omega | with_unfolding_all rfl) [h3, h4]
      · simp (disch := first | omega | with_unfolding_all rfl) [h3, h4]

def Okay (f : Fd) : Prop := fieldErr f = 0
theorem wayC (ns : List Nd) (a w : Nat) (ha : a < ns.length) : (cnt ns a w (noBar ns.length) ns.length)[a]? = some (fin ns a w (noBar ns.length)) := by
  have hi : Inv (onOf ns) ns.length ns.length (cnt ns a w (noBar ns.length) ns.length) := inv_rss _
  have hla : a < (cnt ns a w (noBar ns.length) ns.length).length := by rw [hi.len]; exact ha
  unfold fin
  simp only [List.getD_eq_getElem?_getD, List.getElem?_eq_getElem hla, Option.getD_some]
theorem last_dec {ns : List Nd} {w : Nat} {v : Int} : decide ((w : Int) = 1 ∧ kd ns v.toNat = 3 ∨ (w : Int) = 2 ∧ kd ns v.toNat = 0) = endB w (kd ns v.toNat) := by
  unfold endB
  exact decide_eq_decide.2 (by omega)
theorem wyI_leads {ns : List Nd} {a w : Nat} {l : List Int} (h : WyI (onOf ns) (zed ns a w (noBar ns.length)) (thr ns a (noBar ns.length)) ns.length l) (h0 : l.getD 0 0 = a) (hin : ∀ i (hi : i < l.length), 0 < i → i + 1 < l.length → kd ns l[i].toNat ≠ 0) : leadsB ns a w l = true := by
  have hn : anyN (badW ns l) 0 l.length = false := by
    refine anyN_f fun i _ hi => ?_
    have hb := h.bnd i hi
    simp only [badW, List.getElem?_eq_getElem hi, decide_eq_false_iff_not]
    rintro (q | q | ⟨q, q2⟩ | ⟨q, q2, q3⟩)
    · omega
    · omega
    · obtain ⟨j, rfl⟩ : ∃ j, i = j + 1 := ⟨i - 1, by omega⟩
      have hg := (h.go j hi).2
      simp only [Nat.add_sub_cancel] at q2
      have hlt : j < l.length := by omega
      rw [getD_lt hlt] at q2
      exact q2 hg
    · exact hin i hi q q2 q3
  have hl : 0 < l.length := List.length_pos_iff.2 h.ne
  have hf := h.fin (l.length - 1) (by omega) (by omega)
  unfold leadsB
  rw [hn, decide_eq_true ⟨h.ne, h0⟩, last_dec]
  rw [zed_eq, Bool.and_eq_true] at hf
  rw [getD_lt (show l.length - 1 < l.length by omega), hf.1]
  rfl
theorem leads_wyI {ns : List Nd} {a w : Nat} {l : List Int} (h : leadsB ns a w l = true) : WyI (onOf ns) (zed ns a w (noBar ns.length)) (thr ns a (noBar ns.length)) ns.length l := by
  unfold leadsB at h
  simp only [Bool.and_eq_true, decide_eq_true_eq, Bool.not_eq_true'] at h
  obtain ⟨⟨hne, h0⟩, hn, he⟩ := h
  have hl : 0 < l.length := List.length_pos_iff.2 hne
  have hb : ∀ i (hi : i < l.length), 0 ≤ l[i] ∧ l[i] < ns.length := by
    intro i hi
    have := anyN_off hn (Nat.zero_le i) hi
    simp only [badW, List.getElem?_eq_getElem hi, decide_eq_false_iff_not] at this
    omega
  refine ⟨hne, hb, fun i hi => ⟨?_, ?_⟩, fun i hi hlast => ?_⟩
  · have hbi := hb i (by omega)
    unfold thr
    rcases Nat.eq_zero_or_pos i with rfl | hp
    · rw [getD_lt hl] at h0
      rw [decide_eq_true (show ((l[0].toNat : Nat) : Int) = a by omega)]
      rfl
    · have := anyN_off hn (Nat.zero_le i) (by omega)
      simp only [badW, List.getElem?_eq_getElem (show i < l.length by omega), decide_eq_false_iff_not] at this
      have hk : ¬ kd ns l[i].toNat = 0 := fun q => this (.inr (.inr (.inr ⟨hp, hi, q⟩)))
      rw [noBar_t (by omega), decide_eq_false hk]
      simp
  · have := anyN_off hn (Nat.zero_le (i + 1)) hi
    simp only [badW, List.getElem?_eq_getElem hi, decide_eq_false_iff_not, Nat.add_sub_cancel] at this
    have hlt : i < l.length := by omega
    rw [getD_lt hlt] at this
    exact Classical.byContradiction fun q => this (.inr (.inr (.inl ⟨by omega, q⟩)))
  · have hbi := hb i hi
    obtain rfl : i = l.length - 1 := by omega
    rw [getD_lt hi] at he
    rw [zed_eq, noBar_t (by omega)]
    have := last_dec (ns := ns) (w := w) (v := l[l.length - 1])
    rw [decide_eq_true he] at this
    rw [← this]
    rfl
theorem x_leads (ns : List Nd) (hr : ∀ k, k < ns.length → ∀ o ∈ onOf ns k, 0 ≤ o ∧ o < ns.length) (a w : Nat) (ha : a < ns.length) (hw : w ≠ 0) (hx : (wayX ns a w (noBar ns.length)).2 = true) : leadsB ns a w (wayX ns a w (noBar ns.length)).1 = true := by
  have hc := wayC ns a w ha
  unfold wayX at hx ⊢
  by_cases he : endB w (kd ns a) = true
  · rw [if_pos (.inr he)]
    refine wyI_leads (Wy.ix (.one _ (by omega) (by omega) ?_)) rfl (fun i hi h0 h1 => ?_)
    · rw [zed_eq]; simp [he]
    · simp at h1
  rw [if_neg (by rintro (q | q); exact hw q; exact he q)] at hx ⊢
  split at hx
  · cases hx
  rename_i hf
  rw [if_neg hf]
  obtain ⟨n, hn⟩ : ∃ n : Nat, fin ns a w (noBar ns.length) = n := ⟨_, (Int.toNat_of_nonneg (by omega)).symm⟩
  rw [hn] at hc
  have hwy := walk_wy (z := zed ns a w (noBar ns.length)) (th := thr ns a (noBar ns.length)) hr n (a : Int) (by omega) (by omega) (by simpa using hc)
  have hless := walk_less (z := zed ns a w (noBar ns.length)) (th := thr ns a (noBar ns.length)) hr n (a : Int) (by omega) (by omega) (by simpa using hc)
  have hwl : wayL ns a w (noBar ns.length) = (a : Int) :: walk (onOf ns) (cnt ns a w (noBar ns.length) ns.length) n a := by unfold wayL; rw [hn, Int.toNat_natCast]
  show leadsB ns a w (wayL ns a w (noBar ns.length)) = true
  rw [hwl]
  generalize walk (onOf ns) (cnt ns a w (noBar ns.length) ns.length) n a = W at hwy hless ⊢
  refine wyI_leads hwy.ix rfl (fun i hi h0 h1 hk => ?_)
  have hth := (hwy.ix.go i h1).1
  have hva := thr_zero hth hk
  obtain ⟨j, rfl⟩ : ∃ j, i = j + 1 := ⟨i - 1, by omega⟩
  have hj : j < W.length := by simpa using hi
  obtain ⟨m, hm1, hm2⟩ := hless _ (List.getElem_mem hj)
  simp only [List.getElem_cons_succ] at hva
  rw [hva, hc] at hm1
  simp only [Option.some.injEq] at hm1
  omega
theorem x_least (ns : List Nd) (a w : Nat) (ha : a < ns.length) (l : List Int) (h : leadsB ns a w l = true) : (wayX ns a w (noBar ns.length)).2 = true ∧ (wayX ns a w (noBar ns.length)).1.length ≤ l.length := by
  have hc := wayC ns a w ha
  have hwy := (leads_wyI h).wy
  obtain ⟨v, rest, y, rfl, hy, hy0, hyl⟩ := wy_least hwy
  have hva : v = a := by
    unfold leadsB at h
    simp only [Bool.and_eq_true, decide_eq_true_eq] at h
    simpa using h.1.2
  rw [hva, Int.toNat_natCast] at hy
  have hyf : y = fin ns a w (noBar ns.length) := by
    have : some y = some (fin ns a w (noBar ns.length)) := by rw [← hc, ← hy]
    exact Option.some.inj this
  unfold wayX
  split
  · exact ⟨rfl, by simp⟩
  · rw [if_neg (by omega)]
    refine ⟨rfl, ?_⟩
    simp only [wayL, List.length_cons, walk_len]
    omega
theorem waysLeast_ok (f : Fd) (hf : f.nl ≠ .bor) (hb : f.nodes.length ≤ maxLen) (a w : Int) (nl : Nl) (hnl : nl ≠ .bor) (way : List Int) (hwl : way.length ≤ maxLen) : R tb 8 [vFd f, .int .i64 a, .int .i64 w, lst nl way] = some (.bool true) := by
  have hm : maxLen = 9223372036854775807 := rfl
  have h1 := large_ok f hf hb
  simp only [vFd] at h1
  refine R_of_G (F := pf8) rfl rfl rfl ?_
  simp (disch := first | omega | with_unfolding_all rfl) [pf8, env0_eq, h1]
  cases hl : large f
  case true => simp (disch := first | omega | with_unfolding_all rfl) [hl, known_ok]
  have hc := large_le hl
  have hb4 : f.nodes.length ≤ 400 := by
    simp only [large, Bool.or_eq_false_iff, decide_eq_false_iff_not] at hl
    omega
  simp (disch := first | omega | with_unfolding_all rfl) [hl, known_ok]
  refine G_brd (fun h2 => ?_) (fun h2 => ?_)
  · simp (disch := first | omega | with_unfolding_all rfl) [h2, known_ok]
  obtain ⟨n1, hn1, h3⟩ := Way_ok f hf hb4 hc a w
  simp only [vFd] at h3
  simp (disch := first | omega | with_unfolding_all rfl) [h2, h3]
  by_cases he : wayErr f a w = 0
  case neg =>
    have hx : wayR f a w = ([], false) := by unfold wayR; rw [if_pos he]
    simp (disch := first | omega | with_unfolding_all rfl) [he, hx, known_ok]
  have h0 : fieldErr f = 0 := by
    unfold wayErr at he
    split at he
    · exact he
    · rename_i q; simpa using q
  have ha : ¬ (a < 0 ∨ (f.nodes.length : Int) ≤ a) := by
    intro q
    simp [wayErr, h0, q] at he
  have hw : ¬ (w < 0 ∨ 2 < w) := by
    intro q
    simp [wayErr, h0, ha, q] at he
  obtain ⟨a', rfl⟩ : ∃ n : Nat, a = n := ⟨a.toNat, by omega⟩
  obtain ⟨w', rfl⟩ : ∃ n : Nat, w = n := ⟨w.toNat, by omega⟩
  have ha' : a' < f.nodes.length := by omega
  have hx : wayR f a' w' = wayX f.nodes a' w' (noBar f.nodes.length) := by unfold wayR; rw [if_neg (by simp [he])]; rfl
  have hr : ∀ k, k < f.nodes.length → ∀ o ∈ onOf f.nodes k, 0 ≤ o ∧ o < f.nodes.length := by
    intro k hk o ho
    rw [on_eq hk] at ho
    exact fieldErr_on h0 _ (List.getElem_mem hk) o ho
  simp (disch := first | omega | with_unfolding_all rfl) [he, hx]
  refine G_brd (fun h4 => ?_) (fun h4 => ?_)
  · obtain rfl : w' = 0 := by omega
    have hy : wayX f.nodes a' 0 (noBar f.nodes.length) = ([(a' : Int)], true) := by unfold wayX; rw [if_pos (.inl rfl)]
    have hl1 : ([(a' : Int)]).length = 1 := rfl
    simp (disch := first | omega | with_unfolding_all rfl) [h4, hy, known_ok]
  have hw0 : w' ≠ 0 := by omega
  have h5 := leads_ok f hf hb4 hc a' w' nl way (by omega)
  have hlen := wayX_len f.nodes a' w' (noBar f.nodes.length) ha' hb4
  have h6 := leads_ok f hf hb4 hc a' w' n1 (wayX f.nodes a' w' (noBar f.nodes.length)).1 (by omega)
  simp only [vFd] at h5 h6
  simp (disch := first | omega | with_unfolding_all rfl) [h4, h5]
  cases hok : (wayX f.nodes a' w' (noBar f.nodes.length)).2
  · have hno : leadsB f.nodes a' w' way = false := by
      cases hq : leadsB f.nodes a' w' way
      · rfl
      · rw [(x_least f.nodes a' w' ha' way hq).1] at hok; cases hok
    have hnil : (wayX f.nodes a' w' (noBar f.nodes.length)).1 = [] := by
      unfold wayX at hok ⊢
      split at hok
      · cases hok
      · split at hok
        · rename_i q1 q2; rw [if_neg q1, if_pos q2]
        · cases hok
    simp (disch := first | omega | with_unfolding_all rfl) [hno, hnil, known_ok]
  · have hyes := x_leads f.nodes hr a' w' ha' hw0 hok
    simp (disch := first | omega | with_unfolding_all rfl) [h6, hyes]
    cases hq : leadsB f.nodes a' w' way
    · simp (disch := first | omega | with_unfolding_all rfl) [known_ok]
    · have hle := (x_least f.nodes a' w' ha' way hq).2
      simp (disch := first | omega | with_unfolding_all rfl) [hle, known_ok]
end Go.Proofs.Ytmbknidfkddpfaa
