/- Airports: the way to where a wish ends is the document's. -/
import Derived.Test.YtmbknidfkddpfaaPmNineteen
import Derived.Test.YtmbknidfkddpfaaAirPath
set_option linter.unusedVariables false
set_option linter.unusedSimpArgs false
set_option maxHeartbeats 1000000
namespace Go.Proofs.Ytmbknidfkddpfaa
open Go.Proofs.Ytmbknidfkddpfaa.PM

@[simp] theorem pureB_mls {α : Type} [Enc α] (b g n : Nat) : PV.pureB (mls α b g n) = false := rfl

theorem fieldErr_on {f : Fd} (h : fieldErr f = 0) : ∀ n ∈ f.nodes, ∀ o ∈ n.on, 0 ≤ o ∧ o < f.nodes.length := by
  intro n hn o ho
  obtain ⟨i, hi, rfl⟩ := List.getElem_of_mem hn
  obtain ⟨j, hj, rfl⟩ := List.getElem_of_mem ho
  have hx : anyN (outNd f.nodes) 0 f.nodes.length = false := by
    cases hx : anyN (outNd f.nodes) 0 f.nodes.length
    · rfl
    · unfold fieldErr at h
      split at h
      · cases h
      split at h
      · cases h
      simp [hx] at h
  have h1 := anyN_off hx (Nat.zero_le i) hi
  simp only [outNd, List.getElem?_eq_getElem hi] at h1
  have h2 := anyN_off h1 (Nat.zero_le j) hj
  simp only [outOn, List.getElem?_eq_getElem hj, Bool.or_eq_false_iff, decide_eq_false_iff_not] at h2
  omega
theorem fieldErr_inn {f : Fd} (h : fieldErr f = 0) : 0 ≤ f.inn ∧ f.inn < f.nodes.length ∧ kd f.nodes f.inn.toNat = 0 := by
  have hx : badIn f.nodes f.inn = false := by
    cases hx : badIn f.nodes f.inn
    · rfl
    · unfold fieldErr at h
      split at h
      · cases h
      split at h
      · cases h
      split at h
      · cases h
      simp [hx] at h
  simp only [badIn, Bool.or_eq_false_iff, decide_eq_false_iff_not] at hx
  obtain ⟨h1, h2, h3⟩ := hx
  refine ⟨by omega, by omega, ?_⟩
  have hl : f.inn.toNat < f.nodes.length := by omega
  simp only [List.getElem?_eq_getElem hl, Bool.not_eq_false', decide_eq_true_eq] at h3
  rw [kd_eq hl]; exact h3
theorem walk_len (on : Nat → List Int) (c : List Int) : ∀ (n : Nat) (v : Int), (walk on c n v).length = n
  | 0, _ => rfl
  | n + 1, v => by simp [walk, walk_len on c n]
theorem fin_le (ns : List Nd) (a w : Nat) (fr : Nat → Bool) (ha : a < ns.length) : fin ns a w fr ≤ ns.length := by
  have hi : Inv (onOf ns) ns.length ns.length (cnt ns a w fr ns.length) := inv_rss _
  have hla : a < (cnt ns a w fr ns.length).length := by rw [hi.len]; exact ha
  have := hi.hi a _ (List.getElem?_eq_getElem hla)
  unfold fin
  simp only [List.getD_eq_getElem?_getD, List.getElem?_eq_getElem hla, Option.getD_some]
  exact this
theorem fin_end (ns : List Nd) (a w : Nat) (fr : Nat → Bool) (ha : a < ns.length) (he : endB w (kd ns a) = true) : fin ns a w fr = 0 := by
  have h0 : (rss (onOf ns) (zed ns a w fr) (thr ns a fr) ns.length 0)[a]? = some 0 := by
    have := ini_get (z := zed ns a w fr) ha ns.length
    rw [if_pos ha, zed_eq, he] at this
    simpa [rss] using this
  have h1 := rss_keep h0 (Int.le_refl 0) ns.length
  rw [Nat.zero_add] at h1
  unfold fin cnt
  simp [h1]
/-- The way, and whether there is one. -/
def wayX (ns : List Nd) (a w : Nat) (fr : Nat → Bool) : List Int × Bool := if w = 0 ∨ endB w (kd ns a) = true then ([(a : Int)], true) else if fin ns a w fr < 0 then ([], false) else (wayL ns a w fr, true)
theorem wayX_len (ns : List Nd) (a w : Nat) (fr : Nat → Bool) (ha : a < ns.length) (hb : ns.length ≤ 400) : (wayX ns a w fr).1.length ≤ 401 := by
  unfold wayX
  split
  · simp
  split
  · simp
  · have := fin_le ns a w fr ha
    simp only [wayL, List.length_cons, walk_len]
    omega
section
variable {g : Nat} {cs : List PV} {fr : Nat → Bool}
theorem way_x (f : Fd) (hb : f.nodes.length ≤ 400) (hc : ∀ n ∈ f.nodes, n.on.length ≤ 400) (hr : ∀ n ∈ f.nodes, ∀ o ∈ n.on, 0 ≤ o ∧ o < f.nodes.length) (hfr : Free g cs fr f.nodes.length) (a w : Nat) (ha : a < f.nodes.length) :
    ∃ nl, nl ≠ .bor ∧ R tb 43 [vFd f, .int .i64 a, .int .i64 w, .clo (.func g) [] cs] = some (.tup [lst nl (wayX f.nodes a w fr).1, .bool (wayX f.nodes a w fr).2]) := by
  have h := way_ok f hb hc hr hfr a w ha
  unfold wayX
  split
  · rename_i q
    rw [if_pos q] at h
    exact ⟨.ex, by simp, h⟩
  · rename_i q
    rw [if_neg q] at h
    unfold wayV at h
    split
    · rename_i q2
      rw [if_pos q2] at h
      exact ⟨.nil, by simp, h⟩
    · rename_i q2
      rw [if_neg q2] at h
      exact ⟨.any, by simp, h⟩
theorem path_x (f : Fd) (hb : f.nodes.length ≤ 400) (hc : ∀ n ∈ f.nodes, n.on.length ≤ 400) (hr : ∀ n ∈ f.nodes, ∀ o ∈ n.on, 0 ≤ o ∧ o < f.nodes.length) (nb : Nl) (bs : List Bool) (hbs : bs.length = f.nodes.length) (a w : Nat) (ha : a < f.nodes.length) :
    ∃ nl, nl ≠ .bor ∧ R tb 47 [vFd f, .int .i64 a, .int .i64 w, lst nb bs] = some (.tup [lst nl (wayX f.nodes a w (frB bs)).1, .bool (wayX f.nodes a w (frB bs)).2]) := by
  have h := path_ok f hb hc hr nb bs hbs a w ha
  unfold wayX
  by_cases hw : w = 0
  · rw [if_pos hw] at h
    rw [if_pos (.inl hw)]
    exact ⟨.ex, by simp, h⟩
  rw [if_neg hw] at h
  unfold wayV at h
  by_cases he : endB w (kd f.nodes a) = true
  · have hfe := fin_end f.nodes a w (frB bs) ha he
    rw [if_pos (.inr he)]
    rw [if_neg (by omega)] at h
    refine ⟨.any, by simp, ?_⟩
    rw [h]
    unfold wayL
    rw [hfe]
    rfl
  · rw [if_neg (by intro q; rcases q with q | q; exact hw q; exact he q)]
    split
    · rename_i q2
      rw [if_pos q2] at h
      exact ⟨.nil, by simp, h⟩
    · rename_i q2
      rw [if_neg q2] at h
      exact ⟨.any, by simp, h⟩
end
abbrev noBar (n : Nat) : Nat → Bool := frB (List.replicate n false)
theorem noBar_t {n k : Nat} (h : k < n) : noBar n k = true := by simp [noBar, frB, h]
theorem free50 (n : Nat) : Free 50 [] (noBar n) n := ⟨fun _ => rfl, rfl, fun k hk => by rw [noBar_t hk]; refine R_of_G (F := pf50) rfl rfl rfl ?_; simp [pf50, env0_eq]⟩
theorem free51 (n : Nat) : Free 51 [] (noBar n) n := ⟨fun _ => rfl, rfl, fun k hk => by rw [noBar_t hk]; refine R_of_G (F := pf51) rfl rfl rfl ?_; simp [pf51, env0_eq]⟩

def wayErr (f : Fd) (a w : Int) : Int := if fieldErr f ≠ 0 then fieldErr f else if a < 0 ∨ (f.nodes.length : Int) ≤ a then 2 else if w < 0 ∨ 2 < w then 1 else 0
def wayR (f : Fd) (a w : Int) : List Int × Bool := if wayErr f a w ≠ 0 then ([], false) else wayX f.nodes a.toNat w.toNat (noBar f.nodes.length)
theorem Way_ok (f : Fd) (hf : f.nl ≠ .bor) (hb : f.nodes.length ≤ 400) (hc : ∀ n ∈ f.nodes, n.on.length ≤ 400) (a w : Int) :
    ∃ nl, nl ≠ .bor ∧ R tb 25 [vFd f, .int .i64 a, .int .i64 w] = some (.tup [lst nl (wayR f a w).1, .bool (wayR f a w).2, .int .i64 (wayErr f a w)]) := by
  have hm : maxLen = 9223372036854775807 := rfl
  have hv := validate_ok f hf (by omega) hc
  simp only [vFd] at hv
  by_cases he : wayErr f a w = 0
  case neg =>
    have hx : wayR f a w = ([], false) := by unfold wayR; rw [if_pos he]
    refine ⟨.nil, by simp, ?_⟩
    rw [hx]
    refine R_of_G (F := pf25) rfl rfl rfl ?_
    simp (disch := first | omega | with_unfolding_all rfl) [pf25, env0_eq, hv]
    by_cases h0 : fieldErr f = 0
    case neg => simp (disch := first | omega | with_unfolding_all rfl) [h0, wayErr, lst]
    simp (disch := first | omega | with_unfolding_all rfl) [h0]
    refine G_grdn (fun h1 => ?_) (fun h1 => ?_)
    case refine_2 => simp (disch := first | omega | with_unfolding_all rfl) [h1, wayErr, h0, lst]
    simp (disch := first | omega | with_unfolding_all rfl) [h1]
    refine G_brd (fun h2 => ?_) (fun h2 => ?_)
    · simp (disch := first | omega | with_unfolding_all rfl) [h2, wayErr, h0, lst]
    simp (disch := first | omega | with_unfolding_all rfl) [h2]
    refine G_grdn (fun h3 => ?_) (fun h3 => ?_)
    case refine_2 => simp (disch := first | omega | with_unfolding_all rfl) [h1, h2, h3, wayErr, h0, lst]
    simp (disch := first | omega | with_unfolding_all rfl) [h3]
    refine G_brd (fun h4 => ?_) (fun h4 => ?_)
    · simp (disch := first | omega | with_unfolding_all rfl) [h1, h2, h3, h4, wayErr, h0, lst]
    · exact absurd (by simp [wayErr, h0, h1, h2, h3, h4]) he
  have h0 : fieldErr f = 0 := by
    unfold wayErr at he
    split at he
    · exact he
    · rename_i q; simpa using q
  have h1 : ¬ (a < 0 ∨ (f.nodes.length : Int) ≤ a) := by
    intro q
    simp [wayErr, h0, q] at he
  have h2 : ¬ (w < 0 ∨ 2 < w) := by
    intro q
    simp [wayErr, h0, h1, q] at he
  have hx : wayR f a w = wayX f.nodes a.toNat w.toNat (noBar f.nodes.length) := by unfold wayR; rw [if_neg (by simp [he])]
  obtain ⟨nl, hnl, hw⟩ := way_x f hb hc (fieldErr_on h0) (free50 _) a.toNat w.toNat (by omega)
  rw [show ((a.toNat : Nat) : Int) = a by omega, show ((w.toNat : Nat) : Int) = w by omega] at hw
  refine ⟨nl, hnl, ?_⟩
  rw [hx, he]
  have h11 : ¬ a < 0 := by omega
  have h12 : ¬ (f.nodes.length : Int) ≤ a := by omega
  have h21 : ¬ w < 0 := by omega
  have h22 : ¬ 2 < w := by omega
  simp only [vFd] at hw
  refine R_of_G (F := pf25) rfl rfl rfl ?_
  simp (disch := first | omega | with_unfolding_all rfl) [pf25, env0_eq, hv, h0, h11, h12, h21, h22, hw, hnl]
theorem refWay_ok (f : Fd) (hf : f.nl ≠ .bor) (hb : f.nodes.length ≤ 400) (hc : ∀ n ∈ f.nodes, n.on.length ≤ 400) (a w : Int) :
    ∃ nl, nl ≠ .bor ∧ R tb 26 [vFd f, .int .i64 a, .int .i64 w] = some (.tup [lst nl (wayR f a w).1, .bool (wayR f a w).2, .int .i64 (wayErr f a w)]) := by
  have hm : maxLen = 9223372036854775807 := rfl
  have hv := refValidate_ok f hf (by omega) hc
  simp only [vFd] at hv
  by_cases he : wayErr f a w = 0
  case neg =>
    have hx : wayR f a w = ([], false) := by unfold wayR; rw [if_pos he]
    refine ⟨.nil, by simp, ?_⟩
    rw [hx]
    refine R_of_G (F := pf26) rfl rfl rfl ?_
    simp (disch := first | omega | with_unfolding_all rfl) [pf26, env0_eq, hv]
    by_cases h0 : fieldErr f = 0
    case neg => simp (disch := first | omega | with_unfolding_all rfl) [h0, wayErr, lst]
    have hn := fieldErr_nodes h0
    simp (disch := first | omega | with_unfolding_all rfl) [h0, within_d, -Bool.decide_and]
    refine G_brd (fun h1 => ?_) (fun h1 => ?_)
    case refine_2 =>
      have h1' : a < 0 ∨ (f.nodes.length : Int) ≤ a := by omega
      simp (disch := first | omega | with_unfolding_all rfl) [h1, wayErr, h0, lst, h1']
    have h1' : ¬ (a < 0 ∨ (f.nodes.length : Int) ≤ a) := by omega
    simp (disch := first | omega | with_unfolding_all rfl) [h1, within_d, -Bool.decide_and]
    refine G_brd (fun h3 => ?_) (fun h3 => ?_)
    case refine_2 =>
      have h3' : w < 0 ∨ 2 < w := by omega
      simp (disch := first | omega | with_unfolding_all rfl) [h1', h3, wayErr, h0, lst, h3']
    have h3' : ¬ (w < 0 ∨ 2 < w) := by omega
    exact absurd (by simp only [wayErr, h0, h1', h3', ne_eq, not_true, if_false]) he
  have h0 : fieldErr f = 0 := by
    unfold wayErr at he
    split at he
    · exact he
    · rename_i q; simpa using q
  have h1 : ¬ (a < 0 ∨ (f.nodes.length : Int) ≤ a) := by
    intro q
    simp [wayErr, h0, q] at he
  have h2 : ¬ (w < 0 ∨ 2 < w) := by
    intro q
    simp [wayErr, h0, h1, q] at he
  have hx : wayR f a w = wayX f.nodes a.toNat w.toNat (noBar f.nodes.length) := by unfold wayR; rw [if_neg (by simp [he])]
  obtain ⟨nl, hnl, hw⟩ := path_x f hb hc (fieldErr_on h0) .bor (List.replicate f.nodes.length false) (by simp) a.toNat w.toNat (by omega)
  rw [show ((a.toNat : Nat) : Int) = a by omega, show ((w.toNat : Nat) : Int) = w by omega] at hw
  refine ⟨nl, hnl, ?_⟩
  rw [hx, he]
  have hn := fieldErr_nodes h0
  have hrl : (List.replicate f.nodes.length false).length = f.nodes.length := by simp
  have h11 : decide (0 ≤ a ∧ a ≤ (f.nodes.length : Int) - 1) = true := decide_eq_true (by omega)
  have h22 : decide (0 ≤ w ∧ w ≤ 2) = true := decide_eq_true (by omega)
  simp only [vFd] at hw
  refine R_of_G (F := pf26) rfl rfl rfl ?_
  simp (disch := first | omega | with_unfolding_all rfl) [pf26, env0_eq, hv, h0, within_d, -Bool.decide_and, h11, h22, hw, hnl]
  refine G_reg_chk ?_ ?_
  · refine all_cons_ck (ckOne_of rfl ?_) (all_cons_ck (ckOne_of rfl ?_) all_nil_ck)
    · simp (disch := first | omega | with_unfolding_all rfl)
    · simp (disch := first | omega | with_unfolding_all rfl)
  simp (disch := first | omega | with_unfolding_all rfl) [hw, hnl]
end Go.Proofs.Ytmbknidfkddpfaa
