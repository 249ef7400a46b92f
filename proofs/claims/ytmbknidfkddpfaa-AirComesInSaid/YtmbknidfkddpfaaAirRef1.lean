/- Airports: a tick of the document's answer: what is barred. -/
import Derived.Test.YtmbknidfkddpfaaAirStep2
import Derived.Test.YtmbknidfkddpfaaAirLine
set_option linter.unusedVariables false
set_option linter.unusedSimpArgs false
set_option maxHeartbeats 4000000
namespace Go.Proofs.Ytmbknidfkddpfaa
open Go.Proofs.Ytmbknidfkddpfaa.PM

theorem line_x (nl : Nl) (pls : List Pl) (hb : pls.length ≤ 400) : ∃ nlo, nlo ≠ .bor ∧ R tb 45 [lst nl pls] = some (lst nlo (sortT (since pls) (ordN pls pls.length))) := by
  have h := line_ok nl pls hb
  by_cases h0 : ordN pls pls.length = []
  · rw [if_pos h0] at h
    exact ⟨.nil, by simp, by rw [h, h0]; rfl⟩
  · rw [if_neg h0] at h
    exact ⟨.any, by simp, h⟩
section
variable {on : Nat → List Int} {z z' th th' : Nat → Bool} {N : Nat}
theorem ini_congr (h : ∀ k, k < N → z k = z' k) (i : Nat) (hi : i ≤ N) : ini z N i = ini z' N i := by
  induction i with
  | zero => rfl
  | succ i ih => simp only [ini, ih (by omega), h i (by omega)]
theorem kss_congr (h : ∀ k, k < N → th k = th' k) (r : Nat) (c : List Int) (k : Nat) (hk : k ≤ N) : kss on th r c k = kss on th' r c k := by
  induction k with
  | zero => rfl
  | succ k ih => simp only [kss, ih (by omega), kst, h k (by omega)]
theorem rss_congr (hz : ∀ k, k < N → z k = z' k) (h : ∀ k, k < N → th k = th' k) (r : Nat) : rss on z th N r = rss on z' th' N r := by
  induction r with
  | zero => exact ini_congr hz N (Nat.le_refl _)
  | succ r ih => simp only [rss, ih, kss_congr h r _ N (Nat.le_refl _)]
end
theorem wayX_congr {ns : List Nd} {a w : Nat} {fr fr' : Nat → Bool} (h : ∀ k, k < ns.length → k ≠ a → fr k = fr' k) : wayX ns a w fr = wayX ns a w fr' := by
  have hc : cnt ns a w fr ns.length = cnt ns a w fr' ns.length := by
    refine rss_congr (fun k hk => ?_) (fun k hk => ?_) _
    · rw [zed_eq, zed_eq]
      by_cases hka : k = a
      · simp [hka]
      · rw [h k hk hka]
    · unfold thr
      by_cases hka : k = a
      · simp [hka]
      · rw [h k hk hka]
  unfold wayX fin wayL fin
  rw [hc]
def hitX (ns : List Nd) (pl : List Pl) (x k : Nat) (j : Nat) : Bool := match pl[j]? with | some q => decide (j ≠ x ∧ q.pos = k ∧ kd ns k ≠ 0) | none => false
/-- What is barred for a plane, behind some others. -/
def bsN (ns : List Nd) (pl : List Pl) (x : Nat) : Nat → List Bool
  | 0 => List.replicate ns.length false
  | i + 1 => match pl[i]? with | some q => if i ≠ x ∧ 0 ≤ q.pos ∧ kd ns q.pos.toNat ≠ 0 then (bsN ns pl x i).set q.pos.toNat true else bsN ns pl x i | none => bsN ns pl x i
@[simp] theorem bsN_len (ns : List Nd) (pl : List Pl) (x i : Nat) : (bsN ns pl x i).length = ns.length := by
  induction i with
  | zero => simp [bsN]
  | succ i ih =>
    unfold bsN
    split
    · split
      · rw [List.length_set, ih]
      · exact ih
    · exact ih
theorem bsN_get (ns : List Nd) (pl : List Pl) (x k : Nat) (hk : k < ns.length) (i : Nat) : (bsN ns pl x i)[k]? = some (anyN (hitX ns pl x k) 0 i) := by
  induction i with
  | zero => simp [bsN, hk, anyN]
  | succ i ih =>
    rw [anyN_succ]
    have hl := bsN_len ns pl x i
    unfold bsN
    cases hp : pl[i]? with
    | none => simp only [ih, hitX, hp, Bool.or_false]
    | some q =>
      simp only [hitX, hp]
      split
      · rename_i hq
        by_cases hqk : q.pos.toNat = k
        · have e1 : q.pos = k := by omega
          subst hqk
          rw [List.getElem?_set_self (by omega)]
          rw [decide_eq_true ⟨hq.1, e1, hq.2.2⟩, Bool.or_true]
        · rw [List.getElem?_set_ne hqk, ih]
          rw [decide_eq_false (by rintro ⟨-, q1, -⟩; omega), Bool.or_false]
      · rename_i hq
        rw [ih, decide_eq_false (by rintro ⟨q0, q1, q2⟩; exact hq ⟨q0, by omega, by rw [show q.pos.toNat = k by omega]; exact q2⟩), Bool.or_false]
theorem frB_free {ns : List Nd} {pl : List Pl} {x : Nat} {p0 p1 : Pl} (h0 : pl[x]? = some p0) (hp : p1.pos = p0.pos) (k : Nat) (hk : k < ns.length) (hka : k ≠ p1.pos.toNat) (hpp : 0 ≤ p1.pos) : frB (bsN ns pl x pl.length) k = freeAt ns (pl.set x p1) k := by
  have hxl : x < pl.length := by
    rcases Nat.lt_or_ge x pl.length with h | h
    · exact h
    · rw [List.getElem?_eq_none h] at h0; cases h0
  have h1 := bsN_get ns pl x k hk pl.length
  unfold frB freeAt
  rw [List.getD_eq_getElem?_getD, h1, Option.getD_some, List.length_set]
  by_cases hz : kd ns k = 0
  · have : anyN (hitX ns pl x k) 0 pl.length = false := by
      cases hA : anyN (hitX ns pl x k) 0 pl.length
      · rfl
      · obtain ⟨j, -, h2, h3⟩ := anyN_of hA
        unfold hitX at h3
        split at h3
        · exact absurd hz (of_decide_eq_true h3).2.2
        · cases h3
    rw [this, hz]; rfl
  · rw [decide_eq_false hz, Bool.false_or]
    congr 1
    refine anyN_congr fun j hj hj2 => ?_
    unfold hitX hitK
    by_cases hjx : j = x
    · subst hjx
      rw [h0, List.getElem?_set_self hxl]
      dsimp only
      rw [decide_eq_false (by rintro ⟨q, -⟩; exact q rfl), decide_eq_false (by omega)]
    · rw [List.getElem?_set_ne (fun q => hjx q.symm), List.getElem?_eq_getElem (by omega)]
      dsimp only
      exact decide_eq_decide.2 ⟨fun q => q.2.1, fun q => ⟨hjx, q, hz⟩⟩
theorem copied0_ok (s : Sk) (hf : s.fd.nl ≠ .bor) (hp : s.nlp ≠ .bor) (hb : s.fd.nodes.length ≤ 400) (hpb : s.pls.length ≤ 400) (hc : ∀ n ∈ s.fd.nodes, n.on.length ≤ 400) (hne : s.pls = []) :
    RO tb 44 [vSk s] [z4] = some (.agg [mls Nd 3 0 s.fd.nodes.length, .int .i64 s.fd.inn, .list .nil 5 [], .int .i64 s.now],
      [z4, ⟨31, 0, [mls Nd 3 0 s.fd.nodes.length, .int .i64 s.fd.inn, .list .nil 5 [], .int .i64 s.now]⟩,
        ⟨31, 0, [mls Nd 3 0 s.fd.nodes.length, .int .i64 s.fd.inn, .list .nil 5 [], .int .i64 s.now]⟩,
        bk 58 0 (s.fd.nodes.map cp)]) := by
  have hm : maxLen = 9223372036854775807 := rfl
  refine RO_of_G (F := pf44) rfl rfl rfl ?_
  simp (disch := first | omega | with_unfolding_all rfl) [pf44, env0_eq, z4, hne]
  refine G_scanK [1, 2, 3, 13, 14] (fun i e h => get e 15 = .int .i64 (i : Int) ∧
      h = [z4, ⟨31, 0, [lst s.fd.nl s.fd.nodes, .int .i64 s.fd.inn, lst s.nlp s.pls, .int .i64 s.now]⟩, z4, bk 58 0 (fillL (List.replicate s.fd.nodes.length ⟨0, .nil, []⟩) (cpAt s.fd.nodes) i)]) (fun _ => false) s.fd.nodes.length 0 ?_ (Nat.zero_le _) ?_
  · simp [z4, fillL, hne]
  rintro i e h - hi hz hk ⟨g1, rfl⟩
  simp at hk
  simp (disch := first | omega | with_unfolding_all rfl) [hk, g1, z4]
  refine G_brd (fun h => ?_) (fun h => ?_)
  · have hon := hc _ (List.getElem_mem h)
    have hti : (fillL (List.replicate s.fd.nodes.length ⟨0, .nil, []⟩) (cpAt s.fd.nodes) i).length = s.fd.nodes.length := by simp
    simp (disch := first | omega | with_unfolding_all rfl) [h]
    simp [fillL, cpAt, cp, h]
  · obtain rfl : i = s.fd.nodes.length := by omega
    have hfl : fillL (List.replicate s.fd.nodes.length ⟨0, .nil, []⟩) (cpAt s.fd.nodes) s.fd.nodes.length = s.fd.nodes.map cp := by
      have := fillL_all (z := List.replicate s.fd.nodes.length (⟨0, .nil, []⟩ : Nd)) (f := cpAt s.fd.nodes) (ys := s.fd.nodes.map cp) (by simp) (fun j hj => by
        have hj' : j < s.fd.nodes.length := by simpa using hj
        simp [cpAt, hj'])
      simpa using this
    simp (disch := first | omega | with_unfolding_all rfl) [h, hne, hfl]
end Go.Proofs.Ytmbknidfkddpfaa
