/- Blocks: what putting a signal makes. -/
import Derived.Test.YtfocelelbcepnaaBlockTake
set_option linter.unusedVariables false
set_option linter.unusedSimpArgs false
set_option maxHeartbeats 4000000
set_option maxRecDepth 20000
namespace Go.Proofs.Ytfocelelbcepnaa
open Go.Proofs.Ytfocelelbcepnaa.PM

def insS (ls : List Sg) (z : Nat) (s : Sg) : List Sg := ls.take z ++ ([s] ++ ls.drop z)
theorem ins1 {ls : List Sg} {s : Sg} {z : Nat} (hz : z < ls.length) (hl : ls.length ≤ 3000) : RO tb 67 [mls Sg 0 1 ls.length, .int .i64 z, mls Sg 1 0 1] [bk 45 1 ls, bk 45 0 [s]] = some (mls Sg 0 2 (ls.length + 1), [bk 45 2 (insS ls z s), bk 45 0 [s]]) := by
  have hll : (cl ls).length = ls.length * 4 := length_cl ls
  have hd : (cl ls).drop (z * 4) = cl (ls.drop z) := drop_cl ls z
  have ht : (cl ls).take (z * 4) = cl (ls.take z) := take_cl ls z
  refine RO_nat ?_
  show natI [mls Sg 0 1 ls.length, .int .i64 z, mls Sg 1 0 1] [bk 45 1 ls, bk 45 0 [s]] = _
  show (if (1 : Nat) = 1 ∧ (none : Option Mp) = none ∧ (45 : Nat) = 45 ∧ (0 : Nat) = 0 ∧ (none : Option Mp) = none ∧ (cl ls).length = ls.length * 4 ∧ (cl [s]).length = 4 ∧ 0 ≤ (z : Int) ∧ (z : Int) < (ls.length : Int) ∧ (0 : Nat) ≠ 1 ∧ (ls.length + 1) * 32 ≤ 140737488355328 then some (PV.msl true 0 (1 + 1) 0 (ls.length + 1) 4, ([bk 45 1 ls, bk 45 0 [s]] : Hp).set 0 ⟨45, 1 + 1, (cl ls).take ((z : Int).toNat * 4) ++ (cl [s] ++ (cl ls).drop ((z : Int).toNat * 4)), none⟩) else none) = _
  rw [if_pos ⟨rfl, rfl, rfl, rfl, rfl, hll, rfl, by omega, by omega, by decide, by omega⟩, show (z : Int).toNat = z by omega, hd, ht, ← cl_append, ← cl_append]
  rfl
theorem ins2 {ls : List Sg} {s : Sg} (hl : ls.length ≤ 3000) : RO tb 67 [mls Sg 0 1 ls.length, .int .i64 ls.length, mls Sg 1 0 1] [bk 45 1 ls, bk 45 0 [s]] = some (mls Sg 0 2 (ls.length + 1), [bk 45 2 (ls ++ [s]), bk 45 0 [s]]) := by
  have hn : tb.natO 67 [mls Sg 0 1 ls.length, .int .i64 ls.length, mls Sg 1 0 1] [bk 45 1 ls, bk 45 0 [s]] = none := by
    show (if (1 : Nat) = 1 ∧ (none : Option Mp) = none ∧ (45 : Nat) = 45 ∧ (0 : Nat) = 0 ∧ (none : Option Mp) = none ∧ (cl ls).length = ls.length * 4 ∧ (cl [s]).length = 4 ∧ 0 ≤ (ls.length : Int) ∧ (ls.length : Int) < (ls.length : Int) ∧ (0 : Nat) ≠ 1 ∧ (ls.length + 1) * 32 ≤ 140737488355328 then some (PV.msl true 0 (1 + 1) 0 (ls.length + 1) 4, ([bk 45 1 ls, bk 45 0 [s]] : Hp).set 0 ⟨45, 1 + 1, (cl ls).take ((ls.length : Int).toNat * 4) ++ (cl [s] ++ (cl ls).drop ((ls.length : Int).toNat * 4)), none⟩) else none) = _
    rw [if_neg (by omega)]
  have hsrc : srcOf (mls Sg 1 0 1) 4 [bk 45 1 ls, bk 45 0 [s]] = some (cl [s]) := srcOf_mls (xs := [s]) rfl rfl rfl
  have happ : evApp 45 4 32 (mls Sg 0 1 ls.length) (mls Sg 1 0 1) [bk 45 1 ls, bk 45 0 [s]] = some (mls Sg 0 2 (ls.length + 1), [bk 45 2 (ls ++ [s]), bk 45 0 [s]]) := evApp_mls (xs := ls) (ys := [s]) rfl hsrc (by simp) rfl rfl (by simp; omega)
  have hslc : evSlc 4 (mls Sg 0 1 ls.length) (some (.int .i64 ls.length)) none none = some (.msl true 0 1 (ls.length * 4) 0 4) := by
    simp only [evSlc, mls, optIx, sz_sg, if_true, Option.bind_some]
    rw [if_pos (by omega)]
    simp only [Option.bind_some, Int.toNat_natCast, Nat.le_refl, and_self, if_true, Nat.sub_self, Nat.zero_add]
  refine RO_of_G (F := pf67) hn rfl rfl ?_
  simp (disch := first | omega | with_unfolding_all rfl) [pf67, env0_eq, hslc, happ]
theorem ins3 {s : Sg} : RO tb 67 [.list .ex 4 [], .int .i64 0, mls Sg 0 0 1] [bk 45 0 [s]] = some (mls Sg 1 1 1, [bk 45 0 [s], bk 45 1 [s]]) := by
  have hsrc : srcOf (mls Sg 0 0 1) 4 [bk 45 0 [s]] = some (cl [s]) := srcOf_mls (xs := [s]) rfl rfl rfl
  have happ : evApp 45 4 32 (.list .ex 4 []) (mls Sg 0 0 1) [bk 45 0 [s]] = some (mls Sg 1 1 1, [bk 45 0 [s], bk 45 1 [s]]) := evApp_lst (xs := ([] : List Sg)) (ys := [s]) (nl := .ex) rfl (.inr rfl) hsrc (by simp) (by simp)
  have hslc : evSlc 4 (.list .ex 4 []) (some (.int .i64 0)) none none = some (.list (nlCut .ex true) 4 []) := rfl
  refine RO_of_G (F := pf67) rfl rfl rfl ?_
  simp (disch := first | omega | with_unfolding_all rfl) [pf67, env0_eq, hslc, happ]
theorem clone0 {nl : Nl} {H : Hp} : RO tb 63 [lst nl ([] : List Sg)] H = some (.list .ex 4 [], H) := RO_nat rfl
/-- What putting makes. -/
def putL (ls : List Sg) (s : Sg) : List Sg := if sgn ls s.t s.p s.o = true then ls.set (posS ⟨s.t, s.p, s.o, 0⟩ ls) s else insS ls (posS ⟨s.t, s.p, s.o, 0⟩ ls) s
def putE (r : Rl) (ls : List Sg) (s : Sg) : Int := if valErr r ls = 0 then (if s.k < 0 ∨ 5 < s.k then 1 else if lie r s.t s.p = false ∨ has s.p s.o = false then 2 else if sgn ls s.t s.p s.o = false ∧ 300 ≤ ls.length then 10 else 0) else valErr r ls
theorem put_ok (r : Rl) {nl : Nl} (hnl : nl ≠ .nil) (ls : List Sg) (s : Sg) (hb : r.s.length ≤ 3000) (hl : ls.length ≤ 3000) : R tb 32 [vR r, lst nl ls, vS s] = some (if putE r ls s = 0 then .tup [lst .any (putL ls s), .int .i64 0] else .tup [.list .nil 1 [], .int .i64 (putE r ls s)]) := by
  have h19 := validate_ok r nl ls hb (by omega)
  obtain ⟨st, sp, so, sk⟩ := s
  refine R_of_G (F := pf32) rfl rfl rfl ?_
  by_cases h : valErr r ls = 0
  case neg => simp (disch := first | omega | with_unfolding_all rfl) [pf32, env0_eq, h19, h, putE]
  have v := vd_of h
  have h61 := at_ok (nl := nl) (l := ⟨st, sp, so, sk⟩) (by omega) v.so
  simp only [vS] at h61
  have hp : posS ⟨st, sp, so, sk⟩ ls = posS ⟨st, sp, so, 0⟩ ls := rfl
  have ha : isAt ⟨st, sp, so, sk⟩ ls = sgn ls st sp so := rfl
  rw [hp, ha] at h61
  by_cases k1 : sk < 0
  · have : putE r ls ⟨st, sp, so, sk⟩ = 1 := by rw [putE, if_pos h, if_pos (.inl k1)]
    simp (disch := first | omega | with_unfolding_all rfl) [pf32, env0_eq, h19, h, h61, k1, this]
  by_cases k2 : 6 ≤ sk
  · have : putE r ls ⟨st, sp, so, sk⟩ = 1 := by rw [putE, if_pos h, if_pos (.inr (by dsimp only; omega))]
    simp (disch := first | omega | with_unfolding_all rfl) [pf32, env0_eq, h19, h, h61, k1, k2, this]
  have hk : ¬ (sk < 0 ∨ 5 < sk) := by omega
  have h54 := lies_ok v.g st sp
  cases c1 : lie r st sp
  · have : putE r ls ⟨st, sp, so, sk⟩ = 2 := by rw [putE, if_pos h, if_neg hk, if_pos (.inl c1)]
    rw [c1] at h54
    simp (disch := first | omega | with_unfolding_all rfl) [pf32, env0_eq, h19, h, h61, k1, k2, h54, this]
  have h55 := end_ok sp so
  cases c2 : has sp so
  · have : putE r ls ⟨st, sp, so, sk⟩ = 2 := by rw [putE, if_pos h, if_neg hk, if_pos (.inr c2)]
    rw [c1] at h54
    rw [c2] at h55
    simp (disch := first | omega | with_unfolding_all rfl) [pf32, env0_eq, h19, h, h61, k1, k2, h54, h55, this]
  rw [c1] at h54
  rw [c2] at h55
  have hb12 : ¬ (lie r st sp = false ∨ has sp so = false) := by rw [c1, c2]; simp
  obtain ⟨z, hzd⟩ : ∃ z, z = posS ⟨st, sp, so, 0⟩ ls := ⟨_, rfl⟩
  have hzle : z ≤ ls.length := by rw [hzd]; exact posS_le _ _
  rw [← hzd] at h61
  cases c3 : sgn ls st sp so
  case true =>
    have hz := sgn_lt c3
    rw [← hzd] at hz
    have : putE r ls ⟨st, sp, so, sk⟩ = 0 := by rw [putE, if_pos h, if_neg hk, if_neg hb12, if_neg (by dsimp only; rw [c3]; simp)]
    have hL : putL ls ⟨st, sp, so, sk⟩ = ls.set z ⟨st, sp, so, sk⟩ := by rw [putL, if_pos c3, hzd]
    rw [c3] at h61
    have hcl := clone_ok (nl := nl) (H := []) (ss := ls) hnl hl (by rintro rfl; simp at hz)
    rw [hL]
    have hsl : (ls.set z ⟨st, sp, so, sk⟩).length = ls.length := by simp
    simp (disch := first | omega | with_unfolding_all rfl) [pf32, env0_eq, h19, h, h61, k1, k2, h54, h55, this, hcl]
  rw [c3] at h61
  by_cases c4 : 300 ≤ ls.length
  · have : putE r ls ⟨st, sp, so, sk⟩ = 10 := by rw [putE, if_pos h, if_neg hk, if_neg hb12, if_pos ⟨c3, c4⟩]
    have c4' : (300 : Int) ≤ ls.length := by omega
    simp (disch := first | omega | with_unfolding_all rfl) [pf32, env0_eq, h19, h, h61, k1, k2, h54, h55, this, c4']
  have c4' : ¬ (300 : Int) ≤ ls.length := by omega
  have : putE r ls ⟨st, sp, so, sk⟩ = 0 := by rw [putE, if_pos h, if_neg hk, if_neg hb12, if_neg (fun q => c4 q.2)]
  have hL : putL ls ⟨st, sp, so, sk⟩ = insS ls z ⟨st, sp, so, sk⟩ := by rw [putL, if_neg (by dsimp only; rw [c3]; simp), hzd]
  rw [hL]
  by_cases e0 : ls = []
  · subst e0
    have hz0 : z = 0 := by simpa using hzle
    rw [hz0] at h61 ⊢
    have hi : RO tb 67 [PV.list .ex 4 [], .int .i64 0, .msl true 0 0 0 1 4] [⟨45, 0, [PV.int .i64 st, PV.int .i64 sp, PV.int .i64 so, PV.int .i64 sk], none⟩] = some (mls Sg 1 1 1, [⟨45, 0, [PV.int .i64 st, PV.int .i64 sp, PV.int .i64 so, PV.int .i64 sk], none⟩, bk 45 1 [(⟨st, sp, so, sk⟩ : Sg)]]) := ins3 (s := ⟨st, sp, so, sk⟩)
    have hI0 : insS [] 0 ⟨st, sp, so, sk⟩ = [(⟨st, sp, so, sk⟩ : Sg)] := rfl
    have hl1 : [(⟨st, sp, so, sk⟩ : Sg)].length = 1 := rfl
    simp (disch := first | omega | with_unfolding_all rfl) [pf32, env0_eq, h19, h, h61, k1, k2, h54, h55, this, clone0, hi, hI0]
  · have hcl := clone_ok (nl := nl) (H := []) (ss := ls) hnl hl e0
    have hi1 := fun q => ins1 (ls := ls) (s := ⟨st, sp, so, sk⟩) (z := z) q hl
    have hi2 := ins2 (ls := ls) (s := ⟨st, sp, so, sk⟩) hl
    by_cases e1 : z < ls.length
    · have hi : RO tb 67 [mls Sg 0 1 ls.length, .int .i64 z, .msl true 1 0 0 1 4] [bk 45 1 ls, ⟨45, 0, [PV.int .i64 st, PV.int .i64 sp, PV.int .i64 so, PV.int .i64 sk], none⟩] = some (mls Sg 0 2 (ls.length + 1), [bk 45 2 (insS ls z ⟨st, sp, so, sk⟩), ⟨45, 0, [PV.int .i64 st, PV.int .i64 sp, PV.int .i64 so, PV.int .i64 sk], none⟩]) := hi1 e1
      have hil : (insS ls z ⟨st, sp, so, sk⟩).length = ls.length + 1 := by unfold insS; simp; omega
      simp (disch := first | omega | with_unfolding_all rfl) [pf32, env0_eq, h19, h, h61, k1, k2, h54, h55, this, hcl, hi, c4']
    · have e2 : z = ls.length := by omega
      subst e2
      replace hi2 : RO tb 67 [mls Sg 0 1 ls.length, .int .i64 ls.length, .msl true 1 0 0 1 4] [bk 45 1 ls, ⟨45, 0, [PV.int .i64 st, PV.int .i64 sp, PV.int .i64 so, PV.int .i64 sk], none⟩] = some (mls Sg 0 2 (ls.length + 1), [bk 45 2 (ls ++ [⟨st, sp, so, sk⟩]), ⟨45, 0, [PV.int .i64 st, PV.int .i64 sp, PV.int .i64 so, PV.int .i64 sk], none⟩]) := hi2
      have hil : (ls ++ [(⟨st, sp, so, sk⟩ : Sg)]).length = ls.length + 1 := by simp
      have his : insS ls ls.length ⟨st, sp, so, sk⟩ = ls ++ [⟨st, sp, so, sk⟩] := by unfold insS; simp
      simp (disch := first | omega | with_unfolding_all rfl) [pf32, env0_eq, h19, h, h61, k1, k2, h54, h55, this, hcl, hi2, his, c4']
theorem sgn_eq {ls : List Sg} (hs : ls.Pairwise ltS) {t p o : Int} (h : sgn ls t p o = true) (q : posS ⟨t, p, o, 0⟩ ls < ls.length) : eqS ls[posS ⟨t, p, o, 0⟩ ls] ⟨t, p, o, 0⟩ := by
  unfold sgn isAt at h
  rw [List.getElem?_eq_getElem q] at h
  simpa using h
theorem insS_len (ls : List Sg) (i : Nat) (s : Sg) (h : i ≤ ls.length) : (insS ls i s).length = ls.length + 1 := by unfold insS; simp; omega
theorem insS_at (ls : List Sg) (i : Nat) (s : Sg) (h : i ≤ ls.length) (q : i < (insS ls i s).length) : (insS ls i s)[i] = s := by
  have : (insS ls i s)[i]? = some s := by
    unfold insS
    rw [List.getElem?_append_right (by simp; omega)]
    simp [Nat.min_eq_left h]
  rw [List.getElem?_eq_getElem q, Option.some.injEq] at this
  exact this
theorem insS_before (ls : List Sg) (i : Nat) (s : Sg) (h : i ≤ ls.length) (h0 : 0 < i) (q : i - 1 < (insS ls i s).length) (q2 : i - 1 < ls.length) : (insS ls i s)[i - 1] = ls[i - 1] := by
  have : (insS ls i s)[i - 1]? = some ls[i - 1] := by
    unfold insS
    rw [List.getElem?_append_left (by simp; omega), List.getElem?_take, if_pos (by omega), List.getElem?_eq_getElem q2]
  rw [List.getElem?_eq_getElem q, Option.some.injEq] at this
  exact this
theorem insS_swap (ls : List Sg) (i : Nat) (s : Sg) (h : i ≤ ls.length) (h0 : 0 < i) (q2 : i - 1 < ls.length) : ((insS ls i s).set i ls[i - 1]).set (i - 1) s = insS ls (i - 1) s := by
  obtain ⟨m, rfl⟩ : ∃ m, i = m + 1 := ⟨i - 1, by omega⟩
  have hm : m < ls.length := by omega
  have e1 : ls.take (m + 1) = ls.take m ++ [ls[m]] := by rw [List.take_add_one, List.getElem?_eq_getElem hm]; rfl
  have e2 : ls.drop m = ls[m] :: ls.drop (m + 1) := List.drop_eq_getElem_cons hm
  have hl : (ls.take m).length = m := by rw [List.length_take]; omega
  simp only [Nat.add_sub_cancel]
  unfold insS
  rw [e1, e2]
  generalize ls.take m = A at *
  generalize ls.drop (m + 1) = B at *
  generalize ls[m] = y at *
  subst hl
  simp [List.set_append_right, List.append_assoc]
theorem refPut_ok (r : Rl) (nl : Nl) (ls : List Sg) (s : Sg) (hb : r.s.length ≤ 3000) (hl : ls.length ≤ 3000) : R tb 31 [vR r, lst nl ls, vS s] = some (if putE r ls s = 0 then .tup [lst .any (putL ls s), .int .i64 0] else .tup [.list .nil 1 [], .int .i64 (putE r ls s)]) := by
  have h18 := refValidate_ok r nl ls hb (by omega)
  obtain ⟨st, sp, so, sk⟩ := s
  refine R_of_G (F := pf31) rfl rfl rfl ?_
  by_cases h : valErr r ls = 0
  case neg => simp (disch := first | omega | with_unfolding_all rfl) [pf31, env0_eq, h18, h, putE]
  have v := vd_of h
  by_cases k1 : sk < 0
  · have : putE r ls ⟨st, sp, so, sk⟩ = 1 := by rw [putE, if_pos h, if_pos (.inl k1)]
    simp (disch := first | omega | with_unfolding_all rfl) [pf31, env0_eq, h18, h, k1, this]
  by_cases k2 : 5 < sk
  · have : putE r ls ⟨st, sp, so, sk⟩ = 1 := by rw [putE, if_pos h, if_pos (.inr k2)]
    simp (disch := first | omega | with_unfolding_all rfl) [pf31, env0_eq, h18, h, k1, k2, this]
  have hk : ¬ (sk < 0 ∨ 5 < sk) := by omega
  have h25 := refLies_ok v.g st sp
  cases c1 : lie r st sp
  · have : putE r ls ⟨st, sp, so, sk⟩ = 2 := by rw [putE, if_pos h, if_neg hk, if_pos (.inl c1)]
    rw [c1] at h25
    simp (disch := first | omega | with_unfolding_all rfl) [pf31, env0_eq, h18, h, k1, k2, h25, this]
  have h51 := has_ok sp so
  cases c2 : has sp so
  · have : putE r ls ⟨st, sp, so, sk⟩ = 2 := by rw [putE, if_pos h, if_neg hk, if_pos (.inr c2)]
    rw [c1] at h25
    rw [c2] at h51
    simp (disch := first | omega | with_unfolding_all rfl) [pf31, env0_eq, h18, h, k1, k2, h25, h51, this]
  rw [c1] at h25
  rw [c2] at h51
  have hb12 : ¬ (lie r st sp = false ∨ has sp so = false) := by rw [c1, c2]; simp
  have h60 := refAt_ok (nl := nl) (by omega) v.so st sp so
  obtain ⟨z, hzd⟩ : ∃ z, z = posS ⟨st, sp, so, 0⟩ ls := ⟨_, rfl⟩
  have hzle : z ≤ ls.length := by rw [hzd]; exact posS_le _ _
  rw [← hzd] at h60
  have hr : rep 0 [PV.int .i64 0, PV.int .i64 0, PV.int .i64 0, PV.int .i64 0] = [] := rfl
  have hs1 : evApp 45 4 32 (.list .ex 4 []) (lst nl ls) [] = if ls = [] then some (.list .ex 4 [], []) else some (mls Sg 0 1 ls.length, [bk 45 1 ls]) := evApp_ex_lst (by omega)
  cases c3 : sgn ls st sp so
  case true =>
    have hz := sgn_lt c3
    have heq := sgn_eq v.so c3 hz
    obtain ⟨x, hx⟩ : ∃ x, x = ls[z]'(by rw [hzd]; exact hz) := ⟨_, rfl⟩
    have heq' : eqS x ⟨st, sp, so, 0⟩ := by rw [hx]; simp only [hzd]; exact heq
    rw [← hzd] at hz
    have : putE r ls ⟨st, sp, so, sk⟩ = 0 := by rw [putE, if_pos h, if_neg hk, if_neg hb12, if_neg (by dsimp only; rw [c3]; simp)]
    have hL : putL ls ⟨st, sp, so, sk⟩ = ls.set z ⟨st, sp, so, sk⟩ := by rw [putL, if_pos c3, hzd]
    rw [c3, if_pos rfl] at h60
    have hne : ls ≠ [] := by rintro rfl; simp at hz
    rw [hL]
    have hz0 : (0 : Int) ≤ (z : Int) := by omega
    have hxs : (⟨x.t, x.p, x.o, sk⟩ : Sg) = ⟨st, sp, so, sk⟩ := by
      obtain ⟨e1, e2, e3⟩ := heq'
      dsimp only at e1 e2 e3
      rw [e1, e2, e3]
    have hsl : (ls.set z ⟨st, sp, so, sk⟩).length = ls.length := by simp
    simp (disch := first | omega | with_unfolding_all rfl) [pf31, env0_eq, h18, h, k1, k2, h25, h51, this, h60, hr, hs1, hne, hz0, ← hx, hxs]
  rw [c3, if_neg (by decide)] at h60
  by_cases c4 : 300 ≤ ls.length
  · have : putE r ls ⟨st, sp, so, sk⟩ = 10 := by rw [putE, if_pos h, if_neg hk, if_neg hb12, if_pos ⟨c3, c4⟩]
    have c4' : (300 : Int) ≤ ls.length := by omega
    have hne : ls ≠ [] := by rintro rfl; simp at c4
    simp (disch := first | omega | with_unfolding_all rfl) [pf31, env0_eq, h18, h, k1, k2, h25, h51, this, h60, hr, hs1, hne, c4']
  have c4' : ¬ (300 : Int) ≤ ls.length := by omega
  have this : putE r ls ⟨st, sp, so, sk⟩ = 0 := by rw [putE, if_pos h, if_neg hk, if_neg hb12, if_neg (fun q => c4 q.2)]
  have hL : putL ls ⟨st, sp, so, sk⟩ = insS ls z ⟨st, sp, so, sk⟩ := by rw [putL, if_neg (by dsimp only; rw [c3]; simp), hzd]
  rw [hL]
  by_cases e0 : ls = []
  · subst e0
    have hz0 : z = 0 := by simpa using hzle
    subst hz0
    have happ : evApp 45 4 32 (.list .ex 4 []) (.list .ex 4 [.int .i64 st, .int .i64 sp, .int .i64 so, .int .i64 sk]) [] = some (mls Sg 0 1 1, [bk 45 1 [(⟨st, sp, so, sk⟩ : Sg)]]) := by
      have := evApp_ex_lst (nl := .ex) (H := []) (ys := [(⟨st, sp, so, sk⟩ : Sg)]) (by simp)
      rw [if_neg (by simp)] at this
      exact this
    have hI0 : insS [] 0 ⟨st, sp, so, sk⟩ = [(⟨st, sp, so, sk⟩ : Sg)] := rfl
    simp (disch := first | omega | with_unfolding_all rfl) [pf31, env0_eq, h18, h, k1, k2, h25, h51, this, h60, hr, hs1, happ, hI0]
    refine G_loopK [9] (fun (i : Nat) e h => i = 0 ∧ get e 11 = .int .i64 (i : Int) ∧ h = [bk 45 1 [(⟨st, sp, so, sk⟩ : Sg)]]) (fun i => i) (a₀ := 0) ⟨rfl, by simp, rfl⟩ ?_
    rintro i e hh hk ⟨rfl, g11, rfl⟩
    simp at hk
    simp (disch := first | omega | with_unfolding_all rfl) [hk, g11]
  have hap2 : evApp 45 4 32 (mls Sg 0 1 ls.length) (.list .ex 4 [.int .i64 st, .int .i64 sp, .int .i64 so, .int .i64 sk]) [bk 45 1 ls] = some (mls Sg 0 2 (ls.length + 1), [bk 45 2 (ls ++ [(⟨st, sp, so, sk⟩ : Sg)])]) := by
    have := evApp_mls_sg (nl := .ex) (H := [bk 45 1 ls]) (b := 0) (g := 1) (xs := ls) (ys := [(⟨st, sp, so, sk⟩ : Sg)]) rfl (by simp; omega)
    rw [if_neg (by simp)] at this
    exact this
  have hin : ls ++ [(⟨st, sp, so, sk⟩ : Sg)] = insS ls ls.length ⟨st, sp, so, sk⟩ := by unfold insS; simp
  rw [hin] at hap2
  have hn0 : 0 < ls.length := List.length_pos_iff.2 e0
  simp (disch := first | omega | with_unfolding_all rfl) [pf31, env0_eq, h18, h, k1, k2, h25, h51, this, h60, hr, hs1, e0, hap2, c4']
  refine G_loopK [9] (fun (i : Nat) e h => z ≤ i ∧ i ≤ ls.length ∧ get e 11 = .int .i64 (i : Int) ∧ h = [bk 45 2 (insS ls i ⟨st, sp, so, sk⟩)]) (fun i => i) (a₀ := ls.length) ⟨hzle, by omega, by simp, rfl⟩ ?_
  rintro i e hh hk' ⟨hzi, hi, g11, rfl⟩
  simp at hk'
  have hil := insS_len ls i ⟨st, sp, so, sk⟩ hi
  have hat := insS_at ls i ⟨st, sp, so, sk⟩ hi
  by_cases i0 : i = 0
  · subst i0
    have hz0 : z = 0 := by omega
    subst hz0
    simp (disch := first | omega | with_unfolding_all rfl) [hk', g11]
  have hi1 : i - 1 < ls.length := by omega
  have hbf := fun q => insS_before ls i ⟨st, sp, so, sk⟩ hi (by omega) q hi1
  have hsw := insS_swap ls i ⟨st, sp, so, sk⟩ hi (by omega) hi1
  obtain ⟨y, hy⟩ : ∃ y, y = ls[i - 1] := ⟨_, rfl⟩
  rw [← hy] at hsw
  simp only [← hy] at hbf
  have hci : (i : Int) - 1 = ((i - 1 : Nat) : Int) := by omega
  have hi0 : 0 < i := by omega
  have h50 := less_ok ⟨st, sp, so, sk⟩ y
  simp only [vS] at h50
  have hlt : ltS ⟨st, sp, so, sk⟩ y ↔ z < i := by
    constructor
    · intro q
      apply Nat.lt_of_not_le
      intro c
      have c5 : i - 1 < posS ⟨st, sp, so, 0⟩ ls := by omega
      have := posS_lt (l := ⟨st, sp, so, 0⟩) hi1 c5
      rw [← hy] at this
      unfold ltS at *
      dsimp only at *
      omega
    · intro q
      have := posS_ge v.so (l := ⟨st, sp, so, 0⟩) hi1 (by omega)
      rw [← hy] at this
      have hne : ¬ eqS y ⟨st, sp, so, 0⟩ := fun c => by
        have : sgn ls st sp so = true := (isAt_iff v.so).2 ⟨y, by rw [hy]; exact List.getElem_mem hi1, c⟩
        rw [c3] at this; cases this
      unfold ltS eqS at *
      dsimp only at *
      omega
  replace hsw : ((insS ls i ⟨st, sp, so, sk⟩).set i ⟨y.t, y.p, y.o, y.k⟩).set (i - 1) ⟨st, sp, so, sk⟩ = insS ls (i - 1) ⟨st, sp, so, sk⟩ := hsw
  have hil2 : ((insS ls i ⟨st, sp, so, sk⟩).set i ⟨y.t, y.p, y.o, y.k⟩).length = ls.length + 1 := by simp [hil]
  by_cases c6 : z < i
  · have hl1 : decide (ltS ⟨st, sp, so, sk⟩ y) = true := by rw [decide_eq_true_eq]; exact hlt.2 c6
    rw [hl1] at h50
    simp (disch := first | omega | with_unfolding_all rfl) [hk', g11, hci, hi0, hat, hbf, h50, hsw]
    refine ⟨i - 1, by omega, by omega, by omega, ?_⟩
    exact ⟨rfl, rfl⟩
  · have hl1 : decide (ltS ⟨st, sp, so, sk⟩ y) = false := by rw [decide_eq_false_iff_not]; exact fun q => c6 (hlt.1 q)
    rw [hl1] at h50
    have hzi2 : z = i := by omega
    subst hzi2
    simp (disch := first | omega | with_unfolding_all rfl) [hk', g11, hci, hi0, hat, hbf, h50]
theorem law9_ok (r : Rl) (ls : List Sg) (s : Sg) : R tb 9 [vR r, lst .any ls, vS s] = some (.bool true) := by
  have h16 := far_ok r .any ls
  obtain ⟨st, sp, so, sk⟩ := s
  refine R_of_G (F := pf9) rfl rfl rfl ?_
  cases hf : farB r ls
  case true => simp (disch := first | omega | with_unfolding_all rfl) [pf9, env0_eq, h16, hf, known_ok]
  obtain ⟨f1, f2, f3⟩ := not_far hf
  have h32 := put_ok r (nl := .any) (by simp) ls ⟨st, sp, so, sk⟩ (by omega) (by omega)
  have h31 := refPut_ok r .any ls ⟨st, sp, so, sk⟩ (by omega) (by omega)
  simp only [vS] at h31 h32
  by_cases h : putE r ls ⟨st, sp, so, sk⟩ = 0
  case neg =>
    rw [if_neg h] at h31 h32
    simp (disch := first | omega | with_unfolding_all rfl) [pf9, env0_eq, h16, hf, h31, h32, sameSigNil_ok, known_ok]
  rw [if_pos h] at h31 h32
  obtain ⟨X, hX⟩ : ∃ X, X = putL ls ⟨st, sp, so, sk⟩ := ⟨_, rfl⟩
  have hXl : X.length ≤ 100000 := by
    rw [hX]; unfold putL
    split
    · simp; omega
    · unfold insS; simp; omega
  rw [← hX] at h31 h32
  have h28 := sameSigs_ok (n1 := .any) (n2 := .any) X hXl
  simp (disch := first | omega | with_unfolding_all rfl) [pf9, env0_eq, h16, hf, h31, h32, h28, known_ok]
end Go.Proofs.Ytfocelelbcepnaa
