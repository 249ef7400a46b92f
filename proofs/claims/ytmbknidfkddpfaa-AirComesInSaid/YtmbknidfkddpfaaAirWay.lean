/- Airports: the way to where a wish ends. -/
import Derived.Test.YtmbknidfkddpfaaAirClone
import Derived.Test.YtmbknidfkddpfaaAirBfs
set_option linter.unusedVariables false
set_option linter.unusedSimpArgs false
set_option maxHeartbeats 1000000
namespace Go.Proofs.Ytmbknidfkddpfaa
open Go.Proofs.Ytmbknidfkddpfaa.PM

def onOf (ns : List Nd) (k : Nat) : List Int := match ns[k]? with | some n => n.on | none => []
theorem on_eq {ns : List Nd} {i : Nat} (h : i < ns.length) : onOf ns i = ns[i].on := by simp [onOf, h]
def zed (ns : List Nd) (at_ w : Int) (fr : Nat → Bool) (k : Nat) : Bool := decide (w = 2 ∧ kd ns k = 0 ∨ w = 1 ∧ kd ns k = 3) && (fr k || decide ((k : Int) = at_))
def thr (ns : List Nd) (at_ : Int) (fr : Nat → Bool) (k : Nat) : Bool := decide ((k : Int) = at_) || (fr k && !decide (kd ns k = 0))

structure Free (g : Nat) (cs : List PV) (fr : Nat → Bool) (N : Nat) : Prop where
  fz : ∀ H, fzB H cs = some cs
  pur : PV.pureLB cs = true
  call : ∀ k : Nat, k < N → R tb g (.int .i64 k :: cs) = some (.bool (fr k))

theorem thr_ok {g : Nat} {cs : List PV} {fr : Nat → Bool} (f : Fd) (hfr : Free g cs fr f.nodes.length) (at_ : Int) (b1 b2 b3 : Bool) (k : Nat) (hk : k < f.nodes.length) :
    R tb 54 [.int .i64 k, .pptr b1 [.int .i64 at_] 0, .pptr b2 [.clo (.func g) [] cs] 0, .pptr b3 [lst f.nl f.nodes, .int .i64 f.inn] 0] = some (.bool (thr f.nodes at_ fr k)) := by
  have h1 := hfr.call k hk
  have h2 := hfr.fz
  have h3 := nodeOf_ok f k (by omega) (by omega)
  simp only [vFd, Int.toNat_natCast] at h3
  refine R_of_G (F := pf54) rfl rfl rfl ?_
  simp (disch := omega) [pf54, env0_eq, h1, h2]
  refine G_grdn (fun h => ?_) (fun h => ?_)
  · simp (disch := omega) [h, h1, h2]
    refine G_grd (fun h5 => ?_) (fun h5 => ?_)
    · simp (disch := omega) [h, h5, h3, many_ok, thr]
    · simp (disch := omega) [h, h5, thr]
  · simp (disch := omega) [h, thr]

section
variable {g : Nat} {cs : List PV} {fr : Nat → Bool}
abbrev cnt (ns : List Nd) (a w : Nat) (fr : Nat → Bool) (r : Nat) : List Int := rss (onOf ns) (zed ns a w fr) (thr ns a fr) ns.length r
def fin (ns : List Nd) (a w : Nat) (fr : Nat → Bool) : Int := (cnt ns a w fr ns.length).getD a 0
def wayL (ns : List Nd) (a w : Nat) (fr : Nat → Bool) : List Int := a :: walk (onOf ns) (cnt ns a w fr ns.length) (fin ns a w fr).toNat a
def endB (w : Nat) (k : Int) : Bool := decide (w = 2 ∧ k = 0 ∨ w = 1 ∧ k = 3)
noncomputable def wayV (ns : List Nd) (a w : Nat) (fr : Nat → Bool) : PV := if fin ns a w fr < 0 then .tup [.list .nil 1 [], .bool false] else .tup [lst .any (wayL ns a w fr), .bool true]
theorem walkGo {on : Nat → List Int} {N : Nat} {B : Int} {c : List Int} (hi : Inv on N B c) {v : Nat} (hv : v < N) (h0 : 0 < c.getD v 0) :
    walk on c (c.getD v 0).toNat v = nxt c (on v) (c.getD v 0 - 1) :: walk on c (c.getD v 0 - 1).toNat (nxt c (on v) (c.getD v 0 - 1)) ∧ nxt c (on v) (c.getD v 0 - 1) ∈ on v ∧ c[(nxt c (on v) (c.getD v 0 - 1)).toNat]? = some (c.getD v 0 - 1) := by
  have hlt : v < c.length := by rw [hi.len]; exact hv
  have hx : c[v]? = some (c.getD v 0) := by simp [hlt]
  have h1 := nxt_ex (hi.nx v _ hx h0)
  refine ⟨?_, h1⟩
  obtain ⟨n, hn⟩ : ∃ n : Nat, c.getD v 0 = n + 1 := ⟨(c.getD v 0 - 1).toNat, by omega⟩
  rw [hn]
  have e1 : ((n : Int) + 1).toNat = n + 1 := by omega
  have e2 : ((n : Int) + 1 - 1) = n := by omega
  rw [e1, e2]
  simp only [walk, Int.toNat_natCast]
theorem ends_nat (H : Hp) (k : Int) (w : Nat) : evInv (R tb) fzB mth H "hinterland/air.ends" (vNode k) [.int .i64 (w : Int)] = some (.bool (endB w k)) := by
  rw [ends_ok]
  unfold endB
  rw [decide_eq_decide.2 (show ((w : Int) = 2 ∧ k = 0 ∨ (w : Int) = 1 ∧ k = 3) ↔ (w = 2 ∧ k = 0 ∨ w = 1 ∧ k = 3) by omega)]
theorem zed_eq (ns : List Nd) (a w : Nat) (fr : Nat → Bool) (k : Nat) : zed ns a w fr k = (endB w (kd ns k) && (fr k || decide (k = a))) := by
  unfold zed endB
  rw [decide_eq_decide.2 (show ((w : Int) = 2 ∧ kd ns k = 0 ∨ (w : Int) = 1 ∧ kd ns k = 3) ↔ (w = 2 ∧ kd ns k = 0 ∨ w = 1 ∧ kd ns k = 3) by omega), decide_eq_decide.2 (show ((k : Int) = a) ↔ k = a by omega)]
theorem way_ok (f : Fd) (hb : f.nodes.length ≤ 400) (hc : ∀ n ∈ f.nodes, n.on.length ≤ 400) (hr : ∀ n ∈ f.nodes, ∀ o ∈ n.on, 0 ≤ o ∧ o < f.nodes.length) (hfr : Free g cs fr f.nodes.length)
    (a w : Nat) (ha : a < f.nodes.length) :
    R tb 43 [vFd f, .int .i64 a, .int .i64 w, .clo (.func g) [] cs] = some (if w = 0 ∨ endB w (kd f.nodes a) = true then .tup [lst .ex [(a : Int)], .bool true] else wayV f.nodes a w fr) := by
  have hm : maxLen = 9223372036854775807 := rfl
  have hno := fun k : Nat => nodeOf_ok f k
  simp only [vFd, Int.toNat_natCast] at hno
  have hpu := hfr.pur
  have hfz := hfr.fz
  have hnr := fun j => noRefL_of_pureLB j cs hpu
  refine R_of_G (F := pf43) rfl rfl rfl ?_
  simp (disch := first | omega | with_unfolding_all rfl) [pf43, env0_eq, hpu]
  by_cases hw : w = 0
  · simp (disch := first | omega | with_unfolding_all rfl) [hw]
  simp (disch := first | omega | with_unfolding_all rfl) [hw, hno, ends_nat]
  cases he : endB w (kd f.nodes a)
  case true => simp (disch := first | omega | with_unfolding_all rfl) [he]
  simp (disch := first | omega | with_unfolding_all rfl) [he]
  refine G_scanK [2, 4, 5, 7, 10, 38] (fun i e h => get e 39 = .int .i64 (i : Int) ∧ h = [⟨3, 0, [.int .i64 a]⟩, bk 3 0 (ini (zed f.nodes a w fr) f.nodes.length i)]) (fun _ => false) f.nodes.length 0 ?_ (Nat.zero_le _) ?_
  · simp [ini]
  rintro i e h - hi - hk ⟨g1, rfl⟩
  simp at hk
  simp (disch := first | omega | with_unfolding_all rfl) [hk, g1]
  refine G_brd (fun h => ?_) (fun h => ?_)
  · have hl : (ini (zed f.nodes a w fr) f.nodes.length i).length = f.nodes.length := ini_len i
    have hl2 : ((ini (zed f.nodes a w fr) f.nodes.length i).set i (-1)).length = f.nodes.length := by rw [List.length_set]; exact hl
    have hcall := hfr.call i h
    have hz := zed_eq f.nodes a w fr i
    simp (disch := first | omega | with_unfolding_all rfl) [h, hl, hno, ends_nat]
    refine G_grd (fun h1 => ?_) (fun h1 => ?_)
    · rw [h1, Bool.true_and] at hz
      simp (disch := first | omega | with_unfolding_all rfl) [h1, hfz, hcall]
      refine G_grd (fun h2 => ?_) (fun h2 => ?_)
      · have h2 : fr i = false := by simpa using h2
        rw [h2, Bool.false_or] at hz
        simp (disch := first | omega | with_unfolding_all rfl) [h1, h2]
        refine G_brd (fun h3 => ?_) (fun h3 => ?_)
        · obtain rfl : i = a := by omega
          simp (disch := first | omega | with_unfolding_all rfl) [h1, h2, h3, ini, hz]
        · have h3' : ¬ i = a := by omega
          simp (disch := first | omega | with_unfolding_all rfl) [h1, h2, h3, h3', ini, hz]
      · have h2 : fr i = true := by simpa using h2
        rw [h2, Bool.true_or] at hz
        simp (disch := first | omega | with_unfolding_all rfl) [h1, h2, ini, hz]
    · rw [h1, Bool.false_and] at hz
      simp (disch := first | omega | with_unfolding_all rfl) [h1, ini, hz]
  obtain rfl : i = f.nodes.length := by omega
  simp (disch := first | omega | with_unfolding_all rfl) [h]
  refine G_scanK [4, 5, 10, 12, 67] (fun r e h => get e 68 = .int .i64 (r : Int) ∧ h = [⟨3, 0, [.int .i64 a]⟩, bk 3 0 (cnt f.nodes a w fr r)]) (fun _ => false) f.nodes.length 0 ?_ (Nat.zero_le _) ?_
  · simp [rss]
  rintro r e h - hir - hk ⟨g1, rfl⟩
  simp at hk
  simp (disch := first | omega | with_unfolding_all rfl) [hk, g1]
  refine G_brd (fun hr1 => ?_) (fun hr1 => ?_)
  · simp (disch := first | omega | with_unfolding_all rfl) [hr1]
    refine G_scanK [4, 5, 10, 12, 13, 67, 68, 72, 73] (fun k e h => get e 74 = .int .i64 (k : Int) ∧ h = [⟨3, 0, [.int .i64 a]⟩, bk 3 0 (kss (onOf f.nodes) (thr f.nodes a fr) r (cnt f.nodes a w fr r) k)]) (fun _ => false) f.nodes.length 0 ?_ (Nat.zero_le _) ?_
    · simp [kss]
    rintro k e h - hik - hk ⟨g1, rfl⟩
    simp at hk
    simp (disch := first | omega | with_unfolding_all rfl) [hk, g1]
    generalize hcc : kss (onOf f.nodes) (thr f.nodes a fr) r (cnt f.nodes a w fr r) k = c
    have hl : c.length = f.nodes.length := by rw [← hcc]; simp
    have hnext : kss (onOf f.nodes) (thr f.nodes a fr) r (cnt f.nodes a w fr r) (k + 1) = kst (onOf f.nodes) (thr f.nodes a fr) r c k := by rw [← hcc]; rfl
    refine G_brd (fun hk1 => ?_) (fun hk1 => ?_)
    · have hth := fun b2 b3 => thr_ok f hfr a true b2 b3 k hk1
      have hlk : k < c.length := by omega
      simp (disch := first | omega | with_unfolding_all rfl) [hk1, hl]
      refine G_grdn (fun h1 => ?_) (fun h1 => ?_)
      · simp (disch := first | omega | with_unfolding_all rfl) [h1, hfz, hth]
        have hng : c.getD k 0 < 0 := by simp [hlk]; omega
        refine G_br (fun h2 => ?_) (fun h2 => ?_)
        · have hks := kst_sif (on := onOf f.nodes) (th := thr f.nodes a fr) (r := r) hng h2
          rw [on_eq hk1] at hks
          have hon := hc _ (List.getElem_mem hk1)
          have hro := hr _ (List.getElem_mem hk1)
          simp (disch := first | omega | with_unfolding_all rfl) [h2]
          refine G_scanK [4, 5, 10, 12, 13, 14, 67, 68, 72, 73, 74, 91, 92] (fun j e h => get e 93 = .int .i64 (j : Int) ∧ h = [⟨3, 0, [.int .i64 a]⟩, bk 3 0 (sif c k r (anyN (hit c r f.nodes[k].on) 0 j)), ⟨58, 0, [.int .i64 f.nodes[k].kind, lst f.nodes[k].nl f.nodes[k].on]⟩]) (fun _ => false) f.nodes[k].on.length 0 ?_ (Nat.zero_le _) ?_
          · simp [anyN, sif]
          rintro j e h - hj - hk' ⟨g1', rfl⟩
          simp at hk'
          simp (disch := first | omega | with_unfolding_all rfl) [hk', g1']
          refine G_brd (fun hj1 => ?_) (fun hj1 => ?_)
          · obtain ⟨ho1, ho2⟩ := hro _ (List.getElem_mem hj1)
            have hls : (sif c k r (anyN (hit c r f.nodes[k].on) 0 j)).length = f.nodes.length := by rw [sif_len]; exact hl
            have hsh := sif_hit (c := c) (k := k) (r := r) (b := anyN (hit c r f.nodes[k].on) 0 j) hng (f.nodes[k].on[j]).toNat
            rw [List.getElem?_eq_getElem (by omega)] at hsh
            have hit1 : hit c r f.nodes[k].on j = decide (c[(f.nodes[k].on[j]).toNat]? = some (r : Int)) := by simp [hit, hj1]
            have hst := sif_set c k r (anyN (hit c r f.nodes[k].on) 0 j)
            simp (disch := first | omega | with_unfolding_all rfl) [hj1, hls]
            refine G_brd (fun h5 => ?_) (fun h5 => ?_)
            · rw [decide_eq_true (hsh.1 (by rw [h5]))] at hit1
              simp (disch := first | omega | with_unfolding_all rfl) [hj1, hls, hst, anyN_succ, hit1]
            · have hit2 : hit c r f.nodes[k].on j = false := by
                rw [hit1]
                exact decide_eq_false fun q => h5 (Option.some.inj (hsh.2 q))
              simp (disch := first | omega | with_unfolding_all rfl) [hj1, anyN_succ, hit2]
          · obtain rfl : j = f.nodes[k].on.length := by omega
            simp (disch := first | omega | with_unfolding_all rfl) [hj1, hk1, hnext, hks]
        · have hks : kst (onOf f.nodes) (thr f.nodes a fr) r c k = c := by unfold kst; rw [if_pos (.inr h2)]
          simp (disch := first | omega | with_unfolding_all rfl) [h2, hk1, hnext, hks]
      · have hks : kst (onOf f.nodes) (thr f.nodes a fr) r c k = c := by unfold kst; rw [if_pos]; left; simp [hlk]; omega
        simp (disch := first | omega | with_unfolding_all rfl) [h1, hk1, hnext, hks]
    · obtain rfl : k = f.nodes.length := by omega
      have hc' : cnt f.nodes a w fr (r + 1) = c := hcc
      simp (disch := first | omega | with_unfolding_all rfl) [hk1, hr1, hc']
  obtain rfl : r = f.nodes.length := by omega
  simp (disch := first | omega | with_unfolding_all rfl) [hr1]
  generalize hcc : cnt f.nodes a w fr f.nodes.length = c
  have hinv : Inv (onOf f.nodes) f.nodes.length f.nodes.length c := by rw [← hcc]; exact inv_rss _
  have hl : c.length = f.nodes.length := hinv.len
  have hla : a < c.length := by omega
  have hfin : fin f.nodes a w fr = c[a] := by unfold fin; rw [hcc]; simp [hla]
  have hwl : wayL f.nodes a w fr = (a : Int) :: walk (onOf f.nodes) c c[a].toNat a := by unfold wayL; rw [hfin, hcc]
  simp (disch := first | omega | with_unfolding_all rfl) [hl]
  refine G_brd (fun h1 => ?_) (fun h1 => ?_)
  · have hwv : wayV f.nodes a w fr = .tup [.list .nil 1 [], .bool false] := by unfold wayV; rw [hfin, if_pos h1]
    simp (disch := first | omega | with_unfolding_all rfl) [h1, hwv]
  have hwv : wayV f.nodes a w fr = .tup [lst .any (wayL f.nodes a w fr), .bool true] := by unfold wayV; rw [hfin, if_neg h1]
  simp (disch := first | omega | with_unfolding_all rfl) [h1]
  have hca := hinv.hi a c[a] (by simp)
  refine G_loopK (α := Nat × List Int) (a₀ := (a, [(a : Int)])) [4, 5, 10] (fun p e h => get e 18 = mls Int 2 (p.2.length - 1) p.2.length ∧ h = [⟨3, 0, [.int .i64 p.1]⟩, bk 3 0 c, bk 3 (p.2.length - 1) p.2] ∧ p.1 < f.nodes.length ∧ p.2 ≠ [] ∧ 0 ≤ c.getD p.1 0 ∧
    p.2 ++ walk (onOf f.nodes) c (c.getD p.1 0).toNat p.1 = wayL f.nodes a w fr ∧ (p.2.length : Int) + c.getD p.1 0 ≤ f.nodes.length + 1) (fun p => (c.getD p.1 0).toNat) ?_ ?_
  · refine ⟨by simp, rfl, ha, by simp, by simp [hla]; omega, by rw [hwl]; simp [hla], by simp [hla]; omega⟩
  rintro ⟨v, acc⟩ e h hk ⟨g1, rfl, hv, hne, h0, htot, hsz⟩
  simp only at *
  have hlv : v < c.length := by omega
  have hgv : c.getD v 0 = c[v] := by simp [hlv]
  have hap : 0 < acc.length := List.length_pos_iff.2 hne
  simp at hk
  simp (disch := first | omega | with_unfolding_all rfl) [hk, g1, hl]
  refine G_brd (fun h2 => ?_) (fun h2 => ?_)
  · obtain ⟨hw1, hw2, hw3⟩ := walkGo hinv hv (by rw [hgv]; exact h2)
    have hon := hc _ (List.getElem_mem hv)
    have hro := hr _ (List.getElem_mem hv)
    have hex := hinv.nx v c[v] (by simp) h2
    rw [on_eq hv] at hex hw1 hw2 hw3
    rw [hgv] at hw1 hw2 hw3 h0 htot hsz
    simp (disch := first | omega | with_unfolding_all rfl) [h2]
    refine G_scanK [4, 5, 10, 18, 128, 129] (fun j e h => get e 130 = .int .i64 (j : Int) ∧ h = [⟨3, 0, [.int .i64 v]⟩, bk 3 0 c, bk 3 (acc.length - 1) acc]) (hit c (c[v] - 1) f.nodes[v].on) f.nodes[v].on.length 0 ?_ (Nat.zero_le _) ?_
    · simp
    rintro j e h - hj hz hk' ⟨g1', rfl⟩
    simp at hk'
    simp (disch := first | omega | with_unfolding_all rfl) [hk', g1']
    refine G_brd (fun hj1 => ?_) (fun hj1 => ?_)
    · obtain ⟨ho1, ho2⟩ := hro _ (List.getElem_mem hj1)
      have hcv := hinv.hi v c[v] (by simp)
      have hlo : (f.nodes[v].on[j]).toNat < c.length := by omega
      have hit1 : hit c (c[v] - 1) f.nodes[v].on j = decide (c[(f.nodes[v].on[j]).toNat] = c[v] - 1) := by simp [hit, hj1, hlo]
      simp (disch := first | omega | with_unfolding_all rfl) [hj1, hl]
      refine G_brd (fun h5 => ?_) (fun h5 => ?_)
      · rw [decide_eq_true h5] at hit1
        have hnx := nxt_eq hit1 (fun i hi => hz i (Nat.zero_le _) hi) hj1
        have hgo : c.getD (f.nodes[v].on[j]).toNat 0 = c[v] - 1 := by rw [← h5]; simp [hlo]
        simp (disch := first | omega | with_unfolding_all rfl) [h5]
        have hgo' : c[(f.nodes[v].on[j]).toNat]?.getD 0 = c[v] - 1 := by simp [hlo, h5]
        have hcast : (((f.nodes[v].on[j]).toNat : Nat) : Int) = f.nodes[v].on[j] := by omega
        refine ⟨(f.nodes[v].on[j]).toNat, by rw [hgo']; omega, acc ++ [f.nodes[v].on[j]], by simp, ⟨hcast.symm, by simp, rfl⟩, by omega, by simp, by rw [hgo']; omega, ?_, by rw [hgo']; simp; omega⟩
        rw [hgo', hcast, List.append_assoc, ← htot, hw1, hnx]
        rfl
      · rw [decide_eq_false h5] at hit1
        simp (disch := first | omega | with_unfolding_all rfl) [h5, hit1, hj1]
    · exfalso
      obtain ⟨i, hi1, hi2⟩ := hex
      rw [hz i (Nat.zero_le _) (by omega)] at hi2
      cases hi2
  · have hc0 : c[v] = 0 := by omega
    rw [hgv, hc0] at htot
    simp [walk] at htot
    simp (disch := first | omega | with_unfolding_all rfl) [h2, hwv, htot]
end
end Go.Proofs.Ytmbknidfkddpfaa
