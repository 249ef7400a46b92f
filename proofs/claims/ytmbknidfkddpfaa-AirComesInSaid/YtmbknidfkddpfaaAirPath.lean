/- Airports: the way to where a wish ends, of the document's answer. -/
import Derived.Test.YtmbknidfkddpfaaAirWay
set_option linter.unusedVariables false
set_option linter.unusedSimpArgs false
set_option maxHeartbeats 1000000
namespace Go.Proofs.Ytmbknidfkddpfaa
open Go.Proofs.Ytmbknidfkddpfaa.PM

theorem ended_ok (f : Fd) (hb : f.nodes.length ≤ 400) (k w : Nat) (hk : k < f.nodes.length) : R tb 46 [vFd f, .int .i64 k, .int .i64 w] = some (.bool (decide (w = 0) || endB w (kd f.nodes k))) := by
  have hm : maxLen = 9223372036854775807 := rfl
  have hkk := kd_sym hk
  refine R_of_G (F := pf46) rfl rfl rfl ?_
  simp (disch := first | omega | with_unfolding_all rfl) [pf46, env0_eq]
  by_cases h0 : w = 0
  · simp (disch := first | omega | with_unfolding_all rfl) [h0]
  simp (disch := first | omega | with_unfolding_all rfl) [h0]
  by_cases h1 : w = 1
  · subst h1
    by_cases h3 : kd f.nodes k = 3
    · simp (disch := first | omega | with_unfolding_all rfl) [hkk, h3, endB]
    · simp (disch := first | omega | with_unfolding_all rfl) [hkk, h3, endB]
  have h1' : ¬ (w : Int) = 1 := by omega
  simp (disch := first | omega | with_unfolding_all rfl) [h1, h1']
  by_cases h2 : w = 2
  · subst h2
    simp (disch := first | omega | with_unfolding_all rfl) [hkk, endB]
  have h2' : ¬ (w : Int) = 2 := by omega
  simp (disch := first | omega | with_unfolding_all rfl) [h1, h1', h2, h2', endB]
def frB (bs : List Bool) (k : Nat) : Bool := !bs.getD k true
def zP (ns : List Nd) (a w : Nat) (bs : List Bool) (k : Nat) : Bool := (decide (w = 0) || endB w (kd ns k)) && (frB bs k || decide (k = a))
theorem path_ok (f : Fd) (hb : f.nodes.length ≤ 400) (hc : ∀ n ∈ f.nodes, n.on.length ≤ 400) (hr : ∀ n ∈ f.nodes, ∀ o ∈ n.on, 0 ≤ o ∧ o < f.nodes.length) (nb : Nl) (bs : List Bool) (hbs : bs.length = f.nodes.length)
    (a w : Nat) (ha : a < f.nodes.length) :
    R tb 47 [vFd f, .int .i64 a, .int .i64 w, lst nb bs] = some (if w = 0 then .tup [lst .ex [(a : Int)], .bool true] else wayV f.nodes a w (frB bs)) := by
  have hm : maxLen = 9223372036854775807 := rfl
  have hno := fun k : Nat => fun hk : k < f.nodes.length => ended_ok f hb k w hk
  simp only [vFd] at hno
  refine R_of_G (F := pf47) rfl rfl rfl ?_
  simp (disch := first | omega | with_unfolding_all rfl) [pf47, env0_eq]
  refine G_scanK [1, 2, 3, 4, 10, 26] (fun i e h => get e 27 = .int .i64 (i : Int) ∧ h = [bk 3 0 (ini (zP f.nodes a w bs) f.nodes.length i)]) (fun _ => false) f.nodes.length 0 ?_ (Nat.zero_le _) ?_
  · simp [ini]
  rintro i e h - hi - hk ⟨g1, rfl⟩
  simp at hk
  simp (disch := first | omega | with_unfolding_all rfl) [hk, g1]
  refine G_brd (fun h => ?_) (fun h => ?_)
  · have hl : (ini (zP f.nodes a w bs) f.nodes.length i).length = f.nodes.length := ini_len i
    have hl2 : ((ini (zP f.nodes a w bs) f.nodes.length i).set i (-1)).length = f.nodes.length := by rw [List.length_set]; exact hl
    have hlb : i < bs.length := by omega
    have hka1 : decide ((i : Int) = (a : Int)) = decide (i = a) := decide_eq_decide.2 (by omega)
    have hz : zP f.nodes a w bs i = ((decide (w = 0) || endB w (kd f.nodes i)) && (!bs[i] || decide (i = a))) := by simp [zP, frB, hlb]
    simp (disch := first | omega | with_unfolding_all rfl) [h, hl, hno]
    cases hen : (decide (w = 0) || endB w (kd f.nodes i))
    · rw [hen, Bool.false_and] at hz
      simp (disch := first | omega | with_unfolding_all rfl) [ini, hz]
    · rw [hen, Bool.true_and] at hz
      simp (disch := first | omega | with_unfolding_all rfl) [hka1]
      by_cases hia : i = a
      · rw [decide_eq_true hia, Bool.or_true] at hz
        have hia2 := decide_eq_true hia
        simp (disch := first | omega | with_unfolding_all rfl) [hia2, ini, hz]
      · rw [decide_eq_false hia, Bool.or_false] at hz
        have hia2 := decide_eq_false hia
        simp (disch := first | omega | with_unfolding_all rfl) [hia2, hlb]
        cases hbi : bs[i]
        · rw [hbi] at hz
          simp (disch := first | omega | with_unfolding_all rfl) [ini, hz]
        · rw [hbi] at hz
          simp (disch := first | omega | with_unfolding_all rfl) [ini, hz]
  obtain rfl : i = f.nodes.length := by omega
  simp (disch := first | omega | with_unfolding_all rfl) [h]
  by_cases hw : w = 0
  · simp (disch := first | omega | with_unfolding_all rfl) [hw]
  have hzz : zP f.nodes a w bs = zed f.nodes a w (frB bs) := by
    funext k
    rw [zed_eq]
    simp [zP, hw]
  rw [hzz]
  simp (disch := first | omega | with_unfolding_all rfl) [hw]
  refine G_scanK [1, 3, 4, 10, 59] (fun r e h => get e 60 = .int .i64 (r : Int) ∧ h = [bk 3 0 (cnt f.nodes a w (frB bs) r)]) (fun _ => false) f.nodes.length 0 ?_ (Nat.zero_le _) ?_
  · simp [rss]
  rintro r e h - hir - hk ⟨g1, rfl⟩
  simp at hk
  simp (disch := first | omega | with_unfolding_all rfl) [hk, g1]
  refine G_brd (fun hr1 => ?_) (fun hr1 => ?_)
  · simp (disch := first | omega | with_unfolding_all rfl) [hr1]
    refine G_scanK [1, 3, 4, 10, 12, 59, 60, 64, 65] (fun k e h => get e 66 = .int .i64 (k : Int) ∧ h = [bk 3 0 (kss (onOf f.nodes) (thr f.nodes a (frB bs)) r (cnt f.nodes a w (frB bs) r) k)]) (fun _ => false) f.nodes.length 0 ?_ (Nat.zero_le _) ?_
    · simp [kss]
    rintro k e h - hik - hk ⟨g1, rfl⟩
    simp at hk
    simp (disch := first | omega | with_unfolding_all rfl) [hk, g1]
    generalize hcc : kss (onOf f.nodes) (thr f.nodes a (frB bs)) r (cnt f.nodes a w (frB bs) r) k = c
    have hl : c.length = f.nodes.length := by rw [← hcc]; simp
    have hnext : kss (onOf f.nodes) (thr f.nodes a (frB bs)) r (cnt f.nodes a w (frB bs) r) (k + 1) = kst (onOf f.nodes) (thr f.nodes a (frB bs)) r c k := by rw [← hcc]; rfl
    refine G_brd (fun hk1 => ?_) (fun hk1 => ?_)
    · have hlk : k < c.length := by omega
      have hlb : k < bs.length := by omega
      have hkk := kd_eq hk1
      have hth : thr f.nodes a (frB bs) k = (decide (k = a) || (!bs[k] && !decide (f.nodes[k].kind = 0))) := by
        unfold thr frB
        rw [hkk, show decide ((k : Int) = (a : Int)) = decide (k = a) from decide_eq_decide.2 (by omega)]
        simp [hlb]
      simp (disch := first | omega | with_unfolding_all rfl) [hk1, hl]
      refine G_grdn (fun h1 => ?_) (fun h1 => ?_)
      · have hng : c.getD k 0 < 0 := by simp [hlk]; omega
        cases hthv : thr f.nodes a (frB bs) k
        · have hks : kst (onOf f.nodes) (thr f.nodes a (frB bs)) r c k = c := by unfold kst; rw [if_pos (.inr hthv)]
          rw [hth] at hthv
          simp only [Bool.or_eq_false_iff, Bool.and_eq_false_iff, decide_eq_false_iff_not, Bool.not_eq_false'] at hthv
          obtain ⟨hka, hx⟩ := hthv
          have hka1 : decide ((k : Int) = (a : Int)) = false := decide_eq_false (by omega)
          have hka2 : decide (k = a) = false := decide_eq_false hka
          cases hbk : bs[k]
          · have hkz : f.nodes[k].kind = 0 := by simpa [hbk] using hx
            simp (disch := first | omega | with_unfolding_all rfl) [h1, hka1, hka2, hlb, hbk, hkz, hk1, hnext, hks]
          · simp (disch := first | omega | with_unfolding_all rfl) [h1, hka1, hka2, hlb, hbk, hk1, hnext, hks]
        · have hcase : k = a ∨ (k ≠ a ∧ bs[k] = false ∧ ¬ f.nodes[k].kind = 0) := by
            have q := hthv
            rw [hth] at q
            simp only [Bool.or_eq_true, Bool.and_eq_true, decide_eq_true_eq, Bool.not_eq_true', decide_eq_false_iff_not] at q
            rcases q with q | ⟨q1, q2⟩
            · exact .inl q
            · by_cases hka : k = a
              · exact .inl hka
              · exact .inr ⟨hka, q1, q2⟩
          have hka1 : decide ((k : Int) = (a : Int)) = decide (k = a) := decide_eq_decide.2 (by omega)
          rcases hcase with hka | ⟨hka, hbk, hkz⟩
          · have hka2 : decide (k = a) = true := decide_eq_true hka
            simp (disch := first | omega | with_unfolding_all rfl) [h1, hka1, hka2]
            have hks := kst_sif (on := onOf f.nodes) (th := thr f.nodes a (frB bs)) (r := r) hng hthv
            rw [on_eq hk1] at hks
            have hon := hc _ (List.getElem_mem hk1)
            have hro := hr _ (List.getElem_mem hk1)
            refine G_scanK [1, 3, 4, 10, 12, 13, 59, 60, 64, 65, 66, 93, 94] (fun j e h => get e 95 = .int .i64 (j : Int) ∧ h = [bk 3 0 (sif c k r (anyN (hit c r f.nodes[k].on) 0 j)), ⟨58, 0, [.int .i64 f.nodes[k].kind, lst f.nodes[k].nl f.nodes[k].on]⟩]) (fun _ => false) f.nodes[k].on.length 0 ?_ (Nat.zero_le _) ?_
            · simp [anyN, sif]
            rintro j e h - hj - hk' ⟨g1', rfl⟩
            simp at hk'
            simp (disch := first | omega | with_unfolding_all rfl) [hk', g1']
            refine G_brd (fun hj1 => ?_) (fun hj1 => ?_)
            · obtain ⟨ho1, ho2⟩ := hro _ (List.getElem_mem hj1)
              have hls : (sif c k r (anyN (hit c r f.nodes[k].on) 0 j)).length = f.nodes.length := by rw [sif_len]; exact hl
              have hsh := sif_hit (c := c) (k := k) (r := r) (b := anyN (hit c r f.nodes[k].on) 0 j) hng (f.nodes[k].on[j]).toNat
              rw [List.getElem?_eq_getElem (by omega)] at hsh
              have hit1 : hit c r f.nodes[k].on j = decide (c[(f.nodes[k].on[j]).toNat]? = some (r : Int)) := by simp [hit, hj1]
              have hst := sif_set c k r (anyN (hit c r f.nodes[k].on) 0 j)
              simp (disch := first | omega | with_unfolding_all rfl) [hj1, hls]
              refine G_brd (fun h5 => ?_) (fun h5 => ?_)
              · rw [decide_eq_true (hsh.1 (by rw [h5]))] at hit1
                simp (disch := first | omega | with_unfolding_all rfl) [hj1, hls, hst, anyN_succ, hit1]
              · have hit2 : hit c r f.nodes[k].on j = false := by
                  rw [hit1]
                  exact decide_eq_false fun q => h5 (Option.some.inj (hsh.2 q))
                simp (disch := first | omega | with_unfolding_all rfl) [hj1, anyN_succ, hit2]
            · obtain rfl : j = f.nodes[k].on.length := by omega
              simp (disch := first | omega | with_unfolding_all rfl) [hj1, hk1, hnext, hks]
          · have hka2 : decide (k = a) = false := decide_eq_false hka
            simp (disch := first | omega | with_unfolding_all rfl) [h1, hka1, hka2, hlb, hbk, hkz]
            have hks := kst_sif (on := onOf f.nodes) (th := thr f.nodes a (frB bs)) (r := r) hng hthv
            rw [on_eq hk1] at hks
            have hon := hc _ (List.getElem_mem hk1)
            have hro := hr _ (List.getElem_mem hk1)
            refine G_scanK [1, 3, 4, 10, 12, 13, 59, 60, 64, 65, 66, 93, 94] (fun j e h => get e 95 = .int .i64 (j : Int) ∧ h = [bk 3 0 (sif c k r (anyN (hit c r f.nodes[k].on) 0 j)), ⟨58, 0, [.int .i64 f.nodes[k].kind, lst f.nodes[k].nl f.nodes[k].on]⟩]) (fun _ => false) f.nodes[k].on.length 0 ?_ (Nat.zero_le _) ?_
            · simp [anyN, sif]
            rintro j e h - hj - hk' ⟨g1', rfl⟩
            simp at hk'
            simp (disch := first | omega | with_unfolding_all rfl) [hk', g1']
            refine G_brd (fun hj1 => ?_) (fun hj1 => ?_)
            · obtain ⟨ho1, ho2⟩ := hro _ (List.getElem_mem hj1)
              have hls : (sif c k r (anyN (hit c r f.nodes[k].on) 0 j)).length = f.nodes.length := by rw [sif_len]; exact hl
              have hsh := sif_hit (c := c) (k := k) (r := r) (b := anyN (hit c r f.nodes[k].on) 0 j) hng (f.nodes[k].on[j]).toNat
              rw [List.getElem?_eq_getElem (by omega)] at hsh
              have hit1 : hit c r f.nodes[k].on j = decide (c[(f.nodes[k].on[j]).toNat]? = some (r : Int)) := by simp [hit, hj1]
              have hst := sif_set c k r (anyN (hit c r f.nodes[k].on) 0 j)
              simp (disch := first | omega | with_unfolding_all rfl) [hj1, hls]
              refine G_brd (fun h5 => ?_) (fun h5 => ?_)
              · rw [decide_eq_true (hsh.1 (by rw [h5]))] at hit1
                simp (disch := first | omega | with_unfolding_all rfl) [hj1, hls, hst, anyN_succ, hit1]
              · have hit2 : hit c r f.nodes[k].on j = false := by
                  rw [hit1]
                  exact decide_eq_false fun q => h5 (Option.some.inj (hsh.2 q))
                simp (disch := first | omega | with_unfolding_all rfl) [hj1, anyN_succ, hit2]
            · obtain rfl : j = f.nodes[k].on.length := by omega
              simp (disch := first | omega | with_unfolding_all rfl) [hj1, hk1, hnext, hks]
      · have hks : kst (onOf f.nodes) (thr f.nodes a (frB bs)) r c k = c := by unfold kst; rw [if_pos]; left; simp [hlk]; omega
        simp (disch := first | omega | with_unfolding_all rfl) [h1, hk1, hnext, hks]
    · obtain rfl : k = f.nodes.length := by omega
      have hc' : cnt f.nodes a w (frB bs) (r + 1) = c := hcc
      simp (disch := first | omega | with_unfolding_all rfl) [hk1, hr1, hc']
  obtain rfl : r = f.nodes.length := by omega
  simp (disch := first | omega | with_unfolding_all rfl) [hr1]
  generalize hcc : cnt f.nodes a w (frB bs) f.nodes.length = c
  have hinv : Inv (onOf f.nodes) f.nodes.length f.nodes.length c := by rw [← hcc]; exact inv_rss _
  have hl : c.length = f.nodes.length := hinv.len
  have hla : a < c.length := by omega
  have hfin : fin f.nodes a w (frB bs) = c[a] := by unfold fin; rw [hcc]; simp [hla]
  have hwl : wayL f.nodes a w (frB bs) = (a : Int) :: walk (onOf f.nodes) c c[a].toNat a := by unfold wayL; rw [hfin, hcc]
  simp (disch := first | omega | with_unfolding_all rfl) [hl]
  refine G_brd (fun h1 => ?_) (fun h1 => ?_)
  · have hwv : wayV f.nodes a w (frB bs) = .tup [.list .nil 1 [], .bool false] := by unfold wayV; rw [hfin, if_pos h1]
    simp (disch := first | omega | with_unfolding_all rfl) [h1, hwv]
  have hwv : wayV f.nodes a w (frB bs) = .tup [lst .any (wayL f.nodes a w (frB bs)), .bool true] := by unfold wayV; rw [hfin, if_neg h1]
  simp (disch := first | omega | with_unfolding_all rfl) [h1]
  have hca := hinv.hi a c[a] (by simp)
  refine G_loopK (α := Nat × List Int) (a₀ := (a, [(a : Int)])) [4, 10] (fun p e h => get e 17 = mls Int 1 (p.2.length - 1) p.2.length ∧ get e 18 = .int .i64 p.1 ∧ h = [bk 3 0 c, bk 3 (p.2.length - 1) p.2] ∧ p.1 < f.nodes.length ∧ p.2 ≠ [] ∧ 0 ≤ c.getD p.1 0 ∧
    p.2 ++ walk (onOf f.nodes) c (c.getD p.1 0).toNat p.1 = wayL f.nodes a w (frB bs) ∧ (p.2.length : Int) + c.getD p.1 0 ≤ f.nodes.length + 1) (fun p => (c.getD p.1 0).toNat) ?_ ?_
  · refine ⟨by simp, by simp, rfl, ha, by simp, by simp [hla]; omega, by rw [hwl]; simp [hla], by simp [hla]; omega⟩
  rintro ⟨v, acc⟩ e h hk ⟨g1, g2, rfl, hv, hne, h0, htot, hsz⟩
  simp only at *
  have hlv : v < c.length := by omega
  have hgv : c.getD v 0 = c[v] := by simp [hlv]
  have hap : 0 < acc.length := List.length_pos_iff.2 hne
  simp at hk
  simp (disch := first | omega | with_unfolding_all rfl) [hk, g1, g2, hl]
  refine G_brd (fun h2 => ?_) (fun h2 => ?_)
  · obtain ⟨hw1, hw2, hw3⟩ := walkGo hinv hv (by rw [hgv]; exact h2)
    have hon := hc _ (List.getElem_mem hv)
    have hro := hr _ (List.getElem_mem hv)
    have hex := hinv.nx v c[v] (by simp) h2
    rw [on_eq hv] at hex hw1 hw2 hw3
    rw [hgv] at hw1 hw2 hw3 h0 htot hsz
    simp (disch := first | omega | with_unfolding_all rfl) [h2]
    refine G_scanK [4, 10, 17, 18, 131, 132] (fun j e h => get e 133 = .int .i64 (j : Int) ∧ h = [bk 3 0 c, bk 3 (acc.length - 1) acc]) (hit c (c[v] - 1) f.nodes[v].on) f.nodes[v].on.length 0 ?_ (Nat.zero_le _) ?_
    · simp
    rintro j e h - hj hz hk' ⟨g1', rfl⟩
    simp at hk'
    simp (disch := first | omega | with_unfolding_all rfl) [hk', g1']
    refine G_brd (fun hj1 => ?_) (fun hj1 => ?_)
    · obtain ⟨ho1, ho2⟩ := hro _ (List.getElem_mem hj1)
      have hcv := hinv.hi v c[v] (by simp)
      have hlo : (f.nodes[v].on[j]).toNat < c.length := by omega
      have hit1 : hit c (c[v] - 1) f.nodes[v].on j = decide (c[(f.nodes[v].on[j]).toNat] = c[v] - 1) := by simp [hit, hj1, hlo]
      simp (disch := first | omega | with_unfolding_all rfl) [hj1, hl]
      refine G_brd (fun h5 => ?_) (fun h5 => ?_)
      · rw [decide_eq_true h5] at hit1
        have hnx := nxt_eq hit1 (fun i hi => hz i (Nat.zero_le _) hi) hj1
        have hgo : c.getD (f.nodes[v].on[j]).toNat 0 = c[v] - 1 := by rw [← h5]; simp [hlo]
        simp (disch := first | omega | with_unfolding_all rfl) [h5]
        have hgo' : c[(f.nodes[v].on[j]).toNat]?.getD 0 = c[v] - 1 := by simp [hlo, h5]
        have hcast : (((f.nodes[v].on[j]).toNat : Nat) : Int) = f.nodes[v].on[j] := by omega
        refine ⟨(f.nodes[v].on[j]).toNat, by rw [hgo']; omega, acc ++ [f.nodes[v].on[j]], by simp, hcast.symm, ⟨by simp, rfl⟩, by omega, by simp, by rw [hgo']; omega, ?_, by rw [hgo']; simp; omega⟩
        rw [hgo', hcast, List.append_assoc, ← htot, hw1, hnx]
        rfl
      · rw [decide_eq_false h5] at hit1
        simp (disch := first | omega | with_unfolding_all rfl) [h5, hit1, hj1]
    · exfalso
      obtain ⟨i, hi1, hi2⟩ := hex
      rw [hz i (Nat.zero_le _) (by omega)] at hi2
      cases hi2
  · have hc0 : c[v] = 0 := by omega
    rw [hgv, hc0] at htot
    simp [walk] at htot
    simp (disch := first | omega | with_unfolding_all rfl) [h2, hwv, htot]
end Go.Proofs.Ytmbknidfkddpfaa
