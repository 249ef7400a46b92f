/- Several texts in one: BlockShow5, BlockShow6. -/
import Derived.Test.YtfocelelbcepnaaBlockShowA
section
set_option linter.unusedVariables false
set_option linter.unusedSimpArgs false
set_option maxHeartbeats 8000000
set_option maxRecDepth 20000
namespace Go.Proofs.Ytfocelelbcepnaa
open Go.Proofs.Ytfocelelbcepnaa.PM

noncomputable def lgB (r : Rl) (ls : List Sg) (s : Sg) (b : Int) (sh : List Bool) (j : Nat) : Bool := lvB r ls s b j && sh.getD j false
theorem opB_eq (r : Rl) (ls : List Sg) (sh : List Bool) (s : Sg) (b : Int) : opB r ls sh s b = (anyN (lgB r ls s b sh) 0 ls.length || !anyN (lvB r ls s b) 0 ls.length) := rfl
theorem anyN_succ (f : Nat → Bool) (n : Nat) : anyN f 0 (n + 1) = (anyN f 0 n || f n) := by simp [anyN, List.range'_concat]
theorem refShowsE_ok {r : Rl} {ls : List Sg} {n1 n2 : Nl} {held : List Int} (hb : r.s.length ≤ 3000) (hl : ls.length ≤ 10000) (h : ¬ valErr r ls = 0) : R tb 46 [vR r, lst n1 ls, lst n2 held] = some (.tup [.list .nil 1 [], .int .i64 (valErr r ls)]) := by
  have h18 := refValidate_ok r n1 ls hb hl
  refine R_of_G (F := pf46) rfl rfl rfl ?_
  simp (disch := first | omega | with_unfolding_all rfl) [pf46, env0_eq, h18, h]
theorem refShows_ok {r : Rl} {ls : List Sg} {n1 n2 : Nl} {held : List Int} (hb : r.s.length ≤ 3000) (hl : ls.length ≤ 10000) (hh : held.length ≤ 100000) (h : valErr r ls = 0) : ∃ t, R tb 46 [vR r, lst n1 ls, lst n2 held] = some (.tup [lst .any t, .int .i64 0]) ∧ Shows r ls held t := by
  have v := vd_of h
  have hle := v.le
  have h18 := refValidate_ok r n1 ls hb hl
  obtain ⟨out, h56, hR⟩ := refNumbers_ok (nl := n1) v
  have hol := hR.len
  have hnl := num_len v
  have hm := v.g.mul
  have hls := v.g.ls
  obtain ⟨v0, h1, t, rfl, h2⟩ := R_ex (T := tb) (f := 46) (F := pf46) (args := [vR r, lst n1 ls, lst n2 held]) (Rq := fun v => ∃ t, v = .tup [lst .any t, .int .i64 0] ∧ Shows r ls held t) rfl rfl rfl (by
    simp (disch := first | omega | with_unfolding_all rfl) [pf46, env0_eq, h18, h, h56]
    refine G_loopK [1, 2, 3, 9, 10] (fun (a : List Bool × Bool) e h => a.1.length = ls.length ∧ get e 11 = .bool a.2 ∧ h = [bk 4 0 a.1] ∧ (∀ t, Till (fun s => passS (goB r ls held) s ls.length) a.1 t → Shows r ls held t) ∧ (a.2 = false → passS (goB r ls held) a.1 ls.length = a.1)) (fun a => ls.length - ctT a.1 + a.2.toNat) (a₀ := (List.replicate ls.length false, true)) ⟨by simp, by simp, rfl, fun t h => h, fun h => by cases h⟩ ?_
    rintro ⟨sh, ag⟩ e h hk ⟨hsl, g11, rfl, hT, hF⟩
    dsimp only at hsl g11 hT hF
    simp at hk
    cases ag
    case false =>
      have hfz := fun (n : Nat) (H : Hp) => frzB_bk (α := Bool) (xs := sh) (nl' := .any) (n := n) (H := H) (gen := 0) (e := 4) (show ls.length = sh.length from hsl.symm)
      have hfin := hT sh (.stop (hF rfl))
      simp (disch := first | omega | with_unfolding_all rfl) [hk, g11, hfz]
      exact ⟨sh, rfl, hfin⟩
    simp (disch := first | omega | with_unfolding_all rfl) [hk, g11]
    refine G_loopK [1, 2, 3, 9, 10] (fun (i : Nat) e h => i ≤ ls.length ∧ get e 12 = .int .i64 (i : Int) ∧ get e 11 = .bool (decide (ctT sh < ctT (passS (goB r ls held) sh i))) ∧ h = [bk 4 0 (passS (goB r ls held) sh i)]) (fun i => ls.length - i) (a₀ := 0) ⟨by omega, by simp, by simp [passS_zero], rfl⟩ ?_
    rintro i e2 h2 hk2 ⟨hi, g12, g11b, rfl⟩
    simp at hk2
    obtain ⟨si, hsi⟩ : ∃ si, si = passS (goB r ls held) sh i := ⟨_, rfl⟩
    have hsil : si.length = ls.length := by rw [hsi, passS_len, hsl]
    have hsc := passS_succ (goB r ls held) sh i
    rw [← hsi] at g11b hsc ⊢
    simp (disch := first | omega | with_unfolding_all rfl) [hk2, g12]
    refine G_brd (fun d => ?_) (fun d => ?_)
    · have hil : i < ls.length := by omega
      obtain ⟨s, hs⟩ : ∃ s, s = ls[i] := ⟨_, rfl⟩
      have hsm : s ∈ ls := by rw [hs]; exact List.getElem_mem hil
      have hst := getD_at (sh := si) (i := i) (by omega)
      have hgo := goB_at (r := r) (held := held) (sh := si) hil
      rw [← hs] at hgo
      unfold goS at hgo
      cases c1 : si[i]
      case true =>
        rw [stepS_on _ (by rw [hst, c1])] at hsc
        simp (disch := first | omega | with_unfolding_all rfl) [hk2, g12, d, c1]
        exact ⟨i + 1, by omega, by omega, by omega, by rw [hsc]; exact g11b, by rw [hsc]⟩
      rw [c1] at hst
      have hsi? : si[i]? = some false := by rw [List.getElem?_eq_getElem (by omega), c1]
      have h78 := refBy_ok v hR (nl := .any) (s := ⟨s.t, s.p, s.o⟩) (v.hs s hsm) (v.ly s hsm)
      obtain ⟨nx, hnx⟩ : ∃ nx, R tb 78 [vR r, lst .any out, .int .i64 s.t, .int .i64 s.p, .int .i64 s.o] = some (lst nx (byS r ls s)) := by
        split at h78
        · rename_i c
          refine ⟨.nil, ?_⟩
          rw [h78]
          unfold byS
          rw [c.1]; rfl
        · exact ⟨.any, h78⟩
      rcases byS_cases r ls s with hn | ⟨n, hn⟩
      · rw [hn] at hnx hgo
        unfold freeS at hgo
        rw [hn] at hgo
        rw [stepS_no _ hst (by rw [hgo]; rfl)] at hsc
        simp (disch := first | omega | with_unfolding_all rfl) [hk2, g12, d, c1, ← hs, hnx]
        rw [G_unroll]
        simp (disch := first | omega | with_unfolding_all rfl) [hk2, g12, d, c1, ← hs, hnx]
        exact ⟨i + 1, by omega, by omega, by omega, by rw [hsc]; exact g11b, by rw [hsc]⟩
      have hfs : freeS r ls held s = !decide (n ∈ held) := by unfold freeS; rw [hn]; rfl
      rw [hn] at hnx hgo
      dsimp only at hgo
      rw [stepS_off _ hst, hgo] at hsc
      have hl1 : ([n] : List Int).length = 1 := rfl
      have hmono := (passS_ct (goB r ls held) sh i).1
      rw [← hsi] at hmono
      simp (disch := first | omega | with_unfolding_all rfl) [hk2, g12, d, c1, ← hs, hnx]
      rw [G_unroll]
      simp (disch := first | omega | with_unfolding_all rfl) [hk2, g12, d, c1, ← hs, hnx]
      refine G_loopK [1, 2, 3, 9, 10, 11, 12, 13, 15] (fun (j : Nat) e h => j ≤ held.length ∧ get e 16 = .int .i64 (j : Int) ∧ get e 14 = .bool (!anyN (fun j => decide (held[j]? = some n)) 0 j) ∧ h = [bk 4 0 si]) (fun j => held.length - j) (a₀ := 0) ⟨by omega, by simp, by simp [anyN], rfl⟩ ?_
      rintro j e3 h3 hk3 ⟨hj, g16, g14, rfl⟩
      simp at hk3
      simp (disch := first | omega | with_unfolding_all rfl) [hk3, g16]
      refine G_brd (fun d3 => ?_) (fun d3 => ?_)
      · have hjl : j < held.length := by omega
        have hsuc := anyN_succ (fun j => decide (held[j]? = some n)) j
        have he : held[j]? = some held[j] := List.getElem?_eq_getElem hjl
        obtain ⟨x, hx⟩ : ∃ x, x = held[j] := ⟨_, rfl⟩
        rw [← hx] at he
        simp only [he, Option.some.injEq] at hsuc
        cases c6 : anyN (fun j => decide (held[j]? = some n)) 0 j <;> rw [c6] at g14 hsuc <;>
        (simp (disch := first | omega | with_unfolding_all rfl) [hk3, g16, g14, d3, ← hx]
         exact ⟨j + 1, by omega, by omega, by omega, by rw [hsuc]; simp⟩)
      · have hjl : j = held.length := by omega
        subst hjl
        have hfree : (!anyN (fun j => decide (held[j]? = some n)) 0 held.length) = freeS r ls held s := by
          rw [hfs]
          congr 1
          rw [Bool.eq_iff_iff, decide_eq_true_eq]
          constructor
          · intro q
            obtain ⟨j, _, _, q⟩ := anyN_of q
            exact List.mem_of_getElem? (of_decide_eq_true q)
          · intro q
            obtain ⟨j, hj, q⟩ := List.getElem_of_mem q
            exact anyN_t (Nat.zero_le _) hj (by simp [hj, q])
        rw [hfree] at g14
        have hask : askS s = (decide (s.k = 1) || decide (s.k = 3)) := rfl
        cases c3 : askS s
        case false =>
          rw [c3] at hsc hask
          have k1 : ¬ s.k = 1 := fun q => by simp [q] at hask
          have k3 : ¬ s.k = 3 := fun q => by simp [q] at hask
          simp only [Bool.not_false, Bool.true_or, Bool.and_true] at hsc
          cases c2 : freeS r ls held s <;> rw [c2] at g14 hsc <;>
          (simp (disch := first | omega | with_unfolding_all rfl) [hk3, g16, g14, d3, ← hs, k1, k3]
           rw [G_unroll]
           simp (disch := first | omega | with_unfolding_all rfl) [hk3, g16, g14, d3, ← hs, k1, k3]
           first
             | exact ⟨i + 1, by omega, by omega, by omega, by rw [hsc, set_same hst]; exact g11b, by rw [hsc, set_same hst]⟩
             | exact ⟨i + 1, by omega, by omega, by omega, by rw [hsc, ctT_set hsi?]; omega, by rw [hsc]⟩)
        case true =>
          rw [c3] at hsc hask
          simp only [Bool.not_true, Bool.false_or] at hsc
          have k13 : s.k = 1 ∨ (¬ s.k = 1 ∧ s.k = 3) := by
            by_cases q : s.k = 1
            · exact .inl q
            · exact .inr ⟨q, by simp [q] at hask; exact hask⟩
          rcases k13 with k1 | ⟨k1, k3⟩
          all_goals
            first
              | simp (disch := first | omega | with_unfolding_all rfl) [hk3, g16, g14, d3, ← hs, k1, k3]
              | simp (disch := first | omega | with_unfolding_all rfl) [hk3, g16, g14, d3, ← hs, k1]
            refine G_loopK [1, 2, 3, 9, 10, 11, 12, 13, 14, 15] (fun (j : Nat) e h => j ≤ ls.length ∧ get e 19 = .int .i64 (j : Int) ∧ get e 17 = .bool (anyN (lvB r ls s n) 0 j) ∧ get e 18 = .bool (anyN (lgB r ls s n si) 0 j) ∧ h = [bk 4 0 si]) (fun j => ls.length - j) (a₀ := 0) ⟨by omega, by simp, by simp [anyN], by simp [anyN], rfl⟩ ?_
            rintro j e4 h4 hk4 ⟨hj, g19, g17, g18, rfl⟩
            simp at hk4
            simp (disch := first | omega | with_unfolding_all rfl) [hk4, g19]
            refine G_brd (fun d4 => ?_) (fun d4 => ?_)
            · have hjl : j < ls.length := by omega
              obtain ⟨t, ht⟩ : ∃ t, t = ls[j] := ⟨_, rfl⟩
              have htm : t ∈ ls := by rw [ht]; exact List.getElem_mem hjl
              have hlt := lie_lt (v.ly t htm)
              obtain ⟨z, hz⟩ : ∃ z : Nat, t.t * 6 + t.p = (z : Int) := ⟨(t.t * 6 + t.p).toNat, by omega⟩
              have hzl : z < out.length := by omega
              have hzo : out[z] = ofS r ls t := by
                have e1 := (numsR_eq v hR (j := z) (by omega)).1
                have e3 : to8 z = (8 * t.t + t.p).toNat := by unfold to8; omega
                rw [e3, List.getElem?_eq_getElem hzl, List.getElem?_eq_getElem (by omega)] at e1
                unfold ofS
                rw [List.getD_eq_getElem?_getD, List.getElem?_eq_getElem (by omega)]
                exact Option.some.inj e1
              have hsu1 := anyN_succ (lvB r ls s n) j
              have hsu2 := anyN_succ (lgB r ls s n si) j
              have hlv : lvB r ls s n j = lvS r ls s n t := by unfold lvB; rw [List.getElem?_eq_getElem hjl, ht]
              have hsj := getD_at (sh := si) (i := j) (by omega)
              have hlg : lgB r ls s n si j = (lvS r ls s n t && si[j]) := by unfold lgB; rw [hlv, hsj]
              rw [hlv] at hsu1
              rw [hlg] at hsu2
              have hlvd : lvS r ls s n t = ((decide (t.k = 2) || decide (t.k = 3)) && (decide (ofS r ls t = n) && (!decide (t.t = s.t) || !decide (t.p = s.p)))) := rfl
              have hkk : (decide (t.k = 2) = false ∧ decide (t.k = 3) = false) ∨ (decide (t.k = 2) = true) ∨ (decide (t.k = 2) = false ∧ decide (t.k = 3) = true) := by
                cases decide (t.k = 2) <;> cases decide (t.k = 3) <;> simp
              have hrr : (decide (ofS r ls t = n) = false) ∨ (decide (ofS r ls t = n) = true ∧ decide (t.t = s.t) = true ∧ decide (t.p = s.p) = true) ∨ (decide (ofS r ls t = n) = true ∧ decide (t.t = s.t) = false) ∨ (decide (ofS r ls t = n) = true ∧ decide (t.t = s.t) = true ∧ decide (t.p = s.p) = false) := by
                cases decide (ofS r ls t = n) <;> cases decide (t.t = s.t) <;> cases decide (t.p = s.p) <;> simp
              rcases hkk with hkk | hkk | hkk
              · rw [hlvd, hkk.1, hkk.2] at hsu1 hsu2
                simp only [Bool.and_false, Bool.and_true, Bool.or_false, Bool.or_true, Bool.false_and, Bool.true_and, Bool.false_or, Bool.true_or] at hsu1 hsu2
                simp (disch := first | omega | with_unfolding_all rfl) [hk4, g19, g17, g18, d4, ← ht, hkk]
                exact ⟨j + 1, by omega, by omega, by omega, hsu1.symm, hsu2.symm⟩
              all_goals
                rcases hrr with hrr | hrr | hrr | hrr <;> simp only [hkk, hrr, Bool.and_false, Bool.and_true, Bool.or_false, Bool.or_true, Bool.false_and, Bool.true_and, Bool.false_or, Bool.true_or, Bool.not_false, Bool.not_true] at hlvd <;> rw [hlvd] at hsu1 hsu2 <;> simp only [Bool.and_false, Bool.and_true, Bool.or_false, Bool.or_true, Bool.false_and, Bool.true_and, Bool.false_or, Bool.true_or] at hsu1 hsu2
                · simp (disch := first | omega | with_unfolding_all rfl) [hk4, g19, g17, g18, d4, ← hs, ← ht, hz, hzo, hkk, hrr]
                  exact ⟨j + 1, by omega, by omega, by omega, hsu1.symm, hsu2.symm⟩
                · simp (disch := first | omega | with_unfolding_all rfl) [hk4, g19, g17, g18, d4, ← hs, ← ht, hz, hzo, hkk, hrr]
                  exact ⟨j + 1, by omega, by omega, by omega, hsu1.symm, hsu2.symm⟩
                · cases b2 : anyN (lgB r ls s n si) 0 j <;> rw [b2] at g18 hsu2 <;>
                  (simp (disch := first | omega | with_unfolding_all rfl) [hk4, g19, g17, g18, d4, ← hs, ← ht, hz, hzo, hkk, hrr]
                   exact ⟨j + 1, by omega, by omega, by omega, hsu1, by rw [hsu2]; simp⟩)
                · cases b2 : anyN (lgB r ls s n si) 0 j <;> rw [b2] at g18 hsu2 <;>
                  (simp (disch := first | omega | with_unfolding_all rfl) [hk4, g19, g17, g18, d4, ← hs, ← ht, hz, hzo, hkk, hrr]
                   exact ⟨j + 1, by omega, by omega, by omega, hsu1, by rw [hsu2]; simp⟩)
            · have hjl : j = ls.length := by omega
              subst hjl
              have hop := opB_eq r ls si s n
              cases c2 : freeS r ls held s <;> rw [c2] at hk4 hsc <;>
              cases b1 : anyN (lvB r ls s n) 0 ls.length <;> rw [b1] at g17 hop <;>
              cases b2 : anyN (lgB r ls s n si) 0 ls.length <;> rw [b2] at g18 hop <;> rw [hop] at hsc <;>
              simp only [Bool.and_false, Bool.and_true, Bool.or_false, Bool.or_true, Bool.false_and, Bool.true_and, Bool.false_or, Bool.true_or, Bool.not_false, Bool.not_true] at hsc <;>
              (simp (disch := first | omega | with_unfolding_all rfl) [hk4, g19, g17, g18, d4, ← hs]
               rw [G_unroll]
               simp (disch := first | omega | with_unfolding_all rfl) [hk4, g19, g17, g18, d4, ← hs]
               first
                 | exact ⟨i + 1, by omega, by omega, by omega, by rw [hsc, set_same hst]; exact g11b, by rw [hsc, set_same hst]⟩
                 | exact ⟨i + 1, by omega, by omega, by omega, by rw [hsc, ctT_set hsi?]; omega, by rw [hsc]⟩)
    · have hil : i = ls.length := by omega
      subst hil
      simp (disch := first | omega | with_unfolding_all rfl) [hk2, g12, d]
      obtain ⟨hm1, hm2⟩ := passS_ct (goB r ls held) sh ls.length
      rw [← hsi] at hm1 hm2
      have hcl := ctT_le si
      by_cases c : ctT sh < ctT si
      · rw [decide_eq_true c] at g11b
        refine ⟨si, .inr ⟨by omega, hsil, g11b, rfl, fun t ht => hT t (.go (fun q => ?_) (by rw [← hsi]; exact ht))⟩⟩
        rw [← hsi] at q
        rw [q] at c
        omega
      · rw [decide_eq_false c] at g11b
        have e := hm2 (by omega)
        refine ⟨si, .inl ⟨by rw [e]; omega, hsil, g11b, rfl, fun t ht => hT t (by rw [← e]; exact ht), ?_⟩⟩
        rw [e, ← hsi, e])
  exact ⟨t, h1, h2⟩
end Go.Proofs.Ytfocelelbcepnaa
end

section
set_option linter.unusedVariables false
set_option linter.unusedSimpArgs false
set_option maxHeartbeats 8000000
set_option maxRecDepth 20000
namespace Go.Proofs.Ytfocelelbcepnaa
open Go.Proofs.Ytfocelelbcepnaa.PM

theorem sameBools_ok {n1 n2 : Nl} (xs : List Bool) (h : xs.length ≤ 100000) : R tb 48 [lst n1 xs, lst n2 xs] = some (.bool true) := by
  refine R_of_G (F := pf48) rfl rfl rfl ?_
  simp (disch := first | omega | with_unfolding_all rfl) [pf48, env0_eq]
  refine G_loopK [0, 1] (fun (i : Nat) e h => i ≤ xs.length ∧ get e 5 = .int .i64 (i : Int) ∧ h = []) (fun i => xs.length - i) (a₀ := 0) ⟨by omega, by simp, rfl⟩ ?_
  rintro i e h hk ⟨hi, g5, rfl⟩
  simp at hk
  simp (disch := first | omega | with_unfolding_all rfl) [hk, g5]
  refine G_brd (fun d => ?_) (fun d => ?_)
  · simp (disch := first | omega | with_unfolding_all rfl) [hk, g5, d]
    exact ⟨i + 1, by omega, by omega, by omega⟩
  · simp (disch := first | omega | with_unfolding_all rfl) [hk, g5, d]
theorem law14_ok (r : Rl) (ls : List Sg) (held : List Int) : R tb 14 [vR r, lst .any ls, lst .any held] = some (.bool true) := by
  have h16 := far_ok r .any ls
  refine R_of_G (F := pf14) rfl rfl rfl ?_
  cases hf : farB r ls
  case true => simp (disch := first | omega | with_unfolding_all rfl) [pf14, env0_eq, h16, hf, known_ok]
  obtain ⟨f1, f2, f3⟩ := not_far hf
  by_cases hh : 300 < (held.length : Int)
  · simp (disch := first | omega | with_unfolding_all rfl) [pf14, env0_eq, h16, hf, known_ok, hh]
  by_cases h : valErr r ls = 0
  case neg =>
    have h46 := refShowsE_ok (r := r) (ls := ls) (n1 := .any) (n2 := .any) (held := held) (by omega) (by omega) h
    have h47 := showsE_ok (r := r) (ls := ls) (n1 := .any) (n2 := .any) (held := held) (by omega) (by omega) h
    have hnil : R tb 48 [.list .nil 1 [], .list .nil 1 []] = some (.bool true) := R_of (n := 60) (by kernel_rfl)
    simp (disch := first | omega | with_unfolding_all rfl) [pf14, env0_eq, h16, hf, hh, h46, h47, hnil, known_ok]
  obtain ⟨t, h46, ht⟩ := refShows_ok (r := r) (ls := ls) (n1 := .any) (n2 := .any) (held := held) (by omega) (by omega) (by omega) h
  obtain ⟨t', h47, ht'⟩ := shows_ok (r := r) (ls := ls) (n1 := .any) (n2 := .any) (held := held) (by omega) (by omega) (by omega) h
  obtain rfl := Till.uniq ht ht'
  have hlen : t.length = ls.length := by rw [Till.len ht]; simp
  have h48 := sameBools_ok (n1 := .any) (n2 := .any) t (by omega)
  simp (disch := first | omega | with_unfolding_all rfl) [pf14, env0_eq, h16, hf, hh, h46, h47, h48, known_ok]
theorem evApp_ex_lstI {nl : Nl} {H : Hp} {ys : List Int} (hs : ys.length ≤ 3000) : evApp 3 1 8 (.list .ex 1 []) (lst nl ys) H = if ys = [] then some (.list .ex 1 [], H) else some (mls Int H.length 1 ys.length, H ++ [bk 3 1 ys]) := by
  have hx := srcOf_lst (nl := nl) (xs := ys) (H := H) 1
  rw [if_pos (show 1 = Enc.sz Int from rfl)] at hx
  split
  · rename_i h
    subst h
    exact evApp_nil (xs := ([] : List Int)) (nl := .ex) hx
  · rename_i h
    have := evApp_lst (e := 3) (s := 1) (bytes := 8) (x := lst nl ys) (xs := ([] : List Int)) (nl := .ex) (ys := ys) (H := H) rfl (.inr rfl) hx h (by simp; omega)
    exact (by simpa using this : evApp 3 1 8 (lst .ex ([] : List Int)) (lst nl ys) H = some (mls Int H.length 1 ys.length, H ++ [bk 3 1 ys]))
theorem evApp_ex_nilI {nl : Nl} {H : Hp} : evApp 3 1 8 (.list .ex 1 []) (lst nl ([] : List Int)) H = some (.list .ex 1 [], H) := by
  rw [evApp_ex_lstI (by simp), if_pos rfl]
theorem law15_ok (r : Rl) (ls : List Sg) (held more : List Int) : R tb 15 [vR r, lst .any ls, lst .any held, lst .any more] = some (.bool true) := by
  have h16 := far_ok r .any ls
  refine R_of_G (F := pf15) rfl rfl rfl ?_
  cases hf : farB r ls
  case true => simp (disch := first | omega | with_unfolding_all rfl) [pf15, env0_eq, h16, hf, known_ok]
  obtain ⟨f1, f2, f3⟩ := not_far hf
  by_cases hh : 300 < (held.length : Int)
  · simp (disch := first | omega | with_unfolding_all rfl) [pf15, env0_eq, h16, hf, known_ok, hh]
  by_cases hm : 300 < (more.length : Int)
  · simp (disch := first | omega | with_unfolding_all rfl) [pf15, env0_eq, h16, hf, known_ok, hh, hm]
  have happ : (held ++ more).length = held.length + more.length := by simp
  have key : ∃ na t t2 er, R tb 47 [vR r, lst .any ls, lst .any held] = some (.tup [lst na t, .int .i64 er]) ∧ R tb 47 [vR r, lst .any ls, lst .ex (held ++ more)] = some (.tup [lst na t2, .int .i64 er]) ∧
      R tb 47 [vR r, lst .any ls, lst .bor (held ++ more)] = some (.tup [lst na t2, .int .i64 er]) ∧ t2.length = t.length ∧ t.length ≤ 1000 ∧ leB t2 t := by
    by_cases h : valErr r ls = 0
    · obtain ⟨t, h1, ht⟩ := shows_ok (r := r) (ls := ls) (n1 := .any) (n2 := .any) (held := held) (by omega) (by omega) (by omega) h
      obtain ⟨t2, h2, ht2⟩ := shows_ok (r := r) (ls := ls) (n1 := .any) (n2 := .ex) (held := held ++ more) (by omega) (by omega) (by omega) h
      obtain ⟨t3, h3, ht3⟩ := shows_ok (r := r) (ls := ls) (n1 := .any) (n2 := .bor) (held := held ++ more) (by omega) (by omega) (by omega) h
      obtain rfl := Till.uniq ht2 ht3
      have l1 : t.length = ls.length := by rw [Till.len ht]; simp
      have l2 : t2.length = ls.length := by rw [Till.len ht2]; simp
      exact ⟨.any, t, t2, 0, h1, h2, h3, by omega, by omega, shows_less ht ht2⟩
    · exact ⟨.nil, [], [], valErr r ls, showsE_ok (by omega) (by omega) h, showsE_ok (by omega) (by omega) h, showsE_ok (by omega) (by omega) h, rfl, by simp, fun i hi => hi⟩
  obtain ⟨na, t, t2, er, h1, h2, h3, hl, hl2, hle⟩ := key
  by_cases e1 : held = [] <;> by_cases e2 : more = [] <;> (try simp only [e1, List.nil_append, List.append_nil] at h1 h2 h3) <;> (try simp only [e2, List.nil_append, List.append_nil] at h2 h3) <;> simp (disch := first | omega | with_unfolding_all rfl) [pf15, env0_eq, h16, hf, hh, hm, h1, e1, e2]
  all_goals
    have q1 : more.length ≤ 3000 := by omega
    have q2 : held.length ≤ 3000 := by omega
    refine G_reg_chk ?_ ?_
    · refine (all_cons_ck (ckOne_of rfl ?_) (all_cons_ck (ckOne_of rfl ?_) (all_cons_ck (ckOne_of rfl ?_) (all_cons_ck (ckOne_of rfl ?_) all_nil_ck))))
      all_goals simp (disch := first | omega | with_unfolding_all rfl) [evApp_ex_lstI, evApp_ex_nilI, e1, e2]
    have hll : (t.length : Int) = t2.length := by omega
    try have h2n : R tb 47 [vR r, lst .any ls, .list .ex 1 []] = some (.tup [lst na t2, .int .i64 er]) := h2
    first
      | simp (disch := first | omega | with_unfolding_all rfl) [evApp_ex_lstI, evApp_ex_nilI, e1, e2, h2, h3, h2n, hll]
      | simp (disch := first | omega | with_unfolding_all rfl) [evApp_ex_lstI, evApp_ex_nilI, e1, e2, h2, h3, hll]
    refine G_loopK [9, 11] (fun (i : Nat) e h => i ≤ t.length ∧ get e 13 = .int .i64 (i : Int)) (fun i => t.length - i) (a₀ := 0) ⟨by omega, by simp⟩ ?_
    rintro i e h hk ⟨hi, g13⟩
    simp at hk
    simp (disch := first | omega | with_unfolding_all rfl) [hk, g13]
    refine G_brd (fun d => ?_) (fun d => ?_)
    · have hle' := hle i
      rw [getD_at (by omega), getD_at (by omega)] at hle'
      cases c1 : t2[i]
      · simp (disch := first | omega | with_unfolding_all rfl) [hk, g13, d, c1]
        exact ⟨i + 1, by omega, by omega, by omega⟩
      · have c2 := hle' c1
        simp (disch := first | omega | with_unfolding_all rfl) [hk, g13, d, c1, c2]
        exact ⟨i + 1, by omega, by omega, by omega⟩
    · simp (disch := first | omega | with_unfolding_all rfl) [hk, g13, d, known_ok]
end Go.Proofs.Ytfocelelbcepnaa
end
