/- Blocks: a signal more splits at most one block: the law. -/
import Derived.Test.YtfocelelbcepnaaBlockSplit2
set_option linter.unusedVariables false
set_option linter.unusedSimpArgs false
set_option maxHeartbeats 8000000
set_option maxRecDepth 20000
namespace Go.Proofs.Ytfocelelbcepnaa
open Go.Proofs.Ytfocelelbcepnaa.PM

/-- The pieces that were gone through. -/
def Dn (a : List Pt) (i k p : Nat) : Prop := ∃ i' k', (i' < i ∨ i' = i ∧ k' < k) ∧ ∃ x, a[i']? = some x ∧ x.p[k']? = some (p : Int)
theorem dn_all {of : List Int} (h : Nm of) {p : Nat} (hp : p < of.length) (h0 : 0 ≤ of.getD p 0) : Dn (prt8 of of.length) (prt8 of of.length).length 0 p := by
  obtain ⟨m, h1, h2, h3⟩ := (h.nm p hp).resolve_left (by omega)
  obtain ⟨x, hx, e⟩ := ((prt8_ok h of.length (Nat.le_refl _)).2 (m : Int)).2 ⟨m, by omega, h3, rfl⟩
  have hpp := prt8_pcs h of.length (Nat.le_refl _) x hx
  obtain ⟨i, hi, rfl⟩ := List.getElem_of_mem hx
  have hm : p ∈ pcs of of.length ((prt8 of of.length)[i]).n := by
    unfold pcs
    rw [List.mem_filter, List.mem_range, decide_eq_true_eq]
    exact ⟨hp, by omega⟩
  obtain ⟨k, hk, ek⟩ := List.getElem_of_mem hm
  refine ⟨i, k, .inl hi, _, List.getElem?_eq_getElem hi, ?_⟩
  rw [hpp]
  simp [ic, List.getElem?_eq_getElem hk, ek]
/-- How the first list of numbers stands. -/
def SpA (of : List Int) (a : List Pt) (i k : Nat) (h : Hp) : Prop := ∃ arr : List Int, h = [bk 3 0 arr] ∧ arr.length = of.length ∧ ∀ p, p < of.length → Dn a i k p → arr[p]? = some (of.getD p 0)
theorem law10_ok (r : Rl) (ls : List Sg) (s : Sg) : R tb 10 [vR r, lst .any ls, vS s] = some (.bool true) := by
  have h16 := far_ok r .any ls
  refine R_of_G (F := pf10) rfl rfl rfl ?_
  cases hf : farB r ls
  case true => simp (disch := first | omega | with_unfolding_all rfl) [pf10, env0_eq, h16, hf, known_ok]
  obtain ⟨f1, f2, f3⟩ := not_far hf
  have h32 := put_ok r (nl := .any) (by simp) ls s (by omega) (by omega)
  by_cases h : putE r ls s = 0
  case neg =>
    rw [if_neg h] at h32
    simp (disch := first | omega | with_unfolding_all rfl) [pf10, env0_eq, h16, hf, h32, h, known_ok]
  rw [if_pos h] at h32
  have h0 : valErr r ls = 0 := by
    unfold putE at h
    split at h
    · assumption
    · exact h
  have v := vd_of h0
  have v' := put_vd h
  have h0' := val_of_vd v' (val0 h0)
  have hpl := v'.le
  have h21a := blocks_ok r .any ls (by omega) (by omega)
  have h21b := blocks_ok r .any (putL ls s) (by omega) (by omega)
  rw [if_pos h0] at h21a
  rw [if_pos h0'] at h21b
  obtain ⟨p1, p2⟩ := put_blks h v
  have hs := fun (i j : Nat) (hi : i < 8 * r.s.length) (hj : j < 8 * r.s.length) (n : Int) => @put_same r ls s h v i j hi hj n
  have la := num_len v
  have lb := num_len v'
  have na := nums_nm v.g (nums_is v)
  have oa := okp_of na
  have ob := okp_of (nums_nm v'.g (nums_is v'))
  have hda := fun p => dn_all (p := p) na
  have hba := blks_le (by omega) h0
  have hbb := blks_le (by omega) h0'
  rw [show prt8 (numL r ls) (numL r ls).length = blks r ls from rfl] at oa hda
  rw [show prt8 (numL r (putL ls s)) (numL r (putL ls s)).length = blks r (putL ls s) from rfl] at ob
  obtain ⟨a, ha⟩ : ∃ a, a = blks r ls := ⟨_, rfl⟩
  obtain ⟨b, hb⟩ : ∃ b, b = blks r (putL ls s) := ⟨_, rfl⟩
  obtain ⟨of, hof⟩ : ∃ of, of = numL r ls := ⟨_, rfl⟩
  obtain ⟨of', hof'⟩ : ∃ of', of' = numL r (putL ls s) := ⟨_, rfl⟩
  rw [← ha] at h21a p1 p2 oa hda hba
  rw [← hb] at h21b p1 p2 ob hbb
  rw [← hof] at oa hda hs la
  rw [← hof'] at hs ob lb
  obtain ⟨more, hmore⟩ : ∃ more, more = putL ls s := ⟨_, rfl⟩
  rw [← hmore] at h32 h21b
  have q1 : ¬ (b.length : Int) < a.length := by omega
  have q2 : ¬ (a.length : Int) + 1 < b.length := by omega
  have q1' : ¬ b.length < a.length := by omega
  have l8 : (8 * (r.s.length : Int)).toNat = of.length := by omega
  simp (disch := first | omega | with_unfolding_all rfl) [pf10, env0_eq, h16, hf, h32, h21a, h21b, q1, q2, q1', l8]
  refine G_loopK [9, 11, 13] (fun (i : Nat) e h => i ≤ a.length ∧ get e 14 = .int .i64 (i : Int) ∧ SpA of a i 0 h) (fun i => a.length - i) (a₀ := 0) ?_ ?_
  · refine ⟨by omega, by simp, _, rfl, by simp, fun p hp hd => ?_⟩
    obtain ⟨i', k', c, _⟩ := hd; omega
  rintro i e hh hk ⟨hi, g14, hA⟩
  simp at hk
  simp (disch := first | omega | with_unfolding_all rfl) [hk, g14]
  refine G_brd (fun c => ?_) (fun c => ?_)
  · have hin : i < a.length := by omega
    obtain ⟨x, hx⟩ : ∃ x, x = a[i] := ⟨_, rfl⟩
    have hxm : x ∈ a := by rw [hx]; exact List.getElem_mem hin
    have hxl := hba.2 x hxm
    simp (disch := first | omega | with_unfolding_all rfl) [hk, g14, c]
    refine G_loopK [9, 11, 13, 14] (fun (k : Nat) e h => k ≤ x.p.length ∧ get e 15 = .int .i64 (k : Int) ∧ SpA of a i k h) (fun k => x.p.length - k) (a₀ := 0) ⟨by omega, by simp, hA⟩ ?_
    rintro k e2 h2 hk2 ⟨hkl, g15, arr, rfl, hal, hdn⟩
    simp at hk2
    simp (disch := first | omega | with_unfolding_all rfl) [hk2, g15, ← hx]
    refine G_brd (fun d => ?_) (fun d => ?_)
    · have hkn : k < x.p.length := by omega
      obtain ⟨q, e1, e2', e3, e4⟩ := oa.pc x hxm k hkn
      have e5 : ∀ z, x.p[k]'z = (q : Int) := fun _ => e1
      have hq0 : (0 : Int) ≤ (q : Int) := by omega
      have hqn : q < 8 * r.s.length := by omega
      simp (disch := first | omega | with_unfolding_all rfl) [hk2, g15, d, ← hx, e5, hq0, e2']
      refine ⟨k + 1, by omega, by omega, by omega, arr.set q x.n, rfl, by simp [hal], fun p hp hd => ?_⟩
      by_cases eq : q = p
      · subst eq
        rw [List.getElem?_set_self (by omega), e3]
      · rw [List.getElem?_set_ne eq]
        refine hdn p hp ?_
        obtain ⟨i', k', c1, y, c2, c3⟩ := hd
        refine ⟨i', k', ?_, y, c2, c3⟩
        by_cases ee : i' = i ∧ k' = k
        · obtain ⟨rfl, rfl⟩ := ee
          rw [List.getElem?_eq_getElem hin, ← hx, Option.some.injEq] at c2
          subst c2
          rw [List.getElem?_eq_getElem hkn, e1, Option.some.injEq] at c3
          omega
        · omega
    · have hkn : k = x.p.length := by omega
      simp (disch := first | omega | with_unfolding_all rfl) [hk2, g15, d]
      refine ⟨i + 1, by omega, by omega, by omega, arr, rfl, hal, fun p hp hd => hdn p hp ?_⟩
      obtain ⟨i', k', c1, y, c2, c3⟩ := hd
      refine ⟨i', k', ?_, y, c2, c3⟩
      by_cases ee : i' = i
      · subst ee
        rw [List.getElem?_eq_getElem hin, ← hx, Option.some.injEq] at c2
        subst c2
        have := (List.getElem?_eq_some_iff.1 c3).1
        omega
      · omega
  · have hia : i = a.length := by omega
    obtain ⟨arr, rfl, hal, hdn⟩ := hA
    rw [hia] at hdn
    have hfin : ∀ p, p < of.length → 0 ≤ of.getD p 0 → arr[p]? = some (of.getD p 0) := fun p hp h0 => hdn p hp (hda p hp h0)
    simp (disch := first | omega | with_unfolding_all rfl) [hk, g14, c]
    refine G_loopK [11, 13] (fun (i : Nat) e h => i ≤ b.length ∧ get e 17 = .int .i64 (i : Int) ∧ h = [bk 3 0 arr]) (fun i => b.length - i) (a₀ := 0) ⟨by omega, by simp, rfl⟩ ?_
    rintro i e2 h2 hk2 ⟨hi, g17, rfl⟩
    simp at hk2
    simp (disch := first | omega | with_unfolding_all rfl) [hk2, g17]
    refine G_brd (fun c => ?_) (fun c => ?_)
    · have hin : i < b.length := by omega
      obtain ⟨x, hx⟩ : ∃ x, x = b[i] := ⟨_, rfl⟩
      have hxm : x ∈ b := by rw [hx]; exact List.getElem_mem hin
      have hxl := hbb.2 x hxm
      obtain ⟨x0, hx0⟩ := ob.ne x hxm
      obtain ⟨q, q1, q2, q3, q4⟩ := ob.pc x hxm 0 x0
      simp (disch := first | omega | with_unfolding_all rfl) [hk2, g17, c]
      refine G_loopK [11, 13, 17] (fun (k : Nat) e h => k ≤ x.p.length ∧ get e 18 = .int .i64 (k : Int) ∧ h = [bk 3 0 arr]) (fun k => x.p.length - k) (a₀ := 0) ⟨by omega, by simp, rfl⟩ ?_
      rintro k e3 h3 hk3 ⟨hkl, g18, rfl⟩
      simp at hk3
      simp (disch := first | omega | with_unfolding_all rfl) [hk3, g18, ← hx]
      refine G_brd (fun d => ?_) (fun d => ?_)
      · have hkn : k < x.p.length := by omega
        obtain ⟨p, w1, w2, w3, w4⟩ := ob.pc x hxm k hkn
        obtain ⟨z1, z2⟩ := hs p q (by omega) (by omega) x.n w4 w3 q3
        have y1 := hfin p (by omega) z2
        have y2 := hfin q (by omega) (by omega)
        have e5 : ∀ z, x.p[k]'z = (p : Int) := fun _ => w1
        have e6 : ∀ z, x.p[0]'z = (q : Int) := fun _ => q1
        obtain ⟨n, hn⟩ : ∃ n, n = of.getD p 0 := ⟨_, rfl⟩
        rw [← hn] at y1 z1 z2
        rw [← z1] at y2
        have e7 : ∀ z, arr[p]'z = n := fun z => by rw [List.getElem?_eq_getElem z, Option.some.injEq] at y1; exact y1
        have e8 : ∀ z, arr[q]'z = n := fun z => by rw [List.getElem?_eq_getElem z, Option.some.injEq] at y2; exact y2
        have u1 : ¬ (p : Int) < 0 := by omega
        have u2 : ¬ (of.length : Int) ≤ p := by omega
        have u3 : ¬ (q : Int) < 0 := by omega
        have u4 : ¬ (of.length : Int) ≤ q := by omega
        simp (disch := first | omega | with_unfolding_all rfl) [hk3, g18, d, ← hx, e5, e6, e7, e8, u1, u2, u3, u4]
        exact ⟨k + 1, by omega, by omega, by omega⟩
      · have hkn : k = x.p.length := by omega
        simp (disch := first | omega | with_unfolding_all rfl) [hk3, g18, d]
        exact ⟨i + 1, by omega, by omega, by omega⟩
    · simp (disch := first | omega | with_unfolding_all rfl) [hk2, g17, c, known_ok]
end Go.Proofs.Ytfocelelbcepnaa
