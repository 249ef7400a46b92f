/- Blocks: the numbers in the document's words. -/
import Derived.Test.YtfocelelbcepnaaBlockRefA
set_option linter.unusedVariables false
set_option linter.unusedSimpArgs false
set_option maxHeartbeats 8000000
set_option maxRecDepth 20000
namespace Go.Proofs.Ytfocelelbcepnaa
open Go.Proofs.Ytfocelelbcepnaa.PM

theorem appB_cut {e b gen n bytes : Nat} {xs : List Int} {y : Int} {H : Hp} (hn : n ≤ xs.length) (hs : (n + 1) * bytes ≤ 140737488355328) : appB Int (some ⟨e, gen, cl xs, none⟩) H b gen n e bytes [y] = some (mls Int b (gen + 1) (n + 1), H.set b (bk e (gen + 1) (xs.take n ++ [y]))) := by
  have h1 : List.take n (cl xs) = cl (xs.take n) := by
    have := take_cl xs n
    rw [sz_int, Nat.mul_one] at this
    exact this
  show _ = some (_, H.set b ⟨e, gen + 1, cl (xs.take n ++ [y]), none⟩)
  rw [cl_append]
  simp only [appB, List.length_singleton, if_pos hs, Option.bind_some, sz_int, Nat.mul_one, length_cl, and_self, true_and, if_pos hn, h1]
theorem evSlc_mls {b gen n : Nat} {k : IntKind} {i : Int} (h0 : 0 ≤ i) (h1 : i ≤ n) : evSlc 1 (mls Int b gen n) none (some (.int k i)) none = some (mls Int b gen i.toNat) := by
  have hn : ¬ i < 0 := by omega
  have hl : i.toNat ≤ n := by omega
  simp only [evSlc, mls, optIx, ixIn, sz_int, if_true, Option.bind_some, Nat.zero_add, Nat.zero_mul]
  rw [if_pos (by omega)]
  simp only [Option.bind_some, Nat.zero_le, true_and, if_pos hl, Nat.sub_zero]
theorem has_lt {p o : Int} (h : has p o = true) : 0 ≤ p ∧ p < 6 ∧ 0 ≤ o ∧ o < 4 := by
  unfold has at h
  simp at h
  obtain ⟨⟨h1, h2⟩, h3⟩ := h
  have : p = 0 ∨ p = 1 ∨ p = 2 ∨ p = 3 ∨ p = 4 ∨ p = 5 := by omega
  rcases this with rfl | rfl | rfl | rfl | rfl | rfl <;> simp [sa, sb] at h3 <;> omega
def cutAt (ls : List Sg) (i j : Nat) : Bool := (ls.take i).any fun x => decide ((x.t * 6 + x.p) * 4 + x.o = (j : Int))
theorem cutAt_succ {ls : List Sg} {i j : Nat} (h : i < ls.length) : cutAt ls (i + 1) j = (cutAt ls i j || decide ((ls[i].t * 6 + ls[i].p) * 4 + ls[i].o = (j : Int))) := by
  simp only [cutAt]
  rw [List.take_add_one, List.any_append, List.getElem?_eq_getElem h]
  simp
theorem cutAt_sgn {r : Rl} {ls : List Sg} (v : Vd r ls) {k s : Nat} (hs : s < 4) : cutAt ls ls.length (k * 4 + s) = sgn ls ((k : Int) / 6) ((k : Int) % 6) s := by
  rw [Bool.eq_iff_iff, sgn, isAt_iff v.so]
  simp only [cutAt, List.take_length, List.any_eq_true, decide_eq_true_eq]
  constructor
  · rintro ⟨x, hx, e⟩
    have h1 := has_lt (v.hs x hx)
    refine ⟨x, hx, ?_⟩
    unfold eqS
    dsimp only
    omega
  · rintro ⟨x, hx, e⟩
    refine ⟨x, hx, ?_⟩
    unfold eqS at e
    dsimp only at e
    omega
def ic (xs : List Nat) : List Int := xs.map fun (x : Nat) => (x : Int)
@[simp] theorem ic_len (xs : List Nat) : (ic xs).length = xs.length := by simp [ic]
theorem ic_get {xs : List Nat} {j : Nat} (h : j < xs.length) : (ic xs)[j]'(by simpa using h) = (xs[j] : Int) := by simp [ic]
theorem ic_take (xs : List Nat) (n y : Nat) : (ic xs).take n ++ [(y : Int)] = ic (xs.take n ++ [y]) := by simp [ic, List.map_take]
theorem ic_app (xs : List Nat) (y : Nat) : ic xs ++ [(y : Int)] = ic (xs ++ [y]) := by simp [ic]
def cnt (out : List Int) : Nat := out.countP fun x => decide (x < 0)
theorem cnt_le (out : List Int) : cnt out ≤ out.length := List.countP_le_length
theorem cnt_set {out : List Int} {x : Nat} {v w : Int} (hv : out[x]? = some v) (hv0 : v < 0) (hw : 0 ≤ w) : cnt (out.set x w) + 1 = cnt out := by
  obtain ⟨h1, h2⟩ := List.getElem?_eq_some_iff.1 hv
  have hp : 0 < cnt out := by
    unfold cnt
    rw [List.countP_pos_iff]
    exact ⟨v, List.mem_of_getElem? hv, by simpa using hv0⟩
  have hw' : ¬ w < 0 := by omega
  have := List.countP_set (p := fun x : Int => decide (x < 0)) (a := w) h1
  unfold cnt at *
  rw [this, h2]
  simp only [hv0, hw', decide_true, decide_false, if_true]
  simp
  omega
structure NumsR (r : Rl) (ls : List Sg) (M : Nat) (out : List Int) : Prop where
  len : out.length = 6 * M
  off : ∀ j, j < 6 * M → lie6 r j = false → out[j]? = some (-1)
  on : ∀ j, j < 6 * M → lie6 r j = true → ∃ m : Nat, IsNum (EE r ls) (to8 j) m ∧ out[j]? = some (m : Int)

/-- How the table stands while near pieces are marked. -/
def MkI (r : Rl) (ls : List Sg) (W H M i : Nat) (out o1 : List Int) (cut : List Bool) (nb tb tl k : Nat) (nr : List Nat) (j : Nat) (v : PV) (h : Hp) : Prop := ∃ o2 tl2 g2 tx2, v = mls Int tb g2 tl2 ∧ h.length = nb + 1 ∧ h[0]? = some (bk 3 0 o2) ∧ h[1]? = some (bk 4 0 cut) ∧ h[tb]? = some (bk 3 g2 (ic tx2)) ∧ h[nb]? = some (bk 3 nr.length (ic nr)) ∧
  tl2 ≤ tx2.length ∧ 2 * cnt o2 + tl2 + 1 ≤ 2 * cnt o1 + tl ∧ Fl r ls W H M i out o2 (fun x => x ∈ tx2.take tl2 ∨ x = k) ∧ ∀ j' x, j' < j → nr[j']? = some x → ∃ v : Int, o2[x]? = some v ∧ 0 ≤ v
/-- How the table stands while marks spread. -/
def SpI (r : Rl) (ls : List Sg) (W H M i : Nat) (out : List Int) (cut : List Bool) (a : List Int × Nat) (v : PV) (h : Hp) : Prop := ∃ tb gn tx, v = mls Int tb gn a.2 ∧ 2 ≤ tb ∧ tb < h.length ∧ h[0]? = some (bk 3 0 a.1) ∧ h[1]? = some (bk 4 0 cut) ∧ h[tb]? = some (bk 3 gn (ic tx)) ∧ a.2 ≤ tx.length ∧ 2 * cnt a.1 + a.2 ≤ 20000 ∧ Fl r ls W H M i out a.1 (fun j => j ∈ tx.take a.2)
/-- How the table stands between. -/
def OuI (r : Rl) (ls : List Sg) (M i : Nat) (cut : List Bool) (h : Hp) : Prop := 2 ≤ h.length ∧ h[1]? = some (bk 4 0 cut) ∧ ∃ out, h[0]? = some (bk 3 0 out) ∧ Oinv r ls M i out
theorem refNumbers_ok {r : Rl} {nl : Nl} {ls : List Sg} (v : Vd r ls) : ∃ out, R tb 56 [vR r, lst nl ls] = some (lst .any out) ∧ NumsR r ls r.s.length out := by
  have v0 := v
  obtain ⟨g, hs, hl, _, hly, hhs⟩ := v
  have hm := g.mul
  obtain ⟨w0, w1, h0, h1, ls1, ld1, rg⟩ := id g
  obtain ⟨W, rw1⟩ : ∃ W : Nat, r.w = W := ⟨r.w.toNat, by omega⟩
  obtain ⟨H, rh1⟩ : ∃ H : Nat, r.h = H := ⟨r.h.toNat, by omega⟩
  rw [rw1] at w0 w1
  rw [rh1] at h0 h1
  have hM : r.s.length = W * H := by
    rw [rw1, rh1] at ls1
    have : ((W : Int) * (H : Int)) = ((W * H : Nat) : Int) := by push_cast; rfl
    omega
  have hWH : r.w * r.h = (r.s.length : Int) := ls1.symm
  obtain ⟨M, hMd⟩ : ∃ M, M = r.s.length := ⟨_, rfl⟩
  rw [← hMd] at hM hWH ⊢
  have hsl : r.s.length = M := hMd.symm
  have hM1 : M ≤ 1024 := by omega
  have h4W : 4 ≤ W := by omega
  obtain ⟨v, h1', out, rfl, h2⟩ := R_ex (T := tb) (f := 56) (F := pf56) (args := [vR r, lst nl ls]) (Rq := fun v => ∃ out, v = lst .any out ∧ NumsR r ls M out) rfl rfl rfl (by
    simp (disch := first | omega | with_unfolding_all rfl) [pf56, env0_eq, rw1, rh1, hsl]
    have hn6 : (6 * (M : Int)).toNat = 6 * M := by omega
    have hn24 : (24 * (M : Int)).toNat = 24 * M := by omega
    simp only [hn6]
    refine G_loopK [1, 2, 5, 6] (fun (i : Nat) e h => i ≤ 6 * M ∧ get e 7 = .int .i64 (i : Int) ∧ ∃ out, h = [bk 3 0 out] ∧ out.length = 6 * M ∧ ∀ j, j < i → out[j]? = some (-1)) (fun i => 6 * M - i) (a₀ := 0) ⟨by omega, by simp, _, rfl, by simp, fun j hj => by omega⟩ ?_
    rintro i e h hk ⟨hi, g7, out, rfl, hlo, hsp⟩
    simp at hk
    simp (disch := first | omega | with_unfolding_all rfl) [hk, g7]
    refine G_brd (fun c => ?_) (fun c => ?_)
    · simp (disch := first | omega | with_unfolding_all rfl) [hk, g7, c]
      refine ⟨i + 1, by omega, by omega, by omega, out.set i (-1), rfl, by simp [hlo], fun j hj => ?_⟩
      by_cases e : i = j
      · subst e; exact List.getElem?_set_self (by omega)
      · rw [List.getElem?_set_ne e]; exact hsp j (by omega)
    have hi6 : i = 6 * M := by omega
    rw [hi6] at hsp
    simp (disch := first | omega | with_unfolding_all rfl) [hk, g7, c, hn24]
    refine G_loopK [1, 2, 6, 8] (fun (i : Nat) e h => i ≤ ls.length ∧ get e 9 = .int .i64 (i : Int) ∧ ∃ cut, h = [bk 3 0 out, bk 4 0 cut] ∧ cut.length = 24 * M ∧ ∀ j, j < 24 * M → cut[j]? = some (cutAt ls i j)) (fun i => ls.length - i) (a₀ := 0) ⟨by omega, by simp, _, rfl, by simp, fun j hj => by simp [cutAt, hj]⟩ ?_
    rintro i e h hk ⟨hi, g9, cut, rfl, hlc, hcu⟩
    simp at hk
    simp (disch := first | omega | with_unfolding_all rfl) [hk, g9]
    refine G_brd (fun c => ?_) (fun c => ?_)
    · have hil : i < ls.length := by omega
      obtain ⟨x, hx⟩ : ∃ x, x = ls[i] := ⟨_, rfl⟩
      have hmem : x ∈ ls := by rw [hx]; exact List.getElem_mem hil
      have hxl := lie_lt (hly x hmem)
      have hxh := has_lt (hhs x hmem)
      rw [hWH] at hxl
      obtain ⟨z, hz⟩ : ∃ z : Nat, (z : Int) = (x.t * 6 + x.p) * 4 + x.o := ⟨((x.t * 6 + x.p) * 4 + x.o).toNat, by omega⟩
      have hz24 : z < 24 * M := by omega
      simp (disch := first | omega | with_unfolding_all rfl) [hk, g9, c, ← hx, ← hz]
      refine ⟨i + 1, by omega, by omega, by omega, cut.set z true, rfl, by simp [hlc], fun j hj => ?_⟩
      rw [cutAt_succ hil, ← hx, ← hz]
      by_cases e : z = j
      · subst e; rw [List.getElem?_set_self (by omega)]; simp
      · rw [List.getElem?_set_ne e, hcu j hj]
        have : ¬ (z : Int) = (j : Int) := by omega
        simp [this]
    have hie : i = ls.length := by omega
    rw [hie] at hcu
    have hcs : ∀ k s : Nat, k < 6 * M → s < 4 → cut[k * 4 + s]? = some (sgn ls ((k : Int) / 6) ((k : Int) % 6) s) := fun k s h1 h2 => by
      rw [hcu _ (by omega), cutAt_sgn v0 h2]
    have hO0 : Oinv r ls M 0 out := ⟨hlo, fun j hj _ => hsp j hj, fun j hj _ => by
      obtain ⟨m, hm⟩ := exNum (EE r ls) (to8 j)
      refine ⟨m, hm, ?_⟩
      rw [if_neg (by simp [to8]), hsp j hj]⟩
    simp (disch := first | omega | with_unfolding_all rfl) [hk, g9, c]
    refine G_loopK [2, 6, 8] (fun (i : Nat) e h => i ≤ 6 * M ∧ get e 10 = .int .i64 (i : Int) ∧ OuI r ls M i cut h) (fun i => 6 * M - i) (a₀ := 0) ⟨by omega, by simp, by simp, rfl, out, rfl, hO0⟩ ?_
    clear hO0 hsp hlo out hcu hie
    rintro i e h hk ⟨hi, g10, hh2, hh1, out, hh0, hO⟩
    simp at hk
    have hlo := hO.len
    have hg0 : h[0] = bk 3 0 out := (List.getElem?_eq_some_iff.1 hh0).2
    have hg1 : h[1] = bk 4 0 cut := (List.getElem?_eq_some_iff.1 hh1).2
    simp (disch := first | omega | with_unfolding_all rfl) [hk, g10]
    refine G_brd (fun c => ?_) (fun c => ?_)
    · have hin : i < 6 * M := by omega
      obtain ⟨v, hv⟩ : ∃ v, v = out[i] := ⟨_, rfl⟩
      have q6 : (i : Int).tdiv 6 = (i : Int) / 6 := rfl
      have r6 : (i : Int).tmod 6 = (i : Int) % 6 := rfl
      have l1 := refLies_ok g ((i : Int) / 6) ((i : Int) % 6)
      simp only [vR, rw1, rh1] at l1
      rw [show lie r ((i : Int) / 6) ((i : Int) % 6) = lie6 r i from rfl] at l1
      have hv? : out[i]? = some v := by rw [hv, List.getElem?_eq_getElem (by omega)]
      simp (disch := first | omega | with_unfolding_all rfl) [hk, g10, c, hg0, ← hv, q6, r6, l1]
      by_cases c1 : 0 ≤ v
      · have nO := hO.skip rw1 rh1 hM h4W (.inr ⟨v, hv?, c1⟩)
        simp (disch := first | omega | with_unfolding_all rfl) [hk, g10, c1, hg0, q6, r6, l1]
        exact ⟨i + 1, by omega, by omega, by omega, hh2, hh1, out, hh0, nO⟩
      cases c2 : lie6 r i
      · have nO := hO.skip rw1 rh1 hM h4W (.inl c2)
        simp (disch := first | omega | with_unfolding_all rfl) [hk, g10, c1, c2, hg0, q6, r6, l1]
        exact ⟨i + 1, by omega, by omega, by omega, hh2, hh1, out, hh0, nO⟩
      have hown := hO.own hin c2 (by rintro ⟨v', a, b⟩; rw [hv?, Option.some.injEq] at a; omega)
      have hF := Fl.start (W := W) (H := H) hO hin c2
      have hto : (i : Int) / 6 * 8 + (i : Int) % 6 = (to8 i : Int) := by unfold to8; omega
      simp (disch := first | omega | with_unfolding_all rfl) [hk, g10, c1, c2, hg0, q6, r6, l1, hto]
      refine G_loopK [2, 6, 8, 10] (fun (a : List Int × Nat) e hh => SpI r ls W H M i out cut a (get e 11) hh) (fun a => 2 * cnt a.1 + a.2) (a₀ := (out.set i (to8 i : Int), 1)) ?_ ?_
      · refine ⟨h.length, 0, [i], by simp, by omega, by simp, ?_, ?_, by simp [ic]; rfl, by simp, ?_, ?_⟩
        · rw [List.getElem?_append_left (by simp; omega), List.getElem?_set_self (by omega)]
        · rw [List.getElem?_append_left (by simp; omega), List.getElem?_set_ne (by omega)]; exact hh1
        · have := cnt_le (out.set i (to8 i : Int))
          simp [hlo] at this
          dsimp only; omega
        · have : (fun j => j ∈ List.take 1 [i]) = fun j => j = i := by funext j; simp
          dsimp only
          rw [this]; exact hF
      rintro ⟨o1, tl⟩ e1 hh hk1 ⟨tb, gn, tx, g11, htb, htl, hb0, hb1, hbt, hlt, hms, hF1⟩
      simp at hk1
      dsimp only at hb0 hlt hms hF1 g11
      have hg0' : hh[0] = bk 3 0 o1 := (List.getElem?_eq_some_iff.1 hb0).2
      have hg1' : hh[1] = bk 4 0 cut := (List.getElem?_eq_some_iff.1 hb1).2
      have hgt' : hh[tb] = bk 3 gn (ic tx) := (List.getElem?_eq_some_iff.1 hbt).2
      simp (disch := first | omega | with_unfolding_all rfl) [hk1, g11]
      refine G_brd (fun d => ?_) (fun d => ?_)
      · have htl1 : tl - 1 < tx.length := by omega
        have hitl : (tl : Int) - 1 = ((tl - 1 : Nat) : Int) := by omega
        obtain ⟨k, hkd⟩ : ∃ k, k = tx[tl - 1] := ⟨_, rfl⟩
        have hkmem : k ∈ tx.take tl := by
          rw [List.mem_take_iff_getElem]
          exact ⟨tl - 1, by omega, hkd.symm⟩
        obtain ⟨hk6, hko⟩ := hF1.pin k hkmem
        have htk : (ic tx)[tl - 1]'(by simpa using htl1) = (k : Int) := by rw [ic_get htl1, hkd]
        have htk' : ∀ q, (ic tx)[tl - 1]'q = (k : Int) := fun _ => htk
        have icl : (ic tx).length = tx.length := by simp
        have k6 : (k : Int).tdiv 6 = (k : Int) / 6 := rfl
        have m6 : (k : Int).tmod 6 = (k : Int) % 6 := rfl
        have hsl1 : evSlc 1 (mls Int tb gn tl) none (some (.int .i64 ((tl - 1 : Nat) : Int))) none = some (mls Int tb gn (tl - 1)) := by
          rw [evSlc_mls (by omega) (by omega)]; simp
        simp (disch := first | omega | with_unfolding_all rfl) [hk1, g11, d, hitl, hgt', htk', hsl1, k6, m6]
        have hcg : ∀ B : Blk, (hh ++ [B])[hh.length]? = some B := fun B => List.getElem?_concat_length ..
        have hcst : ∀ B B' : Blk, (hh ++ [B]).set hh.length B' = hh ++ [B'] := fun B B' => by
          rw [List.set_append_right _ _ (Nat.le_refl _)]; simp
        have hc1 : ∀ B : Blk, (hh ++ [B])[1]? = some (bk 4 0 cut) := fun B => by rw [List.getElem?_append_left (by omega)]; exact hb1
        have hc1' : ∀ (B : Blk) q, (hh ++ [B])[1]'q = bk 4 0 cut := fun B q => by have := hc1 B; rw [List.getElem?_eq_getElem q, Option.some.injEq] at this; exact this
        have kr : 0 ≤ (k : Int) / 6 ∧ (k : Int) / 6 < M ∧ 0 ≤ (k : Int) % 6 ∧ (k : Int) % 6 < 6 := by omega
        refine G_loopK [2, 6, 8, 10, 11, 12, 13, 14] (fun (Q : Nat) e h => Q ≤ 6 ∧ get e 16 = .int .i64 (Q : Int) ∧ ∃ nr, get e 15 = mls Int hh.length nr.length nr.length ∧ h = hh ++ [bk 3 nr.length (ic nr)] ∧ nr.length ≤ Q ∧ ∀ x, x ∈ nr ↔ NrT r k Q x) (fun Q => 6 - Q) (a₀ := 0) ?_ ?_
        · refine ⟨by omega, by simp, [], by simp, rfl, by simp, fun x => ⟨fun q => by simp at q, fun ⟨q, h, _⟩ => by omega⟩⟩
        rintro Q e2 h2 hk2 ⟨hQ, g16, nr, g15, rfl, hnl, hnr⟩
        simp at hk2
        simp (disch := first | omega | with_unfolding_all rfl) [hk2, g15, g16]
        refine G_brd (fun d1 => ?_) (fun d1 => ?_)
        · have hQ6 : Q < 6 := by omega
          have t1 := touch_ok (p := (k : Int) % 6) (q := (Q : Int)) (by omega) (by omega)
          have l2 := refLies_ok g ((k : Int) / 6) (Q : Int)
          simp only [vR, rw1, rh1] at l2
          have nxt : (decide ((k : Int) % 6 ≠ (Q : Int)) && !prt ((k : Int) % 6) Q && lie r ((k : Int) / 6) Q) = false → ∀ x, x ∈ nr ↔ NrT r k (Q + 1) x := fun hf x => by
            rw [hnr]
            constructor
            · rintro ⟨q, a1, a2⟩; exact ⟨q, by omega, a2⟩
            · rintro ⟨q, a1, a2, a3, a4, a5, a6⟩
              by_cases eq : q = Q
              · subst eq
                have a3' : (k : Int) % 6 ≠ (q : Int) := by omega
                simp [a3', a4, a5] at hf
              · exact ⟨q, by omega, a2, a3, a4, a5, a6⟩
          have nxt2 : (decide ((k : Int) % 6 ≠ (Q : Int)) && !prt ((k : Int) % 6) Q && lie r ((k : Int) / 6) Q) = true → ∀ x, x ∈ nr ++ [k / 6 * 6 + Q] ↔ NrT r k (Q + 1) x := fun ht x => by
            simp at ht
            rw [List.mem_append, List.mem_singleton, hnr]
            constructor
            · rintro (⟨q, a1, a2⟩ | rfl)
              · exact ⟨q, by omega, a2⟩
              · exact ⟨Q, by omega, hQ6, by omega, ht.1.2, ht.2, rfl⟩
            · rintro ⟨q, a1, a2, a3, a4, a5, a6⟩
              by_cases eq : q = Q
              · subst eq; exact .inr a6
              · exact .inl ⟨q, by omega, a2, a3, a4, a5, a6⟩
          obtain ⟨b1, hb1d⟩ : ∃ b1, b1 = (decide ((k : Int) % 6 ≠ (Q : Int)) && !prt ((k : Int) % 6) Q) := ⟨_, rfl⟩
          obtain ⟨b2, hb2d⟩ : ∃ b2, b2 = lie r ((k : Int) / 6) Q := ⟨_, rfl⟩
          rw [← hb1d] at t1
          rw [← hb1d, ← hb2d] at nxt nxt2
          rw [← hb2d] at l2
          simp (disch := first | omega | with_unfolding_all rfl) [hk2, g15, g16, d1, t1]
          cases b1
          · simp (disch := first | omega | with_unfolding_all rfl) [hk2, g15, g16]
            exact ⟨Q + 1, by omega, by omega, by omega, nr, rfl, ⟨rfl, rfl⟩, by omega, nxt rfl⟩
          cases b2
          · simp (disch := first | omega | with_unfolding_all rfl) [hk2, g15, g16, l2]
            exact ⟨Q + 1, by omega, by omega, by omega, nr, rfl, ⟨rfl, rfl⟩, by omega, nxt rfl⟩
          have icn : (ic nr).length = nr.length := by simp
          have ex : (k : Int) / 6 * 6 + (Q : Int) = ((k / 6 * 6 + Q : Nat) : Int) := by omega
          simp (disch := first | omega | with_unfolding_all rfl) [hk2, g15, g16, l2, hcg, hcst]
          exact ⟨Q + 1, by omega, by omega, by omega, nr ++ [k / 6 * 6 + Q], by simp, ⟨by simp, by rw [ex, ic_app]⟩, by simp; omega, nxt2 rfl⟩
        have hQ6 : Q = 6 := by omega
        rw [hQ6] at hnr hnl
        simp (disch := first | omega | with_unfolding_all rfl) [hk2, g15, g16, d1]
        refine G_loopK [2, 6, 8, 10, 11, 12, 13, 14] (fun (S : Nat) e h => S ≤ 4 ∧ get e 17 = .int .i64 (S : Int) ∧ ∃ nr, get e 15 = mls Int hh.length nr.length nr.length ∧ h = hh ++ [bk 3 nr.length (ic nr)] ∧ nr.length ≤ 6 + 6 * S ∧ ∀ x, x ∈ nr ↔ NrT r k 6 x ∨ NrS r ls W H k S x) (fun S => 4 - S) (a₀ := 0) ?_ ?_
        · refine ⟨by omega, by simp, nr, by simp [g15], rfl, by omega, fun x => ?_⟩
          rw [hnr]
          exact ⟨.inl, fun q => q.resolve_right (by rintro ⟨s, hs, _⟩; omega)⟩
        clear hnr hnl g15
        rintro S e3 h3 hk3 ⟨hS, g17, nr, g15, rfl, hnl, hnr⟩
        simp at hk3
        simp (disch := first | omega | with_unfolding_all rfl) [hk3, g15, g17]
        refine G_brd (fun d2 => ?_) (fun d2 => ?_)
        · have hS4 : S < 4 := by omega
          have kdN : ((k / 6 : Nat) : Int) = (k : Int) / 6 := by omega
          have hbey := bey_ok (W := W) (H := H) (t := k / 6) (s := (S : Int)) (by omega) (by omega) (by rw [← hM]; omega)
          rw [kdN] at hbey
          have l3 := has_ok ((k : Int) % 6) (S : Int)
          obtain ⟨z, hz⟩ : ∃ z, z = k * 4 + S := ⟨_, rfl⟩
          have hidx : (k : Int) * 4 + (S : Int) = (z : Int) := by omega
          have hcq : ∀ q, cut[z]'q = sgn ls ((k : Int) / 6) ((k : Int) % 6) S := fun q => by
            have := hcs k S hk6 hS4
            rw [← hz] at this
            rw [List.getElem?_eq_getElem q, Option.some.injEq] at this
            exact this
          have no : ¬ (has ((k : Int) % 6) S = true ∧ sgn ls ((k : Int) / 6) ((k : Int) % 6) S = false ∧ 0 ≤ bey W H (k / 6) S) → ∀ x, x ∈ nr ↔ NrT r k 6 x ∨ NrS r ls W H k (S + 1) x := fun hno x => by
            rw [hnr]
            constructor
            · rintro (q | ⟨s, a1, a2⟩)
              · exact .inl q
              · exact .inr ⟨s, by omega, a2⟩
            · rintro (q | ⟨s, a1, a2, a3, a4, u, a5, a6⟩)
              · exact .inl q
              · by_cases es : s = S
                · subst es
                  exact absurd ⟨a3, a4, by rw [a5]; omega⟩ hno
                · exact .inr ⟨s, by omega, a2, a3, a4, u, a5, a6⟩
          obtain ⟨c1, hc1d⟩ : ∃ c1, c1 = has ((k : Int) % 6) S := ⟨_, rfl⟩
          obtain ⟨c2, hc2d⟩ : ∃ c2, c2 = sgn ls ((k : Int) / 6) ((k : Int) % 6) S := ⟨_, rfl⟩
          obtain ⟨ub, hub⟩ : ∃ ub, ub = bey W H (k / 6) S := ⟨_, rfl⟩
          rw [← hub] at hbey no
          rw [← hc1d] at l3 no
          rw [← hc2d] at hcq no
          simp (disch := first | omega | with_unfolding_all rfl) [hk3, g15, g17, d2, hbey, l3]
          cases c1
          · simp (disch := first | omega | with_unfolding_all rfl) [hk3, g15, g17]
            exact ⟨S + 1, by omega, by omega, by omega, nr, rfl, ⟨rfl, rfl⟩, by omega, no (by simp)⟩
          simp (disch := first | omega | with_unfolding_all rfl) [hk3, g15, g17, hc1, hc1', hidx, hcq]
          cases c2
          case true =>
            simp (disch := first | omega | with_unfolding_all rfl) [hk3, g15, g17]
            exact ⟨S + 1, by omega, by omega, by omega, nr, rfl, ⟨rfl, rfl⟩, by omega, no (by simp)⟩
          by_cases c3 : ub < 0
          · simp (disch := first | omega | with_unfolding_all rfl) [hk3, g15, g17, c3]
            exact ⟨S + 1, by omega, by omega, by omega, nr, rfl, ⟨rfl, rfl⟩, by omega, no (by simp; omega)⟩
          obtain ⟨u, rfl⟩ : ∃ u : Nat, ub = u := ⟨ub.toNat, by omega⟩
          simp (disch := first | omega | with_unfolding_all rfl) [hk3, g15, g17, c3]
          have yes : has ((k : Int) % 6) S = true ∧ sgn ls ((k : Int) / 6) ((k : Int) % 6) S = false := ⟨hc1d.symm, hc2d.symm⟩
          refine G_loopK [2, 6, 8, 10, 11, 12, 13, 14, 17, 18] (fun (Q : Nat) e h => Q ≤ 6 ∧ get e 19 = .int .i64 (Q : Int) ∧ ∃ nr, get e 15 = mls Int hh.length nr.length nr.length ∧ h = hh ++ [bk 3 nr.length (ic nr)] ∧ nr.length ≤ 6 + 6 * S + Q ∧ ∀ x, x ∈ nr ↔ (NrT r k 6 x ∨ NrS r ls W H k S x) ∨ NrQ r ls W H k S Q x) (fun Q => 6 - Q) (a₀ := 0) ?_ ?_
          · refine ⟨by omega, by simp, nr, by simp [g15], rfl, by omega, fun x => ?_⟩
            rw [hnr]
            exact ⟨.inl, fun q => q.resolve_right (by rintro ⟨_, _, u', _, q, hq, _⟩; omega)⟩
          clear hnr hnl g15
          rintro Q e4 h4 hk4 ⟨hQ, g19, nr, g15, rfl, hnl, hnr⟩
          simp at hk4
          simp (disch := first | omega | with_unfolding_all rfl) [hk4, g15, g19]
          refine G_brd (fun d3 => ?_) (fun d3 => ?_)
          · have hQ6 : Q < 6 := by omega
            have f1 := refLies_ok g (u : Int) (Q : Int)
            simp only [vR, rw1, rh1] at f1
            have f2 := has_ok (Q : Int) (((S : Int) + 2).tmod 4)
            obtain ⟨s2, hs2⟩ : ∃ s2 : Nat, (s2 : Int) = ((S : Int) + 2).tmod 4 := ⟨(S + 2) % 4, rfl⟩
            rw [← hs2] at f2
            have hs24 : s2 < 4 := by have := Nat.mod_lt (S + 2) (show 0 < 4 by omega); have : (s2 : Int) = ((S + 2) % 4 : Nat) := hs2; omega
            have noQ : (lie r u Q && has Q s2 && !sgn ls u Q s2) = false → ∀ x, x ∈ nr ↔ (NrT r k 6 x ∨ NrS r ls W H k S x) ∨ NrQ r ls W H k S (Q + 1) x := fun hf x => by
              rw [hnr]
              constructor
              · rintro (q | ⟨a1, a2, u', a3, q, a4, a5⟩)
                · exact .inl q
                · exact .inr ⟨a1, a2, u', a3, q, by omega, a5⟩
              · rintro (q | ⟨a1, a2, u', a3, q, a4, a5, a6, a7, a8, a9⟩)
                · exact .inl q
                · have hu' : u' = u := by omega
                  by_cases eq : q = Q
                  · subst eq hu'
                    rw [← hs2] at a7 a8
                    simp [a6, a7, a8] at hf
                  · exact .inr ⟨a1, a2, u', a3, q, by omega, a5, a6, a7, a8, a9⟩
            have yesQ : (lie r u Q && has Q s2 && !sgn ls u Q s2) = true → ∀ x, x ∈ nr ++ [u * 6 + Q] ↔ (NrT r k 6 x ∨ NrS r ls W H k S x) ∨ NrQ r ls W H k S (Q + 1) x := fun ht x => by
              simp at ht
              rw [List.mem_append, List.mem_singleton, hnr]
              constructor
              · rintro ((q | ⟨a1, a2, u', a3, q, a4, a5⟩) | rfl)
                · exact .inl q
                · exact .inr ⟨a1, a2, u', a3, q, by omega, a5⟩
                · exact .inr ⟨yes.1, yes.2, u, hub.symm, Q, by omega, hQ6, ht.1.1, by rw [← hs2]; exact ht.1.2, by rw [← hs2]; exact ht.2, rfl⟩
              · rintro (q | ⟨a1, a2, u', a3, q, a4, a5, a6, a7, a8, a9⟩)
                · exact .inl (.inl q)
                · have hu' : u' = u := by omega
                  by_cases eq : q = Q
                  · subst eq hu'
                    exact .inr a9
                  · exact .inl (.inr ⟨a1, a2, u', a3, q, by omega, a5, a6, a7, a8, a9⟩)
            obtain ⟨b1, hb1d⟩ : ∃ b1, b1 = lie r u Q := ⟨_, rfl⟩
            obtain ⟨b2, hb2d⟩ : ∃ b2, b2 = has Q s2 := ⟨_, rfl⟩
            rw [← hb1d] at f1
            rw [← hb1d, ← hb2d] at noQ yesQ
            rw [← hb2d] at f2
            simp (disch := first | omega | with_unfolding_all rfl) [hk4, g15, g19, d3, f1]
            cases b1
            · simp (disch := first | omega | with_unfolding_all rfl) [hk4, g15, g19]
              exact ⟨Q + 1, by omega, by omega, by omega, nr, rfl, ⟨rfl, rfl⟩, by omega, noQ rfl⟩
            have huM := lie_lt hb1d.symm
            rw [hWH] at huM
            simp (disch := first | omega | with_unfolding_all rfl) [hk4, g15, g19, ← hs2, f2]
            cases b2
            · simp (disch := first | omega | with_unfolding_all rfl) [hk4, g15, g19]
              exact ⟨Q + 1, by omega, by omega, by omega, nr, rfl, ⟨rfl, rfl⟩, by omega, noQ rfl⟩
            obtain ⟨z2, hz2⟩ : ∃ z2, z2 = (u * 6 + Q) * 4 + s2 := ⟨_, rfl⟩
            have hidx2 : ((u : Int) * 6 + (Q : Int)) * 4 + (s2 : Int) = (z2 : Int) := by omega
            have hcq2 : ∀ q, cut[z2]'q = sgn ls (u : Int) (Q : Int) s2 := fun q => by
              have := hcs (u * 6 + Q) s2 (by omega) hs24
              rw [← hz2, List.getElem?_eq_getElem q, Option.some.injEq] at this
              rw [this]
              congr 1 <;> omega
            obtain ⟨b3, hb3d⟩ : ∃ b3, b3 = sgn ls (u : Int) (Q : Int) s2 := ⟨_, rfl⟩
            rw [← hb3d] at hcq2 noQ yesQ
            simp (disch := first | omega | with_unfolding_all rfl) [hk4, g15, g19, ← hs2, f2, hc1, hc1', hidx2, hcq2]
            cases b3
            case true =>
              simp (disch := first | omega | with_unfolding_all rfl) [hk4, g15, g19]
              exact ⟨Q + 1, by omega, by omega, by omega, nr, rfl, ⟨rfl, rfl⟩, by omega, noQ rfl⟩
            have icn : (ic nr).length = nr.length := by simp
            have ex : (u : Int) * 6 + (Q : Int) = ((u * 6 + Q : Nat) : Int) := by omega
            simp (disch := first | omega | with_unfolding_all rfl) [hk4, g15, g19, hcg, hcst]
            exact ⟨Q + 1, by omega, by omega, by omega, nr ++ [u * 6 + Q], by simp, ⟨by simp, by rw [ex, ic_app]⟩, by simp; omega, yesQ rfl⟩
          · have hQ6 : Q = 6 := by omega
            rw [hQ6] at hnr hnl
            simp (disch := first | omega | with_unfolding_all rfl) [hk4, g15, g19, d3]
            refine ⟨S + 1, by omega, by omega, by omega, nr, rfl, ⟨rfl, rfl⟩, by omega, fun x => ?_⟩
            rw [hnr]
            constructor
            · rintro ((q | ⟨s, a1, a2⟩) | q)
              · exact .inl q
              · exact .inr ⟨s, by omega, a2⟩
              · exact .inr ⟨S, by omega, hS4, q⟩
            · rintro (q | ⟨s, a1, a2, a3⟩)
              · exact .inl (.inl q)
              · by_cases es : s = S
                · subst es; exact .inr a3
                · exact .inl (.inr ⟨s, by omega, a2, a3⟩)
        · have hS4 : S = 4 := by omega
          rw [hS4] at hnr hnl
          have hnr' : ∀ x, x ∈ nr ↔ Nr r ls W H k x := hnr
          simp (disch := first | omega | with_unfolding_all rfl) [hk3, g15, g17, d2]
          have hne0 : ¬ (0 : Nat) = tb := by omega
          have hne1 : ¬ tb = 0 := by omega
          refine G_loopK [2, 6, 8, 10, 15] (fun (j : Nat) e h => j ≤ nr.length ∧ get e 20 = .int .i64 (j : Int) ∧ MkI r ls W H M i out o1 cut hh.length tb tl k nr j (get e 11) h) (fun j => nr.length - j) (a₀ := 0) ?_ ?_
          · refine ⟨by omega, by simp, o1, tl - 1, gn, tx, by simp, by simp, ?_, hc1 _, ?_, hcg _, by omega, by omega, hF1.pend (fun x hx => ?_) (fun x hx => .inl ?_), fun j' x hj => by omega⟩
            · rw [List.getElem?_append_left (by omega)]; exact hb0
            · rw [List.getElem?_append_left (by omega)]; exact hbt
            · rcases hx with hx | rfl
              · exact (List.take_prefix_take_left (show tl - 1 ≤ tl by omega)).subset hx
              · exact hkmem
            · have : tx.take tl = tx.take (tl - 1) ++ [k] := by
                have e1 : tl = tl - 1 + 1 := by omega
                conv => lhs; rw [e1]
                rw [List.take_add_one, List.getElem?_eq_getElem htl1, ← hkd]; rfl
              rw [this, List.mem_append, List.mem_singleton] at hx
              exact hx
          rintro j e5 h5 hk5 ⟨hj, g20, o2, tl2, g2, tx2, g11', hl5, hp0, hp1, hpt, hpn, hl2, hm2, hF2, hdone⟩
          simp at hk5
          have e0 : h5[0] = bk 3 0 o2 := (List.getElem?_eq_some_iff.1 hp0).2
          have et : h5[tb] = bk 3 g2 (ic tx2) := (List.getElem?_eq_some_iff.1 hpt).2
          have en : h5[hh.length] = bk 3 nr.length (ic nr) := (List.getElem?_eq_some_iff.1 hpn).2
          have hl0 := hF2.len
          simp (disch := first | omega | with_unfolding_all rfl) [hk5, g20, g11']
          refine G_brd (fun d4 => ?_) (fun d4 => ?_)
          · have hjn : j < nr.length := by omega
            obtain ⟨x, hx⟩ : ∃ x, x = nr[j] := ⟨_, rfl⟩
            have hxm : x ∈ nr := by rw [hx]; exact List.getElem_mem hjn
            have hxn := (hnr' x).1 hxm
            have hklie : lie6 r k = true := by
              obtain ⟨a1, a2⟩ := hF2.pin k (.inr rfl)
              rcases hF2.cell k a1 with q | q
              · rw [q] at a2
                rcases hO.cell a1 with q' | ⟨m, q1, q2, _⟩
                · rw [q', Option.some.injEq] at a2; omega
                · rw [q2, Option.some.injEq] at a2; omega
              · exact q.2.1
            obtain ⟨hx6, hxl, _⟩ := nr_edge rw1 rh1 hM h4W hklie hxn
            have icn : (ic nr).length = nr.length := by simp
            have hnx : ∀ q, (ic nr)[j]'q = (x : Int) := fun q => by rw [ic_get hjn, hx]
            obtain ⟨w, hw⟩ : ∃ w, w = o2[x] := ⟨_, rfl⟩
            have hw? : o2[x]? = some w := by rw [hw, List.getElem?_eq_getElem]
            have hoi : ∀ q, o2[i]'q = (to8 i : Int) := fun q => by
              have := hF2.own
              rw [List.getElem?_eq_getElem q, Option.some.injEq] at this; exact this
            simp (disch := first | omega | with_unfolding_all rfl) [hk5, g20, g11', d4, e0, en, hnx, ← hw]
            refine G_brd (fun d5 => ?_) (fun d5 => ?_)
            · have ic2 : (ic tx2).length = tx2.length := by simp
              have hl0' : (o2.set x (to8 i : Int)).length = 6 * M := by simp [hl0]
              have hkn : ¬ hh.length = tb := by omega
              have hkn0 : ¬ hh.length = 0 := by omega
              have hkn0' : ¬ 0 = hh.length := by omega
              simp (disch := first | omega | with_unfolding_all rfl) [hk5, g20, g11', e0, en, et, hnx, ← hw, hoi, hne0, hne1, hkn, hkn0, hkn0', appB_cut]
              have htk1 : (tx2.take tl2 ++ [x]).take (tl2 + 1) = tx2.take tl2 ++ [x] := List.take_of_length_le (by simp; omega)
              refine ⟨j + 1, by omega, by omega, by omega, o2.set x (to8 i : Int), tl2 + 1, g2 + 1, tx2.take tl2 ++ [x], rfl, by simp [hl5], ?_, ?_, ?_, ?_, by simp; omega, ?_, ?_, ?_⟩
              · rw [List.getElem?_set_ne (by omega), List.getElem?_set_self (by omega)]
              · rw [List.getElem?_set_ne (by omega), List.getElem?_set_ne (by omega)]; exact hp1
              · rw [List.getElem?_set_self (by simp; omega), ic_take]
              · rw [List.getElem?_set_ne (by omega), List.getElem?_set_ne (by omega)]; exact hpn
              · have := cnt_set hw? d5 (show (0 : Int) ≤ (to8 i : Int) by omega)
                omega
              · refine (hF2.mark rw1 rh1 hM h4W hO (.inr rfl) hxn hw? d5).pend (fun y hy => ?_) (fun y hy => .inl ?_)
                · rw [htk1, List.mem_append, List.mem_singleton] at hy
                  rcases hy with (hy | hy) | hy
                  · exact .inl (.inl hy)
                  · exact .inr hy
                  · exact .inl (.inr hy)
                · rw [htk1, List.mem_append, List.mem_singleton]
                  rcases hy with (hy | hy) | hy
                  · exact .inl (.inl hy)
                  · exact .inr hy
                  · exact .inl (.inr hy)
              · intro j' y hj' hy
                by_cases exy : x = y
                · subst exy
                  exact ⟨_, List.getElem?_set_self (by omega), by omega⟩
                · rw [List.getElem?_set_ne exy]
                  refine hdone j' y ?_ hy
                  by_cases ej : j' = j
                  · subst ej
                    rw [List.getElem?_eq_getElem hjn, ← hx, Option.some.injEq] at hy
                    exact absurd hy exy
                  · omega
            · simp (disch := first | omega | with_unfolding_all rfl) [hk5, g20, g11']
              refine ⟨j + 1, by omega, by omega, by omega, o2, tl2, g2, tx2, rfl, hl5, hp0, hp1, hpt, hpn, hl2, hm2, hF2, fun j' y hj' hy => ?_⟩
              by_cases ej : j' = j
              · subst ej
                rw [List.getElem?_eq_getElem hjn, ← hx, Option.some.injEq] at hy
                subst hy
                exact ⟨w, hw?, by omega⟩
              · exact hdone j' y (by omega) hy
          · have hjn : j = nr.length := by omega
            simp (disch := first | omega | with_unfolding_all rfl) [hk5, g20, g11', d4]
            refine ⟨o2, tl2, by omega, tb, g2, tx2, rfl, htb, by omega, hp0, hp1, hpt, hl2, by dsimp only; omega, hF2.pend (fun y hy => .inl hy) fun y hy => ?_⟩
            rcases hy with hy | rfl
            · exact .inl hy
            · refine .inr fun x hx => ?_
              obtain ⟨j', hj', e⟩ := List.getElem_of_mem ((hnr' x).2 hx)
              exact hdone j' x (by omega) (by rw [List.getElem?_eq_getElem hj', e])
      · have htl0 : tl = 0 := by omega
        subst htl0
        simp (disch := first | omega | with_unfolding_all rfl) [hk1, g11, d]
        exact ⟨i + 1, by omega, by omega, by omega, by omega, hb1, o1, hb0, (hF1.pend (fun y hy => hy.elim) (fun y hy => by simp at hy)).fin rw1 rh1 hM h4W hO hown hin c2⟩
    · have hi6 : i = 6 * M := by omega
      simp (disch := first | omega | with_unfolding_all rfl) [hk, g10, c, hg0]
      refine ⟨out, rfl, hlo, hO.off, fun j hj hl => ?_⟩
      obtain ⟨m, h1, h2⟩ := hO.on j hj hl
      refine ⟨m, h1, ?_⟩
      obtain ⟨x, hx, _, rfl⟩ := cn_lies rw1 rh1 hM h4W hj hl h1.1
      rw [if_pos (to8_lt.2 (by omega))] at h2
      exact h2)
  exact ⟨out, h1', h2⟩
end Go.Proofs.Ytfocelelbcepnaa
