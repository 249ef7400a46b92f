/- Blocks: the numbers of the blocks of all pieces. -/
import Derived.Test.YtfocelelbcepnaaBlockSide
set_option linter.unusedVariables false
set_option linter.unusedSimpArgs false
set_option maxHeartbeats 4000000
set_option maxRecDepth 20000
namespace Go.Proofs.Ytfocelelbcepnaa
open Go.Proofs.Ytfocelelbcepnaa.PM

theorem sorted_of {ls : List Sg} (h : anyN (badK ls) 0 ls.length = false) : ls.Pairwise ltS := by
  have adj : ∀ i (h1 : i + 1 < ls.length), ltS ls[i] ls[i + 1] := by
    intro i h1
    have := anyN_off h (Nat.zero_le (i + 1)) h1
    have h0 : i < ls.length := by omega
    simp only [badK, List.getElem?_eq_getElem h1, Nat.add_sub_cancel, List.getElem?_eq_getElem h0] at this
    simpa using (Bool.or_eq_false_iff.1 (Bool.or_eq_false_iff.1 this).2).2
  have far : ∀ d i (h1 : i + d + 1 < ls.length) (h0 : i < ls.length), ltS ls[i] ls[i + d + 1] := by
    intro d
    induction d with
    | zero => intro i h1 h0; exact adj i h1
    | succ d ih =>
      intro i h1 h0
      exact ltS_trans (ih i (by omega) h0) (adj (i + d + 1) h1)
  rw [List.pairwise_iff_getElem]
  intro i j hi hj hij
  obtain ⟨d, rfl⟩ : ∃ d, j = i + d + 1 := ⟨j - i - 1, by omega⟩
  exact far d i hj hi
/-- Rails and signals that are right. -/
structure Vd (r : Rl) (ls : List Sg) : Prop where
  g : Good r
  so : ls.Pairwise ltS
  le : ls.length ≤ 300
  kd : ∀ x ∈ ls, 0 ≤ x.k ∧ x.k ≤ 5
  ly : ∀ x ∈ ls, lie r x.t x.p = true
  hs : ∀ x ∈ ls, has x.p x.o = true
theorem vd_of {r : Rl} {ls : List Sg} (h : valErr r ls = 0) : Vd r ls := by
  have h0 : railErr r = 0 := by
    rcases railErr_cases r with q | q
    · exact q
    · simp [valErr, q] at h
  rw [valErr, if_pos h0] at h
  split at h
  · cases h
  rename_i h1
  split at h
  · cases h
  rename_i h2
  have h3 : anyN (badK ls) 0 ls.length = false := by
    cases q : anyN (badK ls) 0 ls.length
    · rfl
    · exact absurd (.inl q) h1
  have h4 : anyN (badP r ls) 0 ls.length = false := by simpa using h2
  refine ⟨good_of h0, sorted_of h3, by apply Nat.le_of_not_lt; intro q; exact h1 (.inr q), ?_, ?_, ?_⟩
  · intro x hx
    obtain ⟨i, hi, rfl⟩ := List.getElem_of_mem hx
    have := anyN_off h3 (Nat.zero_le i) hi
    simp only [badK, List.getElem?_eq_getElem hi] at this
    simp at this
    omega
  · intro x hx
    obtain ⟨i, hi, rfl⟩ := List.getElem_of_mem hx
    have := anyN_off h4 (Nat.zero_le i) hi
    simp only [badP, List.getElem?_eq_getElem hi] at this
    simp at this
    exact this.1
  · intro x hx
    obtain ⟨i, hi, rfl⟩ := List.getElem_of_mem hx
    have := anyN_off h4 (Nat.zero_le i) hi
    simp only [badP, List.getElem?_eq_getElem hi] at this
    simp at this
    exact this.2

/-- What hangs together by the tiles that were looked at. -/
def EB (r : Rl) (ls : List Sg) (T : Nat) (x y : Nat) : Prop := ∃ t : Nat, t < T ∧ (TE r t 6 0 x y ∨ ((t : Int).tmod r.w < r.w - 1 ∧ SE r ls t 0 (t + 1) 6 0 x y) ∨ ((t : Int).tdiv r.w < r.h - 1 ∧ SE r ls t 1 (t + r.w.toNat) 6 0 x y))
abbrev EE (r : Rl) (ls : List Sg) : Nat → Nat → Prop := EB r ls (r.w * r.h).toNat
def IsNum (E : Nat → Nat → Prop) (i m : Nat) : Prop := Cn E i m ∧ ∀ k, Cn E i k → m ≤ k
theorem IsNum.uniq {E : Nat → Nat → Prop} {i m m' : Nat} (h : IsNum E i m) (h' : IsNum E i m') : m = m' := Nat.le_antisymm (h.2 _ h'.1) (h'.2 _ h.1)
/-- The least of a class is the root. -/
theorem Inv.num {n : Nat} {par : List Int} {E : Nat → Nat → Prop} (I : Inv n par E) {i r : Nat} (hi : i < n) (h : Rt par i r) : IsNum E i r := by
  have hr : r ≤ i := I.wf.rt_le hi h
  refine ⟨(I.iff i r hi (by omega)).1 ⟨r, h, .root h.is_root⟩, fun k hk => ?_⟩
  have hkn : k < n := by
    cases hk with
    | refl => exact hi
    | step _ e => rcases e with e | e
                  · exact (I.rng _ _ e).2
                  · exact (I.rng _ _ e).1
  obtain ⟨s, h1, h2⟩ := (I.iff i k hi hkn).2 hk
  rw [h.uniq h1]
  exact I.wf.rt_le hkn h2
structure Nums (r : Rl) (ls : List Sg) (out : List Int) : Prop where
  len : (out.length : Int) = 8 * (r.w * r.h)
  on : ∀ i, i < out.length → lie r ((i : Int) / 8) ((i : Int) % 8) = true → ∃ m : Nat, out[i]? = some (m : Int) ∧ IsNum (EE r ls) i m
  off : ∀ i, i < out.length → lie r ((i : Int) / 8) ((i : Int) % 8) = false → out[i]? = some (-1)
theorem Nums.uniq {r : Rl} {ls : List Sg} {a b : List Int} (h : Nums r ls a) (h' : Nums r ls b) : a = b := by
  have hl : a.length = b.length := by have := h.len; have := h'.len; omega
  refine List.ext_getElem? fun i => ?_
  by_cases hi : i < a.length
  · cases c : lie r ((i : Int) / 8) ((i : Int) % 8)
    · rw [h.off i hi c, h'.off i (by omega) c]
    · obtain ⟨m, h1, h2⟩ := h.on i hi c
      obtain ⟨m', h3, h4⟩ := h'.on i (by omega) c
      rw [h1, h3, h2.uniq h4]
  · rw [List.getElem?_eq_none (by omega), List.getElem?_eq_none (by omega)]
/-- The first table of parents. -/
def par0 (n i : Nat) : List Int := (List.range n).map fun k => if k < i then (k : Int) else 0
@[simp] theorem par0_len (n i : Nat) : (par0 n i).length = n := by simp [par0]
theorem par0_zero (n : Nat) : List.replicate n (0 : Int) = par0 n 0 := by
  refine List.ext_getElem (by simp) fun i h1 h2 => ?_
  simp [par0]
theorem par0_set {n i : Nat} (h : i < n) : (par0 n i).set i (i : Int) = par0 n (i + 1) := by
  refine List.ext_getElem (by simp) fun j h1 h2 => ?_
  simp at h1
  rw [List.getElem_set]
  split
  · rename_i e; subst e; simp [par0]
  · simp only [par0, List.getElem_map, List.getElem_range]
    split
    · rw [if_pos (by omega)]
    · rw [if_neg (by omega)]
theorem par0_inv (n : Nat) : Inv n (par0 n n) (fun _ _ => False) := by
  have hg : ∀ i, i < n → (par0 n n)[i]? = some (i : Int) := by
    intro i hi
    simp [par0, hi]
  refine ⟨⟨by simp, fun i hi => ⟨i, hg i hi, Nat.le_refl _⟩⟩, fun k l hk hl => ⟨?_, ?_⟩, fun _ _ h => h.elim⟩
  · rintro ⟨s, h1, h2⟩
    rw [(Rt.root (hg k hk)).uniq h1, (Rt.root (hg l hl)).uniq h2]
    exact .refl _
  · intro h
    have : k = l := by
      induction h with
      | refl => rfl
      | step _ e _ => rcases e with e | e <;> exact e.elim
    subst this
    exact ⟨k, .root (hg k hk), .root (hg k hk)⟩
theorem tmod_nat (a b : Nat) : (a : Int).tmod (b : Int) = ((a % b : Nat) : Int) := rfl
theorem tdiv_nat (a b : Nat) : (a : Int).tdiv (b : Int) = ((a / b : Nat) : Int) := rfl
theorem beside_lt {t W H : Nat} (h : t < W * H) (h2 : t % W < W - 1) : t + 1 < W * H := by
  have h0 : 0 < W := by omega
  have h3 : (t + 1) / W = t / W := by
    have h4 := Nat.div_add_mod t W
    have h5 : t + 1 = (t % W + 1) + W * (t / W) := by omega
    conv => lhs; rw [h5]
    rw [Nat.add_mul_div_left _ _ h0, Nat.div_eq_of_lt (by omega)]
    omega
  have h4 : t / W < H := by rw [Nat.div_lt_iff_lt_mul h0, Nat.mul_comm]; exact h
  rw [Nat.mul_comm, ← Nat.div_lt_iff_lt_mul h0, h3]
  exact h4
theorem below_lt {t W H : Nat} (h0 : 0 < W) (h2 : t / W < H - 1) : t + W < W * H := by
  have : t / W + 1 < H := by generalize t / W = q at h2 ⊢; omega
  rw [Nat.mul_comm, ← Nat.div_lt_iff_lt_mul h0, Nat.add_div_right _ h0]
  exact this
theorem numbers_ok {r : Rl} {nl : Nl} {ls : List Sg} (v : Vd r ls) : ∃ out, R tb 58 [vR r, lst nl ls] = some (lst .any out) ∧ Nums r ls out := by
  obtain ⟨g, hs, hl, _, _, _⟩ := v
  have hm := g.mul
  obtain ⟨w0, w1, h0, h1, ls1, ld1, rg⟩ := id g
  obtain ⟨w, hh, n1, s, n2, d⟩ := r
  dsimp only at hm w0 w1 h0 h1
  obtain ⟨W, rfl⟩ : ∃ W : Nat, w = W := ⟨w.toNat, by omega⟩
  obtain ⟨H, rfl⟩ : ∃ H : Nat, hh = H := ⟨hh.toNat, by omega⟩
  obtain ⟨r, hr⟩ : ∃ r, r = Rl.mk (W : Int) (H : Int) n1 s n2 d := ⟨_, rfl⟩
  have rw1 : r.w = W := by rw [hr]
  have rh1 : r.h = H := by rw [hr]
  obtain ⟨M, hM⟩ : ∃ M, M = W * H := ⟨_, rfl⟩
  have hWH : ((W : Int) * (H : Int)) = (M : Int) := by rw [hM]; push_cast; rfl
  obtain ⟨n, hn⟩ : ∃ n, n = 8 * M := ⟨_, rfl⟩
  have hnI : (n : Int) = 8 * (r.w * r.h) := by rw [rw1, rh1, hWH]; omega
  have h8 : (8 * (W : Int)) * (H : Int) = (n : Int) := by rw [Int.mul_assoc, hWH]; omega
  rw [← hr] at g ⊢
  have hTn : (r.w * r.h).toNat = M := by rw [rw1, rh1, hWH]; rfl
  obtain ⟨v, h1, out, rfl, h2⟩ := R_ex (T := tb) (f := 58) (F := pf58) (args := [vR r, lst nl ls]) (Rq := fun v => ∃ out, v = lst .any out ∧ Nums r ls out) rfl rfl rfl (by
    simp (disch := first | omega | with_unfolding_all rfl) [pf58, env0_eq, h8, rw1, rh1]
    rw [par0_zero]
    refine G_loopK [1, 2, 5, 18] (fun (i : Nat) e h => i ≤ n ∧ get e 19 = .int .i64 (i : Int) ∧ h = [bk 3 0 (par0 n i)]) (fun i => n - i) (a₀ := 0) ⟨by omega, by simp, rfl⟩ ?_
    rintro i e h hk ⟨hi, g19, rfl⟩
    simp at hk
    simp (disch := first | omega | with_unfolding_all rfl) [hk, g19]
    refine G_brd (fun c => ?_) (fun c => ?_)
    · have hin : i < n := by omega
      have hpl : (par0 n i).length = n := by simp
      simp (disch := first | omega | with_unfolding_all rfl) [hk, g19, c, par0_set hin]
      exact ⟨i + 1, by omega, by omega, by omega, rfl⟩
    have e1 : n = i := by omega
    subst e1
    simp (disch := first | omega | with_unfolding_all rfl) [hk, g19, c, hWH, rw1, rh1]
    refine G_loopK [1, 2, 5, 31] (fun (t : Nat) e h => t ≤ M ∧ get e 32 = .int .i64 (t : Int) ∧ ∃ par, h = [bk 3 0 par] ∧ Inv n par (EB r ls t)) (fun t => M - t) (a₀ := 0) ?_ ?_
    · refine ⟨by omega, by simp, par0 n n, rfl, (par0_inv n).congr fun a b => ⟨fun q => q.elim, ?_⟩⟩
      rintro ⟨t, q, _⟩
      omega
    · rintro t e h hk ⟨ht, g32, par, rfl, I⟩
      simp at hk
      simp (disch := first | omega | with_unfolding_all rfl) [hk, g32]
      refine G_brd (fun c => ?_) (fun c => ?_)
      · have htM : t < M := by omega
        have htI : (t : Int) < r.w * r.h := by rw [rw1, rh1, hWH]; omega
        obtain ⟨par1, j1, I1⟩ := joinTile_ok g (b := 0) (gen := 0) (H := [bk 3 0 par]) hnI htI I rfl
        simp only [vR, rw1, rh1, List.set_cons_zero] at j1
        have tm : (t : Int).tmod (W : Int) = ((t % W : Nat) : Int) := rfl
        have td : (t : Int).tdiv (W : Int) = ((t / W : Nat) : Int) := rfl
        obtain ⟨a, ha⟩ : ∃ a, a = t % W := ⟨_, rfl⟩
        obtain ⟨b, hb⟩ : ∃ b, b = t / W := ⟨_, rfl⟩
        rw [← ha] at tm
        rw [← hb] at td
        have hal : a < W := by rw [ha]; exact Nat.mod_lt _ (by omega)
        have hbl : b < H := by rw [hb, Nat.div_lt_iff_lt_mul (by omega), Nat.mul_comm, ← hM]; exact htM
        have nxt : ∀ par3, Inv n par3 (fun x y => ((EB r ls t x y ∨ TE r t 6 0 x y) ∨ (a + 1 < W ∧ SE r ls t 0 (t + 1) 6 0 x y)) ∨ (b + 1 < H ∧ SE r ls t 1 (t + W) 6 0 x y)) → Inv n par3 (EB r ls (t + 1)) := by
          intro par3 I3
          have q1 : (t : Int).tmod r.w < r.w - 1 ↔ a + 1 < W := by rw [rw1, tm]; omega
          have q2 : (t : Int).tdiv r.w < r.h - 1 ↔ b + 1 < H := by rw [rw1, rh1, td]; omega
          have q3 : r.w.toNat = W := by rw [rw1]; rfl
          refine I3.congr fun x y => ⟨?_, ?_⟩
          · rintro (((⟨t', a1, a2⟩ | q) | ⟨c1, q⟩) | ⟨c1, q⟩)
            · exact ⟨t', by omega, a2⟩
            · exact ⟨t, by omega, .inl q⟩
            · exact ⟨t, by omega, .inr (.inl ⟨q1.2 c1, q⟩)⟩
            · exact ⟨t, by omega, .inr (.inr ⟨q2.2 c1, by rw [q3]; exact q⟩)⟩
          · rintro ⟨t', a1, a2⟩
            by_cases et : t' = t
            · subst et
              rcases a2 with q | ⟨c1, q⟩ | ⟨c1, q⟩
              · exact .inl (.inl (.inr q))
              · exact .inl (.inr ⟨q1.1 c1, q⟩)
              · rw [q3] at q
                exact .inr ⟨q2.1 c1, q⟩
            · exact .inl (.inl (.inl ⟨t', by omega, a2⟩))
        have hb0 : ∀ par' : List Int, [bk 3 0 par'][0]? = some (bk 3 0 par') := fun _ => rfl
        have I2 : ∃ par2, Inv n par2 (fun x y => (EB r ls t x y ∨ TE r t 6 0 x y) ∨ (a + 1 < W ∧ SE r ls t 0 (t + 1) 6 0 x y)) ∧ (a + 1 < W → RO tb 89 [vR r, lst nl ls, mls Int 0 0 n, .int .i64 t, .int .i64 0, .int .i64 (t + 1)] [bk 3 0 par1] = some (.tup [], [bk 3 0 par2])) ∧ (¬ a + 1 < W → par2 = par1) := by
          by_cases c1 : a + 1 < W
          · have hu : ((t + 1 : Nat) : Int) < r.w * r.h := by
              have := beside_lt (H := H) (t := t) (W := W) (by omega) (by omega)
              rw [rw1, rh1, hWH]; omega
            obtain ⟨par2, j2, I2⟩ := joinSide_ok g (nl := nl) (ls := ls) (by omega) hs (s := 0) (.inl rfl) (b := 0) (gen := 0) (H := [bk 3 0 par1]) hnI htI hu I1 rfl
            exact ⟨par2, I2.congr fun x y => ⟨fun q => q.imp id fun q => ⟨c1, q⟩, fun q => q.imp id fun q => q.2⟩, fun _ => j2, fun q => absurd c1 q⟩
          · exact ⟨par1, I1.congr fun x y => ⟨.inl, fun q => q.resolve_right fun q => c1 q.1⟩, fun q => absurd q c1, fun _ => rfl⟩
        obtain ⟨par2, I2, j2, j2'⟩ := I2
        have I3 : ∃ par3, Inv n par3 (EB r ls (t + 1)) ∧ (b + 1 < H → RO tb 89 [vR r, lst nl ls, mls Int 0 0 n, .int .i64 t, .int .i64 1, .int .i64 (t + (W : Int))] [bk 3 0 par2] = some (.tup [], [bk 3 0 par3])) ∧ (¬ b + 1 < H → par3 = par2) := by
          by_cases c1 : b + 1 < H
          · have hu : ((t + W : Nat) : Int) < r.w * r.h := by
              have := below_lt (H := H) (t := t) (W := W) (by omega) (by omega)
              rw [rw1, rh1, hWH]; omega
            obtain ⟨par3, j3, I3⟩ := joinSide_ok g (nl := nl) (ls := ls) (by omega) hs (s := 1) (.inr rfl) (b := 0) (gen := 0) (H := [bk 3 0 par2]) hnI htI hu I2 rfl
            exact ⟨par3, nxt _ (I3.congr fun x y => ⟨fun q => q.imp id fun q => ⟨c1, q⟩, fun q => q.imp id fun q => q.2⟩), fun _ => by push_cast at j3; exact j3, fun q => absurd c1 q⟩
          · exact ⟨par2, nxt _ (I2.congr fun x y => ⟨.inl, fun q => q.resolve_right fun q => c1 q.1⟩), fun q => absurd q c1, fun _ => rfl⟩
        obtain ⟨par3, I3, j3, j3'⟩ := I3
        simp only [vR, rw1, rh1] at j2 j3
        have hW0 : ¬ W = 0 := by omega
        simp (disch := first | omega | with_unfolding_all rfl) [hk, g32, c, j1, rw1, rh1, tm, td, hW0]
        have fin : ∀ e'' : Env, Keep e [1, 2, 5, 31] e'' → get e'' 32 = .int .i64 ((t : Int) + 1) → True := fun _ _ _ => trivial
        refine G_brd (fun c1 => ?_) (fun c1 => ?_)
        · have j2a := j2 (by omega)
          simp (disch := first | omega | with_unfolding_all rfl) [hk, g32, j2a, rw1, rh1, tm, td, hW0]
          refine G_brd (fun c2 => ?_) (fun c2 => ?_)
          · have j3a := j3 (by omega)
            simp (disch := first | omega | with_unfolding_all rfl) [hk, g32, j3a, rw1, rh1]
            exact ⟨t + 1, by omega, by omega, by omega, par3, rfl, I3⟩
          · obtain rfl := j3' (by omega)
            simp (disch := first | omega | with_unfolding_all rfl) [hk, g32]
            exact ⟨t + 1, by omega, by omega, by omega, par3, rfl, I3⟩
        · obtain rfl := j2' (by omega)
          simp (disch := first | omega | with_unfolding_all rfl) [hk, g32, rw1, rh1, tm, td, hW0]
          refine G_brd (fun c2 => ?_) (fun c2 => ?_)
          · have j3a := j3 (by omega)
            simp (disch := first | omega | with_unfolding_all rfl) [hk, g32, j3a, rw1, rh1]
            exact ⟨t + 1, by omega, by omega, by omega, par3, rfl, I3⟩
          · obtain rfl := j3' (by omega)
            simp (disch := first | omega | with_unfolding_all rfl) [hk, g32]
            exact ⟨t + 1, by omega, by omega, by omega, par3, rfl, I3⟩
      · have etM : t = M := by omega
        have I0 : Inv n par (EE r ls) := by rw [← hTn, ] at etM; rw [etM] at I; exact I
        simp (disch := first | omega | with_unfolding_all rfl) [hk, g32, c]
        refine G_loopK [2, 5, 8, 76] (fun (i : Nat) e h => i ≤ n ∧ get e 77 = .int .i64 (i : Int) ∧ ∃ par out, h = [bk 3 0 par, bk 3 0 out] ∧ Inv n par (EE r ls) ∧ out.length = n ∧ ∀ j, j < i → (lie r ((j : Int) / 8) ((j : Int) % 8) = true → ∃ m : Nat, out[j]? = some (m : Int) ∧ IsNum (EE r ls) j m) ∧ (lie r ((j : Int) / 8) ((j : Int) % 8) = false → out[j]? = some (-1))) (fun i => n - i) (a₀ := 0) ?_ ?_
        · exact ⟨by omega, by simp, par, List.replicate n 0, rfl, I0, by simp, fun j hj => by omega⟩
        rintro i e h hk ⟨hi, g77, par1, out, rfl, I1, hlo, hsp⟩
        simp at hk
        simp (disch := first | omega | with_unfolding_all rfl) [hk, g77]
        refine G_brd (fun c1 => ?_) (fun c1 => ?_)
        · have hin : i < n := by omega
          have l1 := lies_ok g ((i : Int) / 8) ((i : Int) % 8)
          have q8 : (i : Int).tdiv 8 = (i : Int) / 8 := rfl
          have r8 : (i : Int).tmod 8 = (i : Int) % 8 := rfl
          have keepJ : ∀ (x : Int) j, j < i → (out.set i x)[j]? = out[j]? := fun x j hj => List.getElem?_set_ne (by omega)
          simp only [vR, rw1, rh1] at l1
          have hl1 : (out.set i (-1)).length = n := by simp [hlo]
          simp (disch := first | omega | with_unfolding_all rfl) [hk, g77, c1, q8, r8, l1, rw1, rh1]
          cases c2 : lie r ((i : Int) / 8) ((i : Int) % 8)
          · simp (disch := first | omega | with_unfolding_all rfl) [hk, g77, c2]
            refine ⟨i + 1, by omega, by omega, by omega, par1, out.set i (-1), ⟨rfl, rfl⟩, I1, hl1, fun j hj => ?_⟩
            by_cases e : j = i
            · subst e
              exact ⟨fun q => absurd (c2.symm.trans q) (by decide), fun _ => List.getElem?_set_self (by omega)⟩
            · rw [keepJ _ j (by omega)]
              exact hsp j (by omega)
          · obtain ⟨par2, rt, j1, w2, a1, a2, a3⟩ := root_ok (n := n) (by omega) i par1 [bk 3 0 par1, bk 3 0 (out.set i (-1))] 0 0 hin I1.wf rfl
            have I2 := I1.same w2 a3
            simp only [List.set_cons_zero] at j1
            simp (disch := first | omega | with_unfolding_all rfl) [hk, g77, c2, j1]
            refine ⟨i + 1, by omega, by omega, by omega, par2, out.set i (rt : Int), ⟨rfl, rfl⟩, I2, by simp [hlo], fun j hj => ?_⟩
            by_cases e : j = i
            · subst e
              exact ⟨fun _ => ⟨rt, List.getElem?_set_self (by omega), I2.num hin ((a3 _ _ hin).2 a1)⟩, fun q => absurd (c2.symm.trans q) (by decide)⟩
            · rw [keepJ _ j (by omega)]
              exact hsp j (by omega)
        · have e2 : i = n := by omega
          subst e2
          simp (disch := first | omega | with_unfolding_all rfl) [hk, g77, c1]
          refine ⟨out, rfl, ⟨?_, fun j hj => (hsp j (by omega)).1, fun j hj => (hsp j (by omega)).2⟩⟩
          rw [hlo]; exact hnI)
-- => (hsp j (by omega)).1, fun j hj => (hsp j (by omega)).2⟩)
  exact ⟨out, h1, h2⟩
end Go.Proofs.Ytfocelelbcepnaa
