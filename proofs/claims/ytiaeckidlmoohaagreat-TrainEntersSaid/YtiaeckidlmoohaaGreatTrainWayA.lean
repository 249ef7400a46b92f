/- Several texts in one: TrainNext, TrainWay, TrainWay2. -/
import Derived.Test.YtiaeckidlmoohaaGreatTrainOrdA
import Derived.Test.YtiaeckidlmoohaaGreatPmTwentyNine
import Derived.Test.YtiaeckidlmoohaaGreatPmTwentyFive
section
set_option linter.unusedVariables false
set_option linter.unusedSimpArgs false
set_option maxHeartbeats 8000000
set_option maxRecDepth 20000
namespace Go.Proofs.YtiaeckidlmoohaaGreat
open Go.Proofs.YtiaeckidlmoohaaGreat.PM
theorem wrapI {a : Int} (h1 : -9223372036854775808 ≤ a) (h2 : a ≤ 9223372036854775807) : IntKind.i64.wrap a = a := by rw [IntKind.wrap_i64]; omega
theorem lie_lt {r : Rl} {t p : Int} (h : lie r t p = true) : 0 ≤ t ∧ t < r.w * r.h ∧ 0 ≤ p ∧ p < 6 := by
  unfold lie at h
  simp at h
  omega
theorem has_lt {p o : Int} (h : has p o = true) : 0 ≤ p ∧ p < 6 ∧ 0 ≤ o ∧ o < 4 := by
  unfold has at h
  simp at h
  obtain ⟨⟨h1, h2⟩, h3⟩ := h
  have : p = 0 ∨ p = 1 ∨ p = 2 ∨ p = 3 ∨ p = 4 ∨ p = 5 := by omega
  rcases this with rfl | rfl | rfl | rfl | rfl | rfl <;> simp [sa, sb] at h3 <;> omega
theorem beside_lt {t W H : Nat} (h : t < W * H) (h2 : t % W < W - 1) : t + 1 < W * H := by
  have h0 : 0 < W := by omega
  have h3 : (t + 1) / W = t / W := by
    have h4 := Nat.div_add_mod t W
    have h5 : t + 1 = (t % W + 1) + W * (t / W) := by omega
    conv => lhs; rw [h5]
    rw [Nat.add_mul_div_left _ _ h0, Nat.div_eq_of_lt (by omega)]
    omega
  have h4 : t / W < H := by rw [Nat.div_lt_iff_lt_mul h0, Nat.mul_comm]; exact h
  rw [Nat.mul_comm, ← Nat.div_lt_iff_lt_mul h0, h3]
  exact h4
theorem below_lt {t W H : Nat} (h0 : 0 < W) (h2 : t / W < H - 1) : t + W < W * H := by
  have : t / W + 1 < H := by generalize t / W = q at h2 ⊢; omega
  rw [Nat.mul_comm, ← Nat.div_lt_iff_lt_mul h0, Nat.add_div_right _ h0]
  exact this
def bey (W H t : Nat) (s : Int) : Int :=
  if s = 0 then (if t % W + 1 < W then (t : Int) + 1 else -1) else if s = 1 then (if t / W + 1 < H then (t : Int) + W else -1) else
  if s = 2 then (if 1 ≤ t % W then (t : Int) - 1 else -1) else if s = 3 then (if 1 ≤ t / W then (t : Int) - W else -1) else t
theorem bey_ok {W H t : Nat} {s : Int} (hW : 4 ≤ W ∧ W ≤ 32) (hH : 4 ≤ H ∧ H ≤ 32) (ht : t < W * H) : R tc 166 [.int .i64 W, .int .i64 H, .int .i64 t, .int .i64 s] = some (.int .i64 (bey W H t s)) := by
  have tm : (t : Int).tmod (W : Int) = ((t % W : Nat) : Int) := rfl
  have td : (t : Int).tdiv (W : Int) = ((t / W : Nat) : Int) := rfl
  obtain ⟨a, ha⟩ : ∃ a, a = t % W := ⟨_, rfl⟩
  obtain ⟨b, hb⟩ : ∃ b, b = t / W := ⟨_, rfl⟩
  rw [← ha] at tm
  rw [← hb] at td
  have hal : a < W := by rw [ha]; exact Nat.mod_lt _ (by omega)
  have hbl : b < H := by rw [hb, Nat.div_lt_iff_lt_mul (by omega), Nat.mul_comm]; exact ht
  have hM : W * H ≤ 32 * 32 := Nat.mul_le_mul hW.2 hH.2
  obtain ⟨c, hc⟩ : ∃ c : Nat, c = b * W := ⟨_, rfl⟩
  have hdm : t = c + a := by have := Nat.div_add_mod t W; rw [← ha, ← hb, Nat.mul_comm] at this; omega
  have c0 : (b : Int) * (W : Int) = (c : Int) := by rw [hc]; push_cast; rfl
  have c1 : ((b : Int) + 1) * (W : Int) = (c : Int) + W := by rw [Int.add_mul, c0]; omega
  have c2 : ((b : Int) - 1) * (W : Int) = (c : Int) - W := by rw [Int.sub_mul, c0]; omega
  have hW0 : ¬ W = 0 := by omega
  have hcW : 1 ≤ b → W ≤ c := fun h => by rw [hc]; exact Nat.le_mul_of_pos_left W h
  have r1 : ¬ (a : Int) < 0 := by omega
  have r2 : ¬ (W : Int) ≤ a := by omega
  have r3 : ¬ (b : Int) < 0 := by omega
  have r4 : ¬ (H : Int) ≤ b := by omega
  refine R_of_G (F := pf166) (tc_nat _ rfl) rfl rfl ?_
  simp (disch := first | omega | with_unfolding_all rfl) [pf166, env0_eq, tm, td, hW0, bey, ← ha, ← hb]
  by_cases s0 : s = 0
  · subst s0
    have r5 : ¬ ((a : Int) + 1 < 0) := by omega
    by_cases g : a + 1 < W
    · have g' : ¬ (W : Int) ≤ (a : Int) + 1 := by omega
      simp (disch := first | omega | with_unfolding_all rfl) [tm, td, hW0, g, g', r1, r2, r3, r4, r5, c0]
      omega
    · have g' : (W : Int) ≤ (a : Int) + 1 := by omega
      simp (disch := first | omega | with_unfolding_all rfl) [tm, td, hW0, g, g', r1, r2, r3, r4, r5, c0]
  by_cases s1 : s = 1
  · subst s1
    have r5 : ¬ ((b : Int) + 1 < 0) := by omega
    by_cases g : b + 1 < H
    · have g' : ¬ (H : Int) ≤ (b : Int) + 1 := by omega
      simp (disch := first | omega | with_unfolding_all rfl) [tm, td, hW0, g, g', r1, r2, r3, r4, r5, c1]
      omega
    · have g' : (H : Int) ≤ (b : Int) + 1 := by omega
      simp (disch := first | omega | with_unfolding_all rfl) [tm, td, hW0, g, g', r1, r2, r3, r4, r5, c1]
  by_cases s2 : s = 2
  · subst s2
    have r5 : ¬ ((W : Int) ≤ (a : Int) - 1) := by omega
    by_cases g : 1 ≤ a
    · have g' : ¬ (a : Int) - 1 < 0 := by omega
      simp (disch := first | omega | with_unfolding_all rfl) [tm, td, hW0, g, g', r1, r2, r3, r4, r5, c0]
      omega
    · have g' : (a : Int) - 1 < 0 := by omega
      simp (disch := first | omega | with_unfolding_all rfl) [tm, td, hW0, g, g', r1, r2, r3, r4, r5, c0]
  by_cases s3 : s = 3
  · subst s3
    have r5 : ¬ ((H : Int) ≤ (b : Int) - 1) := by omega
    by_cases g : 1 ≤ b
    · have g' : ¬ (b : Int) - 1 < 0 := by omega
      simp (disch := first | omega | with_unfolding_all rfl) [tm, td, hW0, g, g', r1, r2, r3, r4, r5, c2]
      omega
    · have g' : (b : Int) - 1 < 0 := by omega
      simp (disch := first | omega | with_unfolding_all rfl) [tm, td, hW0, g, g', r1, r2, r3, r4, r5, c2]
  · simp (disch := first | omega | with_unfolding_all rfl) [tm, td, hW0, s0, s1, s2, s3, r1, r2, r3, r4, c0]
    omega
def oth (p s : Int) : Int := if s = sa p then sb p else sa p
def nxU (r : Rl) (u : Nat) (s : Int) (Q : Nat) : List So := (List.range Q).filterMap fun (q : Nat) => if (lie r u q && has q s) = true then some ⟨u, q, oth q s⟩ else none
theorem nxU_succ (r : Rl) (u : Nat) (s : Int) (Q : Nat) : nxU r u s (Q + 1) = nxU r u s Q ++ if (lie r u Q && has Q s) = true then [⟨u, Q, oth Q s⟩] else [] := by
  unfold nxU
  rw [List.range_succ, List.filterMap_append]
  congr 1
  rw [List.filterMap_cons, List.filterMap_nil]
  cases h : (lie r u Q && has Q s) <;> rfl
theorem nxU_len (r : Rl) (u : Nat) (s : Int) : ∀ Q, (nxU r u s Q).length ≤ Q
  | 0 => by simp [nxU]
  | Q + 1 => by
    have := nxU_len r u s Q
    rw [nxU_succ, List.length_append]
    split <;> simp <;> omega
noncomputable def nxt (r : Rl) (s : So) : List So := if bey r.w.toNat r.h.toNat s.t.toNat s.o < 0 then [] else nxU r (bey r.w.toNat r.h.toNat s.t.toNat s.o).toNat ((s.o + 2).tmod 4) 6
noncomputable def nxtV (r : Rl) (s : So) : PV := if bey r.w.toNat r.h.toNat s.t.toNat s.o < 0 then .list .nil 3 [] else lst .any (nxt r s)
theorem bey_lt {W H t : Nat} {s : Int} {u : Nat} (hW : 4 ≤ W) (ht : t < W * H) (hs : 0 ≤ s ∧ s < 4) (h : bey W H t s = (u : Int)) : u < W * H := by
  have hs4 : s = 0 ∨ s = 1 ∨ s = 2 ∨ s = 3 := by omega
  rcases hs4 with rfl | rfl | rfl | rfl
  · simp [bey] at h
    split at h
    · rename_i c
      have := beside_lt (t := t) (W := W) (H := H) ht (by omega)
      omega
    · omega
  · simp [bey] at h
    split at h
    · rename_i c
      have := below_lt (t := t) (W := W) (H := H) (by omega) (by generalize t / W = z at c ⊢; omega)
      omega
    · omega
  · simp [bey] at h
    split at h <;> omega
  · simp [bey] at h
    split at h <;> omega
structure At (r : Rl) (s : So) (W H T : Nat) : Prop where
  w : r.w = W
  h : r.h = H
  t : s.t = T
  lt : T < W * H
  ln : r.s.length = W * H
  rg : 0 ≤ s.p ∧ s.p < 6 ∧ 0 ≤ s.o ∧ s.o < 4
  bw : 4 ≤ W ∧ W ≤ 32
  bh : 4 ≤ H ∧ H ≤ 32
theorem at_of {r : Rl} (g : Good r) {s : So} (h1 : has s.p s.o = true) (h2 : lie r s.t s.p = true) : ∃ W H T, At r s W H T := by
  have hl := lie_lt h2
  have hh := has_lt h1
  obtain ⟨W, rw1⟩ : ∃ W : Nat, r.w = W := ⟨r.w.toNat, by have := g.w0; omega⟩
  obtain ⟨H, rh1⟩ : ∃ H : Nat, r.h = H := ⟨r.h.toNat, by have := g.h0; omega⟩
  have hWH : r.w * r.h = ((W * H : Nat) : Int) := by rw [rw1, rh1]; push_cast; rfl
  have := g.ls
  exact ⟨W, H, s.t.toNat, rw1, rh1, by omega, by omega, by omega, by omega, by have := g.w0; have := g.w1; omega, by have := g.h0; have := g.h1; omega⟩
theorem At.nxt {r : Rl} {s : So} {W H T : Nat} (a : At r s W H T) : nxtV r s = if bey W H T s.o < 0 then .list .nil 3 [] else lst .any (nxt r s) := by
  unfold nxtV
  rw [a.w, a.h, a.t]; rfl
theorem At.nxt' {r : Rl} {s : So} {W H T : Nat} (a : At r s W H T) : YtiaeckidlmoohaaGreat.nxt r s = if bey W H T s.o < 0 then [] else nxU r (bey W H T s.o).toNat ((s.o + 2).tmod 4) 6 := by
  unfold YtiaeckidlmoohaaGreat.nxt
  rw [a.w, a.h, a.t]; rfl
def spErr (r : Rl) (s : So) : Int := if has s.p s.o = true then (if lie r s.t s.p = true then 0 else 2) else 1
noncomputable def nextV (r : Rl) (s : So) : PV := if spErr r s = 0 then .tup [nxtV r s, .int .i64 0] else .tup [.list .nil 3 [], .int .i64 (spErr r s)]
theorem nxtV_cases (r : Rl) (s : So) : (nxtV r s = .list .nil 3 [] ∧ nxt r s = []) ∨ nxtV r s = lst .any (nxt r s) := by
  unfold nxtV
  split
  · rename_i h
    refine .inl ⟨rfl, ?_⟩
    unfold nxt; rw [if_pos h]
  · exact .inr rfl
end Go.Proofs.YtiaeckidlmoohaaGreat
end
section
set_option linter.unusedVariables false
set_option linter.unusedSimpArgs false
set_option maxHeartbeats 8000000
set_option maxRecDepth 20000
namespace Go.Proofs.YtiaeckidlmoohaaGreat
open Go.Proofs.YtiaeckidlmoohaaGreat.PM
theorem R_ex {T : Table} {f : Nat} {args : List PV} {F : PFn} {Rq : PV → Prop} (hn : T.nat f args = none) (hF : findF T.fns f = some F) (hl : args.length = F.np)
    (hg : G T [.code F.body] .normal (env0 args) [] (fun x e h => ends x = true ∧ ∃ v, (retV e h F.res).bind (frz h .any 64) = some v ∧ Rq v)) : ∃ v, R T f args = some v ∧ Rq v := by
  rw [G_code] at hg
  obtain ⟨q, hq, hg⟩ := hg
  rw [G_nil] at hg
  obtain ⟨h1, v, h2, h4⟩ := hg
  refine ⟨v, R_of_G hn hF hl ?_, h4⟩
  rw [G_code]
  exact ⟨q, hq, by rw [G_nil]; exact ⟨h1, h2⟩⟩
theorem index_ok {nl : Nl} (xs : List So) (n : So) (h : xs.length ≤ 100000) : ∃ i : Int, R tc 143 [lst nl xs, vSo n] = some (.int .i64 i) ∧ (0 ≤ i ↔ n ∈ xs) := by
  obtain ⟨v, h1, i, rfl, h2⟩ := R_ex (T := tc) (f := 143) (F := pf143) (args := [lst nl xs, vSo n]) (Rq := fun v => ∃ i : Int, v = .int .i64 i ∧ (0 ≤ i ↔ n ∈ xs)) (tc_nat _ rfl) rfl rfl (by
    obtain ⟨a, b, c⟩ := n
    simp (disch := first | omega | with_unfolding_all rfl) [pf143, env0_eq]
    refine G_scanC [0, 3, 7] 8 (fun i => match xs[i]? with | some x => decide ((⟨a, b, c⟩ : So) = x) | none => false) xs.length 0 (by simp) (Nat.zero_le _) ?_
    rintro i e - hi hz hk g8
    simp at hk
    simp (disch := first | omega | with_unfolding_all rfl) [hk, g8]
    refine G_brd (fun d => ?_) (fun d => ?_)
    · have hin : i < xs.length := by omega
      obtain ⟨x, hx⟩ : ∃ x, x = xs[i] := ⟨_, rfl⟩
      simp (disch := first | omega | with_unfolding_all rfl) [hk, g8, d, ← hx]
      cases c1 : (a == x.t && (b == x.p && c == x.o))
      · simp (disch := first | omega | with_unfolding_all rfl) [hk, g8]
        intro q; subst q; simp at c1
      · simp (disch := first | omega | with_unfolding_all rfl) [hk, g8]
        simp at c1
        have : (⟨a, b, c⟩ : So) = x := so_ext.2 c1
        rw [this, hx]; exact List.getElem_mem hin
    · simp (disch := first | omega | with_unfolding_all rfl) [hk, g8, d]
      intro hx
      obtain ⟨j, hj, hx⟩ := List.getElem_of_mem hx
      have := hz j (Nat.zero_le j) (by omega)
      simp only [List.getElem?_eq_getElem hj, hx] at this
      simp at this)
  exact ⟨i, h1, h2⟩
theorem contains_ok {nl : Nl} (xs : List So) (n : So) (h : xs.length ≤ 100000) : R tc 94 [lst nl xs, vSo n] = some (.bool (decide (n ∈ xs))) := by
  obtain ⟨i, h96, hi⟩ := index_ok (nl := nl) xs n h
  obtain ⟨a, b, c⟩ := n
  refine R_of_G (F := pf94) (tc_nat _ rfl) rfl rfl ?_
  have : decide (0 ≤ i) = decide ((⟨a, b, c⟩ : So) ∈ xs) := by rw [Bool.eq_iff_iff, decide_eq_true_eq, decide_eq_true_eq]; exact hi
  simp (disch := first | omega | with_unfolding_all rfl) [pf94, env0_eq, h96]
  simpa using this
def wy (t : Tr) : List So := t.s.reverse ++ t.a
theorem way_ok (t : Tr) (h1 : t.s.length ≤ 2000) (h2 : t.a.length ≤ 2000) : R tc 67 [vTr t] = some (lst .any (wy t)) := by
  obtain ⟨n, v, d, n1, s, n2, a⟩ := t
  dsimp only at h1 h2
  refine R_of_G (F := pf67) (tc_nat _ rfl) rfl rfl ?_
  simp (disch := first | omega | with_unfolding_all rfl) [pf67, env0_eq]
  refine G_loopK [1, 7] (fun (i : Nat) e h => i ≤ s.length ∧ get e 8 = .int .i64 (i : Int) ∧ get e 3 = mls So 0 i i ∧ h = [bk 54 i (s.reverse.take i)]) (fun i => s.length - i) (a₀ := 0) ⟨by omega, by simp, by simp [mls], by simp⟩ ?_
  rintro i e h hk ⟨hi, g8, g3, rfl⟩
  simp at hk
  have hlen : (s.reverse.take i).length = i := by simp; omega
  obtain ⟨acc, hacc⟩ : ∃ acc, acc = s.reverse.take i := ⟨_, rfl⟩
  rw [← hacc] at hlen ⊢
  simp (disch := first | omega | with_unfolding_all rfl) [hk, g8]
  refine G_brd (fun d => ?_) (fun d => ?_)
  · have hix : (s.length : Int) - 1 - i = ((s.length - 1 - i : Nat) : Int) := by omega
    have hl : s.length - 1 - i < s.length := by omega
    have hsn : acc ++ [s[s.length - 1 - i]] = s.reverse.take (i + 1) := by
      rw [hacc, List.take_add_one, List.getElem?_reverse (by omega)]
      simp [hl]
    simp (disch := first | omega | with_unfolding_all rfl) [hk, g8, g3, d, hix, hl, hsn]
    exact ⟨i + 1, by omega, by omega, by omega, rfl, rfl, rfl⟩
  · have hi2 : i = s.length := by omega
    subst hi2
    have hr : acc = s.reverse := by rw [hacc]; exact List.take_of_length_le (by simp)
    have hal : (acc ++ a).length = s.length + a.length := by simp; omega
    simp (disch := first | omega | with_unfolding_all rfl) [hk, g8, g3, d]
    by_cases ha : a = []
    · subst ha
      simp (disch := first | omega | with_unfolding_all rfl)
      simp [hr, wy]
    · simp (disch := first | omega | with_unfolding_all rfl) [ha]
      simp [hr, wy]
theorem reverse_ok {xs : List So} {b e g : Nat} {H : Hp} (hb : H[b]? = some (bk e g xs)) (hl : xs.length ≤ 100000) : RO tc 109 [mls So b g xs.length] H = some (.tup [], H.set b (bk e g xs.reverse)) := by
  have hbl : b < H.length := (List.getElem?_eq_some_iff.1 hb).1
  refine RO_of_G (F := pf109) (tc_natO _ _ rfl) rfl rfl ?_
  simp (disch := first | omega | with_unfolding_all rfl) [pf109, env0_eq]
  refine G_loopK [0] (fun (i : Nat) e' h => ∃ ys : List So, ys.length = xs.length ∧ get e' 2 = .int .i64 (i : Int) ∧ get e' 3 = .int .i64 ((xs.length : Int) - 1 - i) ∧ 2 * i ≤ xs.length ∧ h = H.set b (bk e g ys) ∧
      ∀ k, k < xs.length → ys[k]? = if k < i ∨ xs.length - 1 - i < k then xs[xs.length - 1 - k]? else xs[k]?) (fun i => xs.length - i) (a₀ := 0) ?_ ?_
  · refine ⟨xs, rfl, by simp, by simp, by omega, ?_, fun k hk => ?_⟩
    · symm
      apply List.ext_getElem?
      intro j
      rw [List.getElem?_set]
      split
      · rename_i q
        subst q
        rw [List.getElem?_eq_getElem hbl] at hb
        simp [hbl, Option.some.inj hb]
      · rfl
    · rw [if_neg (by omega)]
  rintro i e' h hk ⟨ys, hyl, g2, g3, hi, rfl, hy⟩
  simp at hk
  simp (disch := first | omega | with_unfolding_all rfl) [hk, g2, g3]
  refine G_brd (fun d => ?_) (fun d => ?_)
  · have hij : i < xs.length - 1 - i := by omega
    have hcj : (xs.length : Int) - 1 - i = ((xs.length - 1 - i : Nat) : Int) := by omega
    have hi1 : i < ys.length := by omega
    have hj1 : xs.length - 1 - i < ys.length := by omega
    have hset : ∀ y : So, xs.length - 1 - i < (ys.set i y).length := fun y => by simp; omega
    simp (disch := first | omega | exact hset _ | with_unfolding_all rfl) [hk, g2, g3, hcj, hbl, hi1, hj1]
    refine ⟨i + 1, by omega, _, ?_, by omega, by omega, by omega, rfl, ?_⟩
    · simp; omega
    intro k hk2
    rw [← List.getElem?_eq_getElem (l := xs) (i := xs.length - 1 - k) (by omega), List.getElem?_set, List.getElem?_set]
    have hyi := hy i (by omega)
    have hyj := hy (xs.length - 1 - i) (by omega)
    rw [List.getElem?_eq_getElem hi1, if_neg (by omega)] at hyi
    rw [List.getElem?_eq_getElem hj1, if_neg (by omega)] at hyj
    by_cases c1 : xs.length - 1 - i = k
    · rw [if_pos c1, if_pos (by simp; omega), if_pos (by omega)]
      have : xs.length - 1 - k = i := by omega
      rw [this, ← hyi]
    · rw [if_neg c1]
      by_cases c2 : i = k
      · rw [if_pos c2, if_pos (by omega), if_pos (by omega), ← c2, ← hyj]
      · rw [if_neg c2, hy k hk2]
        by_cases c3 : k < i ∨ xs.length - 1 - i < k
        · rw [if_pos c3, if_pos (by omega)]
        · rw [if_neg c3, if_neg (by omega)]
  · simp (disch := first | omega | with_unfolding_all rfl) [hk, g2, g3]
    congr 1
    have : ys = xs.reverse := by
      apply List.ext_getElem?
      intro k
      by_cases hk2 : k < xs.length
      · rw [hy k hk2, List.getElem?_reverse hk2]
        by_cases c3 : k < i ∨ xs.length - 1 - i < k
        · rw [if_pos c3]
        · rw [if_neg c3]
          congr 1; omega
      · rw [List.getElem?_eq_none (by omega), List.getElem?_eq_none (by simp; omega)]
    rw [this]
end Go.Proofs.YtiaeckidlmoohaaGreat
end
section
set_option linter.unusedVariables false
set_option linter.unusedSimpArgs false
set_option maxHeartbeats 8000000
set_option maxRecDepth 20000
namespace Go.Proofs.YtiaeckidlmoohaaGreat
open Go.Proofs.YtiaeckidlmoohaaGreat.PM
theorem tc_natS {α : Type} [Enc α] {f : Nat} {nl : Nl} {xs : List α} (hf : f ≠ 20) (h : xs ≠ []) : tc.nat f [lst nl xs] = none := by
  have h1 : memo LK f [lst nl xs] = none := by
    simp only [LK, memo]
    rw [if_neg (fun e => hf e.symm)]
  show (match memo LK f [lst nl xs] with | some r => some r | none => natT f [lst nl xs]) = none
  rw [h1]
  obtain ⟨y, ys, hy⟩ : ∃ y ys, cl xs = y :: ys := by
    cases c : cl xs with
    | nil => exact absurd (cl_eq_nil.1 c) h
    | cons y ys => exact ⟨y, ys, rfl⟩
  simp only [lst, hy]
  rfl
theorem tc_natOS {α : Type} [Enc α] {f : Nat} {nl : Nl} {xs : List α} {H : Hp} (h : xs ≠ []) : tc.natO f [lst nl xs] H = none := by
  obtain ⟨y, ys, hy⟩ : ∃ y ys, cl xs = y :: ys := by
    cases c : cl xs with
    | nil => exact absurd (cl_eq_nil.1 c) h
    | cons y ys => exact ⟨y, ys, rfl⟩
  show natOT f [lst nl xs] H = none
  simp only [lst, hy]
  rfl
theorem evApp_ex_lst {α : Type} [Enc α] {nl : Nl} {ys : List α} {H : Hp} {e s bytes : Nat} (hs : s = Enc.sz α) (hy : ys ≠ []) (hsz : ys.length * bytes ≤ 140737488355328) : evApp e s bytes (.list .ex (Enc.sz α) []) (lst nl ys) H = some (mls α H.length 1 ys.length, H ++ [bk e 1 ys]) := by
  have hx := srcOf_lst (nl := nl) (xs := ys) (H := H) s
  rw [if_pos hs] at hx
  have := evApp_lst (α := α) (nl := .ex) (xs := []) (e := e) (bytes := bytes) (H := H) hs (.inr rfl) hx hy (by simpa using hsz)
  simpa [lst] using this
theorem eqNil_lst {α : Type} [Enc α] {nl : Nl} {xs : List α} (hn : nl ≠ .nil) (h : xs ≠ []) (neg : Bool) (sz : Nat) : evEqNil neg (lst nl xs) (.list .nil sz []) = some (.bool neg) := by
  obtain ⟨y, ys, hy⟩ : ∃ y ys, cl xs = y :: ys := by
    cases c : cl xs with
    | nil => exact absurd (cl_eq_nil.1 c) h
    | cons y ys => exact ⟨y, ys, rfl⟩
  simp only [lst, hy]
  cases nl
  · exact absurd rfl hn
  all_goals cases neg <;> rfl
theorem cloneS_ok {nl : Nl} {xs : List So} {H : Hp} (hn : nl ≠ .nil) (h : xs ≠ []) (hb : xs.length ≤ 100000) : RO tc 78 [lst nl xs] H = some (mls So H.length 1 xs.length, H ++ [bk 54 1 xs]) := by
  refine RO_of_G (F := pf78) (tc_natOS h) rfl rfl ?_
  have hE := eqNil_lst hn h
  have hr0 : ∀ z, rep 0 z = [] := fun _ => by simp [rep]
  have hA := evApp_ex_lst (nl := nl) (H := H) (e := 54) (s := 3) (bytes := 24) rfl h (by omega)
  simp only [sz_so] at hA
  simp (disch := first | omega | with_unfolding_all rfl) [pf78, env0_eq, h, -evEqNil, hE, hr0, hA]
theorem cloneS0_ok {nl : Nl} {H : Hp} : RO tc 78 [lst nl ([] : List So)] H = some (lst .ex ([] : List So), H) := by
  have : tc.natO 78 [lst nl ([] : List So)] H = some (lst .ex ([] : List So), H) := rfl
  unfold RO callO
  rw [this]
theorem cloneP_ok {nl : Nl} (xs : List So) (hn : nl = .nil → xs = []) (hb : xs.length ≤ 100000) : R tc 78 [lst nl xs] = some (lst .any xs) := by
  by_cases h : xs = []
  · subst h
    have : tc.nat 78 [lst nl ([] : List So)] = some (lst .any ([] : List So)) := rfl
    unfold R callP
    rw [this]
  · refine R_of_G (F := pf78) (tc_natS (by decide) h) rfl rfl ?_
    have hE := eqNil_lst (nl := nl) (fun e => h (hn e)) h
    have hr0 : ∀ z, rep 0 z = [] := fun _ => by simp [rep]
    have hA := evApp_ex_lst (nl := nl) (H := []) (e := 54) (s := 3) (bytes := 24) rfl h (by omega)
    simp only [sz_so] at hA
    simp (disch := first | omega | with_unfolding_all rfl) [pf78, env0_eq, h, -evEqNil, hE, hr0, hA]
theorem whole_ok (t : Tr) (hn : t.n1 = .nil → t.s = []) (h0 : t.s = [] → t.a = []) (h1 : t.s.length ≤ 2000) (h2 : t.a.length ≤ 2000) : ∃ nl, (nl = .ex ∨ nl = .any) ∧ R tc 59 [vTr t] = some (lst nl (wy t)) := by
  obtain ⟨n, v, d, n1, s, n2, a⟩ := t
  dsimp only at hn h0 h1 h2
  by_cases hs : s = []
  · have ha := h0 hs
    subst hs ha
    refine ⟨.ex, .inl rfl, ?_⟩
    refine R_of_G (F := pf59) (tc_nat _ rfl) rfl rfl ?_
    have hc := fun H : Hp => cloneS0_ok (nl := n1) (H := H)
    have hr : RO tc 109 [lst .ex ([] : List So)] [] = some (.tup [], []) := by
      refine RO_of_G (F := pf109) (tc_natO _ _ rfl) rfl rfl ?_
      simp (disch := first | omega | with_unfolding_all rfl) [pf109, env0_eq]
      refine G_loopK [0] (fun (i : Nat) e' h => get e' 2 = .int .i64 0 ∧ get e' 3 = .int .i64 (-1) ∧ h = []) (fun i => 0) (a₀ := 0) ⟨by simp, by simp, rfl⟩ ?_
      rintro i e' h hk ⟨g2, g3, rfl⟩
      simp at hk
      simp (disch := first | omega | with_unfolding_all rfl) [hk, g2, g3]
    have hA : ∀ H : Hp, evApp 54 3 24 (lst .ex ([] : List So)) (lst n2 ([] : List So)) H = some (lst .ex ([] : List So), H) := fun H => by
      have hx := srcOf_lst (nl := n2) (xs := ([] : List So)) (H := H) 3
      rw [sz_so, if_pos rfl] at hx
      exact evApp_nil hx
    simp (disch := first | omega | with_unfolding_all rfl) [pf59, env0_eq, hc, hr, hA, wy]
  · refine ⟨.any, .inr rfl, ?_⟩
    refine R_of_G (F := pf59) (tc_nat _ rfl) rfl rfl ?_
    have hc := fun H : Hp => cloneS_ok (nl := n1) (xs := s) (H := H) (fun e => hs (hn e)) hs (by omega)
    have hr := reverse_ok (xs := s) (b := 0) (e := 54) (g := 1) (H := [bk 54 1 s]) rfl (by omega)
    simp (disch := first | omega | with_unfolding_all rfl) [pf59, env0_eq, hc, hr]
    have hrl : s.reverse.length = s.length := by simp
    by_cases ha : a = []
    · subst ha
      simp (disch := first | omega | with_unfolding_all rfl) [wy]
    · have hal : (s.reverse ++ a).length = s.length + a.length := by simp
      simp (disch := first | omega | with_unfolding_all rfl) [ha, wy]
end Go.Proofs.YtiaeckidlmoohaaGreat
end
