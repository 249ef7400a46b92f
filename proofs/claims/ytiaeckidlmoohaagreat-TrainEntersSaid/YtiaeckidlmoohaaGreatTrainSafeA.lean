/- Several texts in one: TrainSafe, TrainSafe2, TrainSafe3. -/
import Derived.Test.YtiaeckidlmoohaaGreatTrainValA
section
set_option linter.unusedVariables false
set_option linter.unusedSimpArgs false
set_option maxHeartbeats 8000000
set_option maxRecDepth 20000
namespace Go.Proofs.YtiaeckidlmoohaaGreat
open Go.Proofs.YtiaeckidlmoohaaGreat.PM
def clsh (p q : Int) : Bool := decide (p = q) || !((decide (p + q = 6) && (decide (1 < p) && decide (1 < q))) || decide (p + q = 8))
theorem clsh_comm (p q : Int) : clsh p q = clsh q p := by
  unfold clsh
  by_cases h : p = q
  · subst h; rfl
  · have h' : ¬ q = p := fun e => h e.symm
    rw [decide_eq_false h, decide_eq_false h', Int.add_comm q p, Bool.and_comm (decide (1 < p))]
theorem clash_ok {p q : Int} (hp : 0 ≤ p ∧ p < 6) (hq : 0 ≤ q ∧ q < 6) : R tc 117 [.int .i64 p, .int .i64 q] = some (.bool (clsh p q)) := by
  have h1 : p = 0 ∨ p = 1 ∨ p = 2 ∨ p = 3 ∨ p = 4 ∨ p = 5 := by omega
  have h2 : q = 0 ∨ q = 1 ∨ q = 2 ∨ q = 3 ∨ q = 4 ∨ q = 5 := by omega
  rcases h1 with rfl | rfl | rfl | rfl | rfl | rfl <;> rcases h2 with rfl | rfl | rfl | rfl | rfl | rfl <;> exact R_of (n := 60) (by kernel_rfl)
def cla (a b : So) : Bool := decide (a.t = b.t) && clsh a.p b.p
theorem clash2_ok {a b : So} (ha : 0 ≤ a.p ∧ a.p < 6) (hb : 0 ≤ b.p ∧ b.p < 6) : R tc 118 [vSo a, vSo b] = some (.bool (cla a b)) := by
  obtain ⟨t, p, o⟩ := a
  obtain ⟨t', q, o'⟩ := b
  dsimp only at *
  refine R_of_G (F := pf118) (tc_nat _ rfl) rfl rfl ?_
  unfold cla
  by_cases h : t = t'
  · have h1 : p = 0 ∨ p = 1 ∨ p = 2 ∨ p = 3 ∨ p = 4 ∨ p = 5 := by omega
    have h2 : q = 0 ∨ q = 1 ∨ q = 2 ∨ q = 3 ∨ q = 4 ∨ q = 5 := by omega
    rcases h1 with rfl | rfl | rfl | rfl | rfl | rfl <;> rcases h2 with rfl | rfl | rfl | rfl | rfl | rfl <;> simp (disch := first | omega | with_unfolding_all rfl) [pf118, env0_eq, h, clsh]
  · simp (disch := first | omega | with_unfolding_all rfl) [pf118, env0_eq, h]
def mts (s : So) (l : List So) : Bool := l.any fun q => cla q s
def oths (ts : List Tr) (i : Int) : List So := ts.zipIdx.flatMap fun p => if (p.2 : Int) = i then [] else wy p.1
theorem oths_snoc (ts : List Tr) (x : Tr) (i : Int) : oths (ts ++ [x]) i = oths ts i ++ (if (ts.length : Int) = i then [] else wy x) := by
  simp [oths, List.zipIdx_append]
theorem oths_mem {ts : List Tr} {i : Int} {s : So} (h : s ∈ oths ts i) : ∃ t ∈ ts, s ∈ wy t := by
  unfold oths at h
  rw [List.mem_flatMap] at h
  obtain ⟨⟨t, k⟩, h1, h2⟩ := h
  dsimp only at h2
  split at h2
  · simp at h2
  · exact ⟨t, by
      have := List.mem_zipIdx h1
      rw [this.2.2]; exact List.getElem_mem _, h2⟩
structure HeldM (l : List So) (m : Mp) : Prop where
  wf : MN m
  kn : m.kn = none
  vals : ∀ v ∈ m.vs, ∃ z, v = .int .i64 z
  look : ∀ t : Int, (mfind m (.int .i64 t) = none ∧ ∀ s ∈ l, s.t ≠ t) ∨ ∃ v : Nat, mfind m (.int .i64 t) = some (.int .i64 v) ∧ v < 64 ∧ (∃ s ∈ l, s.t = t) ∧ ∀ p : Nat, p < 6 → v.testBit p = l.any fun s => decide (s.t = t) && decide (s.p = p)
theorem HeldM.empty : HeldM [] ⟨none, [], []⟩ := ⟨.empty _, rfl, fun v h => by simp at h, fun t => .inl ⟨rfl, by simp⟩⟩
theorem HeldM.val {l : List So} {m : Mp} (h : HeldM l m) (t : Int) : ∃ v : Nat, (mfind m (.int .i64 t)).getD (.int .i64 0) = .int .i64 v ∧ v < 64 ∧ ∀ p : Nat, p < 6 → v.testBit p = l.any fun s => decide (s.t = t) && decide (s.p = p) := by
  rcases h.look t with ⟨h1, h2⟩ | ⟨v, h1, h2, _, h3⟩
  · refine ⟨0, by rw [h1]; rfl, by decide, fun p hp => ?_⟩
    rw [Nat.zero_testBit]
    symm
    rw [Bool.eq_false_iff]
    intro q
    rw [List.any_eq_true] at q
    obtain ⟨s, hs, q⟩ := q
    simp at q
    exact h2 s hs q.1
  · exact ⟨v, by rw [h1]; rfl, h2, h3⟩
theorem HeldM.put {l : List So} {m : Mp} (h : HeldM l m) {s : So} (hp : 0 ≤ s.p ∧ s.p < 6) {v : Nat} (hv : (mfind m (.int .i64 s.t)).getD (.int .i64 0) = .int .i64 v) :
    HeldM (l ++ [s]) (mput m (.int .i64 s.t) (.int .i64 ((v ||| 2 ^ s.p.toNat : Nat) : Int))) := by
  have hx : keyB m.kn (.int .i64 s.t) = true := by rw [h.kn]; rfl
  obtain ⟨v', h1, h2, h3⟩ := h.val s.t
  rw [hv] at h1
  have hvv : v = v' := by simp at h1; omega
  subst hvv
  refine ⟨h.wf.put hx _, by rw [mput_kn]; exact h.kn, fun w hw => ?_, fun t => ?_⟩
  · rcases mput_vs hw with rfl | hw
    · exact ⟨_, rfl⟩
    · exact h.vals w hw
  · by_cases c : s.t = t
    · right
      subst c
      refine ⟨_, mfind_put_eq h.wf.toMW hx _, ?_, ⟨s, by simp, rfl⟩, fun p hp6 => ?_⟩
      · have : 2 ^ s.p.toNat < 2 ^ 6 := Nat.pow_lt_pow_right (by decide) (by omega)
        exact Nat.or_lt_two_pow (n := 6) (by omega) this
      · rw [Nat.testBit_or, h3 p hp6, List.any_append, Nat.testBit_two_pow]
        congr 1
        rw [Bool.eq_iff_iff]
        simp
        omega
    · rw [mfind_put_ne h.wf.toMW hx (by rw [h.kn]; rfl) (fun e => c (by simpa using e))]
      rcases h.look t with ⟨h4, h5⟩ | ⟨w, h4, h5, h6, h7⟩
      · exact .inl ⟨h4, fun q hq => by
          rw [List.mem_append, List.mem_singleton] at hq
          rcases hq with hq | rfl
          · exact h5 q hq
          · exact c⟩
      · refine .inr ⟨w, h4, h5, ?_, fun p hp6 => ?_⟩
        · obtain ⟨q, hq, hqt⟩ := h6
          exact ⟨q, by simp [hq], hqt⟩
        · rw [h7 p hp6, List.any_append]
          simp [c]
inductive Held (l : List So) : PV → Prop
  | mk (ks vs : List PV) (h : HeldM l ⟨none, ks, vs⟩) : Held l (.fmap false none ks vs)
theorem or_nat (a b : Nat) (ha : a < 64) (hb : b < 64) : evBin .or (.int .i64 a) (.int .i64 b) = some (.int .i64 ((a ||| b : Nat) : Int)) := by
  have h : ((BitVec.ofInt 64 (a : Int) ||| BitVec.ofInt 64 (b : Int)).toNat : Int) = ((a ||| b : Nat) : Int) := by
    rw [BitVec.toNat_or, BitVec.toNat_ofInt, BitVec.toNat_ofInt]
    have e1 : ((a : Int) % ((2 ^ 64 : Nat) : Int)).toNat = a := by omega
    have e2 : ((b : Int) % ((2 ^ 64 : Nat) : Int)).toNat = b := by omega
    rw [e1, e2]
  have hl : a ||| b < 2 ^ 6 := Nat.or_lt_two_pow ha hb
  show some (PV.int .i64 (IntKind.i64.wrap ((BitVec.ofInt 64 (a : Int) ||| BitVec.ofInt 64 (b : Int)).toNat : Int))) = _
  rw [h, wrapI (by omega) (by omega)]
theorem held_ok {y : Yd} {F : PV} (hF : Fd y F) (i : Int) (ht : y.t.length ≤ 60) (hk : Yk y) (hf : ∀ t ∈ y.t, t.s = [] → t.a = []) (hl : ∀ t ∈ y.t, ∀ s ∈ wy t, 0 ≤ s.p ∧ s.p < 6) :
    ∃ M, R tc 69 [F, .int .i64 i] = some M ∧ Held (oths y.t i) M := by
  obtain ⟨v, h1, h2⟩ := R_ex (T := tc) (f := 69) (F := pf69) (args := [F, .int .i64 i]) (Rq := fun v => Held (oths y.t i) v) (tc_nat _ rfl) rfl rfl (by
    obtain ⟨ks1, vs1, ks2, vs2, -, -⟩ := hF
    have hmk : ∀ H, evMkm none H = (.mmap H.length, H ++ [mpB ⟨none, [], []⟩]) := fun _ => rfl
    simp (disch := first | omega | with_unfolding_all rfl) [pf69, env0_eq, hmk]
    refine G_loopK [1, 5, 13, 14] (fun (k : Nat) e h => k ≤ y.t.length ∧ get e 15 = .int .i64 (k : Int) ∧ ∃ m, HeldM (oths (y.t.take k) i) m ∧ h = [mpB m]) (fun k => y.t.length - k) (a₀ := 0) ⟨by omega, by simp, _, HeldM.empty, rfl⟩ ?_
    rintro k e h hk2 ⟨hkl, g15, m, hm, rfl⟩
    simp at hk2
    have hnr : ∀ n, PV.noRefL n m.vs = true := fun n => noRefL_iff.2 fun w hw => by obtain ⟨z, rfl⟩ := hm.vals w hw; rfl
    simp (disch := first | omega | with_unfolding_all rfl) [hk2, g15]
    refine G_brd (fun d => ?_) (fun d => ?_)
    · have hin : k < y.t.length := by omega
      obtain ⟨x, hx⟩ : ∃ x, x = y.t[k] := ⟨_, rfl⟩
      have hxm : x ∈ y.t := by rw [hx]; exact List.getElem_mem hin
      have htl : (y.t.take k).length = k := by simp; omega
      have hsn : oths (y.t.take (k + 1)) i = oths (y.t.take k) i ++ (if (k : Int) = i then [] else wy x) := by
        rw [List.take_add_one, List.getElem?_eq_getElem hin, ← hx]
        show oths (y.t.take k ++ [x]) i = _
        rw [oths_snoc, htl]
      have hkt := hk.tr x hxm
      obtain ⟨nl, hnl, hwh⟩ := whole_ok x hkt.2.2 (hf x hxm) (by omega) (by omega)
      obtain ⟨W, hW⟩ : ∃ W, W = wy x := ⟨_, rfl⟩
      have hWl : W.length ≤ 2200 := by rw [hW]; simp [wy]; omega
      have hWp := hl x hxm
      rw [← hW] at hsn hwh hWp
      simp (disch := first | omega | with_unfolding_all rfl) [hk2, g15, d, ← hx]
      by_cases c : (k : Int) = i
      · rw [if_pos c, List.append_nil] at hsn
        simp (disch := first | omega | with_unfolding_all rfl) [hk2, g15, c, hnr]
        refine ⟨k + 1, by omega, by omega, by omega, ?_⟩
        rw [hsn]; exact hm
      · rw [if_neg c] at hsn
        simp (disch := first | omega | with_unfolding_all rfl) [hk2, g15, c, hwh]
        obtain ⟨bx, hbx⟩ : ∃ bx : Blk, bx = ⟨68, 0, [.int .i64 x.n, .int .i64 x.v, .int .i64 x.d, lst x.n1 x.s, lst x.n2 x.a], none⟩ := ⟨_, rfl⟩
        have hbn : ∀ n, bx.nr n = true := fun n => by rw [hbx]; simp
        rw [← hbx]
        refine G_loopK [1, 5, 13, 14, 15, 24, 25] (fun (j : Nat) e h => j ≤ W.length ∧ get e 26 = .int .i64 (j : Int) ∧ ∃ m, HeldM (oths (y.t.take k) i ++ W.take j) m ∧ h = [mpB m, bx]) (fun j => W.length - j) (a₀ := 0) ⟨by omega, by simp, m, by simpa using hm, rfl⟩ ?_
        rintro j e2 h hk3 ⟨hj, g26, m2, hm2, rfl⟩
        simp at hk3
        have hnr2 : ∀ n, PV.noRefL n m2.vs = true := fun n => noRefL_iff.2 fun w hw => by obtain ⟨z, rfl⟩ := hm2.vals w hw; rfl
        simp (disch := first | omega | with_unfolding_all rfl) [hk3, g26, g15]
        refine G_brd (fun d2 => ?_) (fun d2 => ?_)
        · have hjn : j < W.length := by omega
          obtain ⟨z, hz⟩ : ∃ z, z = W[j] := ⟨_, rfl⟩
          have hzp := hWp z (by rw [hz]; exact List.getElem_mem hjn)
          have hsj : W.take (j + 1) = W.take j ++ [z] := by rw [List.take_add_one, List.getElem?_eq_getElem hjn, hz]; rfl
          obtain ⟨v, hv1, hv2, -⟩ := hm2.val z.t
          have hput := hm2.put hzp hv1
          obtain ⟨P, hP⟩ : ∃ P : Nat, z.p = P := ⟨z.p.toNat, by omega⟩
          have hP6 : P < 6 := by omega
          have hPn : ¬ (P : Int) < 0 := by omega
          have hmin : min P IntKind.i64.bits = P := Nat.min_eq_left (by show P ≤ 64; omega)
          have hpw6 : 2 ^ P < 64 := by
            have : 2 ^ P < 2 ^ 6 := Nat.pow_lt_pow_right (by decide) hP6
            omega
          obtain ⟨Q, hQ⟩ : ∃ Q : Nat, Q = 2 ^ P := ⟨_, rfl⟩
          rw [← hQ] at hpw6
          have hpe : (2 : Int) ^ P = (Q : Int) := by rw [hQ]; push_cast; rfl
          have hwr : IntKind.i64.wrap ((2 : Int) ^ P) = (Q : Int) := by rw [hpe]; exact wrapI (by omega) (by omega)
          have hor := or_nat v Q hv2 hpw6
          have hPt : z.p.toNat = P := by omega
          rw [hPt, ← hQ] at hput
          have hlk : ∀ bs : Hp, evMlk none (.int .i64 0) false (.mmap 0) (.int .i64 z.t) (mpB m2 :: bs) = some (.int .i64 v) := fun bs => by
            rw [evMlk_mmap (keyB_i z.t) (m := m2) rfl hm2.kn]; simp [hv1]
          have hup : ∀ bs : Hp, evMup none (.mmap 0) (.int .i64 z.t) (.int .i64 ((v ||| Q : Nat) : Int)) (mpB m2 :: bs) = some (mpB (mput m2 (.int .i64 z.t) (.int .i64 ((v ||| Q : Nat) : Int))) :: bs) := fun bs => by
            rw [evMup_mmap (keyB_i z.t) (m := m2) rfl hm2.kn]; rfl
          have hnr3 : ∀ n, PV.noRefL n (mput m2 (.int .i64 z.t) (.int .i64 ((v ||| Q : Nat) : Int))).vs = true := fun n => noRefL_iff.2 fun w hw => by obtain ⟨q, rfl⟩ := hput.vals w hw; rfl
          simp (disch := first | omega | with_unfolding_all rfl) [hk3, g26, d2, ← hz, hlk, hP, hPn, hmin, hwr, hor, hup, hnr2, hnr3, hbn]
          refine ⟨j + 1, by omega, by omega, by omega, ?_⟩
          rw [hsj, ← List.append_assoc]
          exact hput
        · have hj2 : j = W.length := by omega
          rw [hj2, List.take_length, ← hsn] at hm2
          simp (disch := first | omega | with_unfolding_all rfl) [hk3, g26, g15, hk2, d2, hnr2, hbn]
          exact ⟨k + 1, by omega, by omega, by omega, hm2⟩
    · have hi2 : k = y.t.length := by omega
      rw [hi2, List.take_length] at hm
      have hz1 : frz [mpB m] .any 64 (.mmap 0) = some (.fmap false none m.ks m.vs) := by
        rw [show (64 : Nat) = 63 + 1 from rfl, frz_mmap (b := 0) (m := m) rfl id (fun v hv => by obtain ⟨z, rfl⟩ := hm.vals v hv; exact ⟨rfl, rfl⟩), hm.kn, List.map_id]; rfl
      simp (disch := first | omega | with_unfolding_all rfl) [hk2, g15, d, hnr, hz1]
      obtain ⟨kn, ks, vs⟩ := m
      obtain rfl : kn = none := hm.kn
      exact Held.mk _ _ hm)
  exact ⟨v, h1, h2⟩
end Go.Proofs.YtiaeckidlmoohaaGreat
end
section
set_option linter.unusedVariables false
set_option linter.unusedSimpArgs false
set_option maxHeartbeats 8000000
set_option maxRecDepth 20000
namespace Go.Proofs.YtiaeckidlmoohaaGreat
open Go.Proofs.YtiaeckidlmoohaaGreat.PM
theorem bit_fdiv (v p : Nat) : decide ((v : Int).fdiv (2 ^ p) % 2 = 1) = v.testBit p := by
  have h1 : (v : Int).fdiv (2 ^ p) = ((v / 2 ^ p : Nat) : Int) := by
    rw [Int.fdiv_eq_ediv_of_nonneg _ (Int.le_of_lt (Int.pow_pos (by omega)))]
    push_cast; rfl
  rw [h1, Nat.testBit_eq_decide_div_mod_eq, Bool.eq_iff_iff, decide_eq_true_eq, decide_eq_true_eq]
  omega
theorem hit_ok {l : List So} {M : PV} (hM : Held l M) (hl : ∀ q ∈ l, 0 ≤ q.p ∧ q.p < 6) {s : So} (hs : 0 ≤ s.p ∧ s.p < 6) : R tc 72 [M, vSo s] = some (.bool (mts s l)) := by
  obtain ⟨ks, vs, h⟩ := hM
  obtain ⟨v, hv, hv6, hb⟩ := h.val s.t
  obtain ⟨t, p, o⟩ := s
  dsimp only at *
  have hm : mts ⟨t, p, o⟩ l = anyN (fun j => v.testBit j && clsh j p) 0 6 := by
    rw [Bool.eq_iff_iff]
    unfold mts cla anyN
    rw [List.any_eq_true, List.any_eq_true]
    constructor
    · rintro ⟨q, hq, h1⟩
      rw [Bool.and_eq_true, decide_eq_true_eq] at h1
      dsimp only at h1
      have hqp := hl q hq
      refine ⟨q.p.toNat, by simp; omega, ?_⟩
      have e : ((q.p.toNat : Nat) : Int) = q.p := by omega
      rw [hb _ (by omega), Bool.and_eq_true, e]
      refine ⟨?_, h1.2⟩
      rw [List.any_eq_true]
      exact ⟨q, hq, by simp [h1.1]⟩
    · rintro ⟨j, hj, h1⟩
      have hj6 : j < 6 := by simp at hj; omega
      rw [hb j hj6, Bool.and_eq_true, List.any_eq_true] at h1
      obtain ⟨⟨q, hq, h2⟩, h3⟩ := h1
      simp at h2
      refine ⟨q, hq, ?_⟩
      rw [Bool.and_eq_true, decide_eq_true_eq]
      exact ⟨h2.1, by rw [h2.2]; exact h3⟩
  have hmk : evMlk none (.int .i64 0) false (.fmap false none ks vs) (.int .i64 t) [] = some (.int .i64 v) := by
    rw [evMlk_fmap (keyB_i t)]
    simp [hv]
  refine R_of_G (F := pf72) (tc_nat _ rfl) rfl rfl ?_
  simp (disch := first | omega | with_unfolding_all rfl) [pf72, env0_eq]
  refine G_scanC [0, 3] 6 (fun j => v.testBit j && clsh j p) 6 0 (by simp) (Nat.zero_le _) ?_
  rintro j e - hj hz hk g6
  simp at hk
  simp (disch := first | omega | with_unfolding_all rfl) [hk, g6]
  refine G_brd (fun d => ?_) (fun d => ?_)
  · have hP : ¬ (j : Int) < 0 := by omega
    have hmin : min j IntKind.i64.bits = j := Nat.min_eq_left (by show j ≤ 64; omega)
    have hcl := clash_ok (p := (j : Int)) (q := p) (by omega) hs
    have hbf := bit_fdiv v j
    simp (disch := first | omega | with_unfolding_all rfl) [hk, g6, d, hmk, hP, hmin]
    rw [hbf]
    cases c : v.testBit j
    · simp (disch := first | omega | with_unfolding_all rfl) [hk, g6, c]
      try omega
    · simp (disch := first | omega | with_unfolding_all rfl) [hk, g6, c, hcl]
      cases c2 : clsh j p
      · simp (disch := first | omega | with_unfolding_all rfl) [hk, g6, c, c2]
        try omega
      · have hbt : mts ⟨t, p, o⟩ l = true := by rw [hm]; exact anyN_t (Nat.zero_le j) (by omega) (by rw [c, c2]; rfl)
        simp (disch := first | omega | with_unfolding_all rfl) [hbt]
  · have hbf : mts ⟨t, p, o⟩ l = false := by rw [hm]; exact anyN_f fun j h1 h2 => hz j h1 (by omega)
    simp (disch := first | omega | with_unfolding_all rfl) [hk, g6, d, hbf]
theorem Val.oths {y : Yd} (v : Val y) (i : Int) : ∀ q ∈ oths y.t i, 0 ≤ q.p ∧ q.p < 6 := fun q hq => by
  obtain ⟨t, ht, hs⟩ := oths_mem hq
  exact lieS_p (v.lies t ht q hs)
theorem Val.held {y : Yd} (v : Val y) {F : PV} (hF : Fd y F) (i : Int) : ∃ M, R tc 69 [F, .int .i64 i] = some M ∧ Held (Go.Proofs.YtiaeckidlmoohaaGreat.oths y.t i) M :=
  held_ok hF i (Val.parts v.e).2.2.1 v.k v.emp fun t ht s hs => lieS_p (v.lies t ht s hs)
def badSf (y : Yd) (i : Nat) : Bool := match y.t[i]? with | some t => (wy t).any fun s => mts s (oths y.t i) | none => false
noncomputable def safeV (y : Yd) : PV := if yErr y = 0 then .tup [.bool (!anyN (badSf y) 0 y.t.length), .int .i64 0] else .tup [.bool false, .int .i64 (yErr y)]
end Go.Proofs.YtiaeckidlmoohaaGreat
end
section
set_option linter.unusedVariables false
set_option linter.unusedSimpArgs false
set_option maxHeartbeats 8000000
set_option maxRecDepth 20000
namespace Go.Proofs.YtiaeckidlmoohaaGreat
open Go.Proofs.YtiaeckidlmoohaaGreat.PM
theorem oths_len {ts : List Tr} {i : Int} {B : Nat} (h : ∀ t ∈ ts, (wy t).length ≤ B) : (oths ts i).length ≤ ts.length * B := by
  have key : ∀ l : List (Tr × Nat), (∀ p ∈ l, (wy p.1).length ≤ B) → (l.flatMap fun p => if (p.2 : Int) = i then ([] : List So) else wy p.1).length ≤ l.length * B := by
    intro l
    induction l with
    | nil => intro _; simp
    | cons p l ih =>
      intro hl
      rw [List.flatMap_cons, List.length_append, List.length_cons, Nat.add_mul]
      have h1 := ih fun q hq => hl q (by simp [hq])
      have h2 := hl p (by simp)
      have h3 : (if (p.2 : Int) = i then ([] : List So) else wy p.1).length ≤ B := by
        split
        · simp
        · exact h2
      omega
  have := key ts.zipIdx fun p hp => h p.1 (by
    have := List.mem_zipIdx (x := p.1) (i := p.2) hp
    rw [this.2.2]; exact List.getElem_mem _)
  simpa [oths] using this
theorem others_ok (y : Yd) (k : Yk y) (ht : y.t.length ≤ 60) (i : Int) : R tc 73 [vYd y, .int .i64 i] = some (lst .any (oths y.t i)) := by
  have hwl : ∀ t ∈ y.t, (wy t).length ≤ 2200 := fun t h => by have := k.tr t h; simp [wy]; omega
  refine R_of_G (F := pf73) (tc_nat _ rfl) rfl rfl ?_
  simp (disch := first | omega | with_unfolding_all rfl) [pf73, env0_eq]
  refine G_loopK [1, 9, 10] (fun (j : Nat) e h => j ≤ y.t.length ∧ get e 11 = .int .i64 (j : Int) ∧ ∃ g, get e 5 = mls So 0 g (oths (y.t.take j) i).length ∧ h = [bk 54 g (oths (y.t.take j) i)]) (fun j => y.t.length - j) (a₀ := 0) ⟨by omega, by simp, 0, rfl, rfl⟩ ?_
  rintro j e h hk ⟨hj, g11, g, g5, rfl⟩
  simp at hk
  obtain ⟨acc, hacc⟩ : ∃ acc, acc = oths (y.t.take j) i := ⟨_, rfl⟩
  have hal : acc.length ≤ 60 * 2200 := by
    rw [hacc]
    refine Nat.le_trans (oths_len (B := 2200) fun t h => hwl t (List.mem_of_mem_take h)) ?_
    have : (y.t.take j).length ≤ 60 := by simp; omega
    exact Nat.mul_le_mul_right _ this
  rw [← hacc] at g5 ⊢
  simp (disch := first | omega | with_unfolding_all rfl) [hk, g11]
  refine G_brd (fun d => ?_) (fun d => ?_)
  · have hin : j < y.t.length := by omega
    obtain ⟨x, hx⟩ : ∃ x, x = y.t[j] := ⟨_, rfl⟩
    have hxm : x ∈ y.t := by rw [hx]; exact List.getElem_mem hin
    have htl : (y.t.take j).length = j := by simp; omega
    have hsn : oths (y.t.take (j + 1)) i = acc ++ (if (j : Int) = i then [] else wy x) := by
      rw [List.take_add_one, List.getElem?_eq_getElem hin, ← hx, hacc]
      show oths (y.t.take j ++ [x]) i = _
      rw [oths_snoc, htl]
    have hkt := k.tr x hxm
    have hw := way_ok x (by omega) (by omega)
    have hwx := hwl x hxm
    simp (disch := first | omega | with_unfolding_all rfl) [hk, g11, g5, d, ← hx]
    by_cases c : (j : Int) = i
    · rw [if_pos c, List.append_nil] at hsn
      simp (disch := first | omega | with_unfolding_all rfl) [hk, g11, g5, c]
      exact ⟨j + 1, by omega, by omega, by omega, g, by rw [hsn], rfl, by rw [hsn]⟩
    · rw [if_neg c] at hsn
      simp (disch := first | omega | with_unfolding_all rfl) [hk, g11, g5, c, hw]
      by_cases hw0 : wy x = []
      · rw [hw0, List.append_nil] at hsn
        simp (disch := first | omega | with_unfolding_all rfl) [hk, g11, g5, hw0]
        exact ⟨j + 1, by omega, by omega, by omega, g, by rw [hsn], rfl, by rw [hsn]⟩
      · simp (disch := first | omega | with_unfolding_all rfl) [hk, g11, g5, hw0]
        exact ⟨j + 1, by omega, by omega, by omega, g + 1, by rw [hsn, List.length_append], rfl, by rw [hsn]⟩
  · have hi2 : j = y.t.length := by omega
    have e1 : acc = oths y.t i := by rw [hacc, hi2, List.take_length]
    simp (disch := first | omega | with_unfolding_all rfl) [hk, g11, g5, d]
    rw [e1]
theorem meets_ok {nl : Nl} {l : List So} {s : So} (hl : l.length ≤ 1000000) (h : ∀ q ∈ l, 0 ≤ q.p ∧ q.p < 6) (hs : 0 ≤ s.p ∧ s.p < 6) : R tc 74 [vSo s, lst nl l] = some (.bool (mts s l)) := by
  have hm : mts s l = anyN (fun j => match l[j]? with | some q => cla s q | none => false) 0 l.length := by
    have hc : ∀ q, cla q s = cla s q := fun q => by
      unfold cla
      rw [clsh_comm q.p s.p]
      congr 1
      rw [Bool.eq_iff_iff]; simp; omega
    unfold mts anyN
    rw [Bool.eq_iff_iff, List.any_eq_true, List.any_eq_true]
    constructor
    · rintro ⟨q, hq, h1⟩
      obtain ⟨j, hj, rfl⟩ := List.getElem_of_mem hq
      refine ⟨j, by simp; omega, ?_⟩
      simp only [List.getElem?_eq_getElem hj]
      rw [← hc]; exact h1
    · rintro ⟨j, hj, h1⟩
      have hj' : j < l.length := by simp at hj; omega
      simp only [List.getElem?_eq_getElem hj'] at h1
      exact ⟨l[j], List.getElem_mem hj', by rw [hc]; exact h1⟩
  refine R_of_G (F := pf74) (tc_nat _ rfl) rfl rfl ?_
  simp (disch := first | omega | with_unfolding_all rfl) [pf74, env0_eq]
  refine G_scanC [2, 7, 8] 9 (fun j => match l[j]? with | some q => cla s q | none => false) l.length 0 (by simp) (Nat.zero_le _) ?_
  rintro j e - hj hz hk g9
  simp at hk
  simp (disch := first | omega | with_unfolding_all rfl) [hk, g9]
  refine G_brd (fun d => ?_) (fun d => ?_)
  · have hin : j < l.length := by omega
    obtain ⟨x, hx⟩ : ∃ x, x = l[j] := ⟨_, rfl⟩
    have hc := clash2_ok (a := s) (b := x) hs (h x (by rw [hx]; exact List.getElem_mem hin))
    simp only [vSo] at hc
    simp (disch := first | omega | with_unfolding_all rfl) [hk, g9, d, ← hx, hc]
    cases c : cla s x
    · simp (disch := first | omega | with_unfolding_all rfl) [hk, g9, c]
      try omega
    · have hbt : mts s l = true := by rw [hm]; exact anyN_t (Nat.zero_le j) hin (by simp only [List.getElem?_eq_getElem hin]; rw [← hx]; exact c)
      simp (disch := first | omega | with_unfolding_all rfl) [hbt]
  · have hbf : mts s l = false := by rw [hm]; exact anyN_f fun j h1 h2 => hz j h1 (by omega)
    simp (disch := first | omega | with_unfolding_all rfl) [hk, g9, d, hbf]
theorem Val.othl {y : Yd} (v : Val y) (i : Int) : (Go.Proofs.YtiaeckidlmoohaaGreat.oths y.t i).length ≤ 132000 := by
  refine Nat.le_trans (oths_len (B := 2200) fun t h => ?_) ?_
  · have := v.k.tr t h; simp [wy]; omega
  · exact Nat.mul_le_mul_right 2200 (Val.parts v.e).2.2.1
end Go.Proofs.YtiaeckidlmoohaaGreat
end
