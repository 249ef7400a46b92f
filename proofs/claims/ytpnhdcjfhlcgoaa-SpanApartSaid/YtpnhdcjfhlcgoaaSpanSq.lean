/- Spans: what the iterator between yields. -/
import Derived.Test.YtpnhdcjfhlcgoaaSpanCode
import Derived.Test.YtpnhdcjfhlcgoaaPmTwentyOne
set_option linter.unusedVariables false
set_option linter.unusedSimpArgs false
set_option maxHeartbeats 1000000
set_option maxRecDepth 100000
namespace Go.Proofs.Ytpnhdcjfhlcgoaa
open Go.Proofs.Ytpnhdcjfhlcgoaa.PM
open Go.RowKit (Below)

/-- The step alone. -/
def tb0 : Table := ⟨[(39, pf39)], fun _ _ => none, fun _ _ _ => none, fun _ _ => none, fun _ _ => none⟩
theorem tb0_ok : TOk Try.prog tb0 := ⟨List.forall_mem_cons.2 ⟨pf39_ok, fun _ h => (List.not_mem_nil h).elim⟩, fun _ _ _ h => (by cases h), fun _ _ _ _ _ h => (by cases h), fun _ _ _ h => (by cases h), fun _ _ _ h => (by cases h), (by kernel_rfl)⟩

/-- The step between tiles of a line, and the line's direction. -/
def byI (w a b : Int) : Int := if b ≤ a then 0 else if a.tdiv w = b.tdiv w then 1 else if a.tmod w = b.tmod w then w else 0
def dirI (w a b : Int) : Int := if b ≤ a then 0 else if a.tdiv w = b.tdiv w then 0 else if a.tmod w = b.tmod w then 1 else 0

noncomputable abbrev vLand (w h : Int) (nl : Nl) (xs : List Int) : PV := .agg [.int .i64 w, .int .i64 h, lst nl xs]
abbrev vSpan (k a b u : Int) : PV := .agg [.int .i64 k, .int .i64 a, .int .i64 b, .int .i64 u]

theorem wrap_dv {a w : Int} (hw : 0 < w) (ha : 0 ≤ a) (hb : a ≤ 9223372036854775807) : IntKind.wrap .i64 (a.tdiv w) = a.tdiv w := by
  rw [tdiv_nn ha]
  have h1 : 0 ≤ a / w := Int.ediv_nonneg ha (by omega)
  have h2 : a / w ≤ a := Int.ediv_le_self _ ha
  rw [wrap_i64] <;> omega

theorem step_gen {T : Table} (hT1 : ∀ args, T.nat 39 args = none) (hT2 : findF T.fns 39 = some pf39) {w h k a b u : Int} {nl : Nl} {xs : List Int} (hw : 0 < w) (ha : 0 ≤ a) (hb : 0 ≤ b) (ha2 : a ≤ 9223372036854775807) (hb2 : b ≤ 9223372036854775807) :
    R T 39 [vLand w h nl xs, vSpan k a b u] = some (.tup [.int .i64 (byI w a b), .int .i64 (dirI w a b)]) := by
  have hw0 : w ≠ 0 := by omega
  refine R_of_G (F := pf39) (hT1 _) hT2 rfl ?_
  simp (disch := first | omega | with_unfolding_all rfl) [pf39, env0_eq]
  refine G_brd (fun h1 => ?_) (fun h1 => ?_)
  · simp (disch := first | omega | with_unfolding_all rfl) [byI, dirI, h1]
  simp (disch := first | omega | with_unfolding_all rfl) [hw0, wrap_dv hw ha ha2, wrap_dv hw hb hb2]
  refine G_brd (fun h2 => ?_) (fun h2 => ?_)
  · simp (disch := first | omega | with_unfolding_all rfl) [byI, dirI, h1, h2]
  simp (disch := first | omega | with_unfolding_all rfl) [hw0]
  refine G_brd (fun h3 => ?_) (fun h3 => ?_)
  · simp (disch := first | omega | with_unfolding_all rfl) [byI, dirI, h1, h2, h3]
  · simp (disch := first | omega | with_unfolding_all rfl) [byI, dirI, h1, h2, h3]

/-! ### The tiles -/
def btw (w a b : Int) : List Int := (List.range ((b - a - 1) / byI w a b).toNat).map fun i : Nat => a + ((i : Int) + 1) * byI w a b
def intB : PV → Bool | .int .i64 _ => true | _ => false
theorem intB_cl : ∀ {xs : List PV}, xs.all intB = true → ∃ ys : List Int, xs = cl ys
  | [], _ => ⟨[], rfl⟩
  | x :: xs, h => by
    rw [List.all_cons, Bool.and_eq_true] at h
    obtain ⟨ys, rfl⟩ := intB_cl h.2
    have h1 := h.1
    unfold intB at h1
    split at h1
    · rename_i n
      exact ⟨n :: ys, rfl⟩
    · cases h1
def sqT (g : Nat) (cs : List PV) : Option (List Int) := match cs with
  | [.pptr _ [.int .i64 w, .int .i64 _, .list _ 1 xs] 0, .pptr _ [.int .i64 _, .int .i64 a, .int .i64 b, .int .i64 _] 0] =>
    if g = 64 ∧ (0 < w ∧ w < 1000000) ∧ (0 ≤ a ∧ a < b ∧ b < 1000000000000) ∧ byI w a b ≠ 0 ∧ xs.all intB = true then some (btw w a b) else none
  | _ => none
theorem sqT_cases {g : Nat} {cs : List PV} {r : List Int} (h : sqT g cs = some r) : ∃ (p q : Bool) (w hh : Int) (nl : Nl) (ys : List Int) (k a b u : Int),
    cs = [.pptr p [.int .i64 w, .int .i64 hh, lst nl ys] 0, .pptr q [.int .i64 k, .int .i64 a, .int .i64 b, .int .i64 u] 0] ∧ g = 64 ∧ 0 < w ∧ w < 1000000 ∧ 0 ≤ a ∧ a < b ∧ b < 1000000000000 ∧ byI w a b ≠ 0 ∧ r = btw w a b := by
  unfold sqT at h
  split at h
  case h_2 => cases h
  split at h
  case isFalse => cases h
  rename_i w hh nl xs _ k a b u hc
  obtain ⟨rfl, ⟨h1, h2⟩, ⟨h3, h4, h5⟩, h6, h7⟩ := hc
  obtain ⟨ys, rfl⟩ := intB_cl h7
  simp only [Option.some.injEq] at h
  exact ⟨_, _, w, hh, nl, ys, k, a, b, u, rfl, rfl, h1, h2, h3, h4, h5, h6, h.symm⟩
theorem byI_pos {w a b : Int} (hw : 0 < w) (h : byI w a b ≠ 0) : 0 < byI w a b ∧ (byI w a b = 1 ∨ byI w a b = w) := by
  unfold byI at *
  split
  · rename_i q; simp [q] at h
  · rename_i q
    rw [if_neg q] at h
    split
    · exact ⟨by omega, .inl rfl⟩
    · rename_i q2
      rw [if_neg q2] at h
      split
      · exact ⟨hw, .inr rfl⟩
      · rename_i q3; rw [if_neg q3] at h; exact absurd rfl h
theorem btw_len {w a b : Int} : (btw w a b).length = ((b - a - 1) / byI w a b).toNat := by simp [btw]
theorem btw_get {w a b : Int} {i : Nat} (hi : i < (btw w a b).length) : (btw w a b)[i] = a + ((i : Int) + 1) * byI w a b := by simp [btw]
theorem btw_lt {w a b : Int} (hd : 0 < byI w a b) (hab : a < b) (i : Nat) : a + ((i : Int) + 1) * byI w a b < b ↔ i < (btw w a b).length := by
  rw [btw_len]
  generalize byI w a b = d at *
  have h0 : 0 ≤ (b - a - 1) / d := Int.ediv_nonneg (by omega) (by omega)
  constructor
  · intro h
    have : (i : Int) + 1 ≤ (b - a - 1) / d := (Int.le_ediv_iff_mul_le hd).2 (by omega)
    omega
  · intro h
    have : (i : Int) + 1 ≤ (b - a - 1) / d := by omega
    have := (Int.le_ediv_iff_mul_le hd).1 this
    omega

/-! ### The iterator's own code -/
def q0 : List ROp := [⟨some 8, none, .ld (some 3) (.tmp 1)⟩,
    ⟨some 9, none, .ld (some 4) (.tmp 2)⟩,
    ⟨some 10, none, .call 39 .pure [(.tmp 8), (.tmp 9)]⟩,
    ⟨some 7, none, .mv (.tmp 10)⟩,
    ⟨some 11, none, .ext 0 (.tmp 7)⟩,
    ⟨some 12, none, .ext 1 (.tmp 7)⟩,
    ⟨some 4, none, .mv (.tmp 11)⟩,
    ⟨some 5, none, .mv (.tmp 12)⟩]
def q1 : List ROp := [⟨some 13, none, .faddr 1 (.tmp 2)⟩,
    ⟨some 14, none, .ld none (.tmp 13)⟩,
    ⟨some 15, none, .mv (.tmp 4)⟩,
    ⟨some 16, none, .bin .add (.tmp 14) (.tmp 15)⟩,
    ⟨some 6, none, .mv (.tmp 16)⟩]
def q2 : List ROp := [⟨some 17, none, .mv (.tmp 6)⟩,
    ⟨some 18, none, .faddr 2 (.tmp 2)⟩,
    ⟨some 19, none, .ld none (.tmp 18)⟩,
    ⟨some 20, none, .bin .lss (.tmp 17) (.tmp 19)⟩]
def q3 : List ROp := [⟨some 21, none, .mv (.tmp 6)⟩,
    ⟨some 22, none, .mv (.tmp 4)⟩,
    ⟨some 23, none, .bin .add (.tmp 21) (.tmp 22)⟩,
    ⟨some 6, none, .mv (.tmp 23)⟩]
theorem pieces : ∃ (fn : Func) (o0 o1 o2 o3 : Array Oper) (p0 p1 p2 p3 : Oper) (ts : Array TypeId) (t : TypeId), Try.prog.funcs[64]? = some fn ∧ fn.ntmps = 28 ∧ fn.results = #[] ∧
    fn.body = some ((Code.region 0 o0 false).seq ((Code.region 1 o1 false).seq (Code.block 0 ((((Code.region 2 o2 false).seq (Code.cond (.tmp 20) .skip (.exit 0))).seq
      ((Code.block 1 ((Code.region 4 #[p0, p1, p2, p3] false).seq (Code.cond (.tmp 27) .ret .skip))).seq (Code.region 3 o3 false))).loop)))) ∧
    ropsOk Try.prog 28 o0 o0.toList q0 = true ∧ ropsOk Try.prog 28 o1 o1.toList q1 = true ∧ ropsOk Try.prog 28 o2 o2.toList q2 = true ∧ ropsOk Try.prog 28 o3 o3.toList q3 = true ∧
    (p0.op = .move (.tmp 0) ∧ p0.dst = some 24 ∧ p0.guard = none) ∧ (p1.op = .move (.tmp 6) ∧ p1.dst = some 25 ∧ p1.guard = none) ∧
    (p2.op = .call { callee := .value (.tmp 24), args := #[.tmp 25], argTypes := ts } ∧ p2.dst = some 26 ∧ p2.guard = none) ∧ (p3.op = .unOp .not t (.tmp 26) ∧ p3.dst = some 27 ∧ p3.guard = none) :=
  ⟨Try.f64, _, _, _, _, _, _, _, _, _, _, rfl, rfl, rfl, rfl, by kernel_rfl, by kernel_rfl, by kernel_rfl, by kernel_rfl, ⟨rfl, rfl, rfl⟩, ⟨rfl, rfl, rfl⟩, ⟨rfl, rfl, rfl⟩, ⟨rfl, rfl, rfl⟩⟩

theorem erel_of {K : KW} {N : Nat} {a : Act} (hs : a.tmps.size = N) : ∀ {env : Env}, (∀ t v, (t, v) ∈ env → ∃ u, a.tmps[t]? = some u ∧ Rep K v u) → ERel K N env a
  | [], _ => ⟨hs, fun t => trivial⟩
  | (j, v) :: r, h => by
    have ih := erel_of hs (env := r) fun t v hv => h t v (List.mem_cons_of_mem _ hv)
    refine ⟨hs, fun t => ?_⟩
    simp only [get_cons]
    split
    · rename_i e
      subst e
      obtain ⟨u, hu, hr⟩ := h j v (by simp)
      rw [Array.getD_eq_getD_getElem?, hu]
      exact hr
    · exact ih.slot t
theorem nrm {K : KW} {H : Hp} {cs : List PV} {l : List Value} (hH : HRel K H) (hr : RepL K cs l) (hp : PV.pureL cs) : ∃ K0 : KW, K0.w = K.w ∧ HRel K0 [] ∧ RepL K0 cs l := by
  refine ⟨⟨K.w, K.Z, fun g => g < K.w.heap.size, noMu⟩, rfl, hrel_nil _ _ _ fun g hg => hg.elim (fun q => hH.lt g (.inl q)) id, ?_⟩
  exact RepL.move (K := K) (K' := ⟨K.w, K.Z, fun g => g < K.w.heap.size, noMu⟩) (A := True) (B := False) (fun g hg => ⟨hg, rfl⟩) (fun _ g hg => ⟨.inr (hH.lt g (.inr hg)), rfl⟩) (fun q => q.elim) cs l (.inr trivial) (.inl hp) hr

structure St (l : Nat) (c1 c2 : Value) (a : Act) : Prop where
  size : a.tmps.size = 28
  t0 : a.tmps[0]? = some (.func (.yield l) #[] #[])
  t1 : a.tmps[1]? = some c1
  t2 : a.tmps[2]? = some c2
  df : a.defers = []

theorem rg {J : Nat → World → Prop} {v1 v2 : PV} {c1 c2 : Value} (hp : PV.pureL [v1, v2]) (hK : ∀ i W1, J i W1 → ∃ (K : KW) (H : Hp), K.w = W1 ∧ HRel K H ∧ RepL K [v1, v2] [c1, c2]) (hJ : ∀ i W1 W2, J i W1 → Below W1.heap.size W1 W2 → J i W2)
    {id : Nat} {ops : Array Oper} {rs : List ROp} (live : List Nat) (hok : ropsOk Try.prog 28 ops ops.toList rs = true) {i l : Nat} {a : Act} {w : World} (hS : St l c1 c2 a) (hj : J i w) (ex : List (Nat × Int)) (hex : ∀ x ∈ ex, a.tmps[x.1]? = some (.int .i64 x.2))
    (hd : ∀ r ∈ rs, r.dst ≠ some 0 ∧ r.dst ≠ some 1 ∧ r.dst ≠ some 2) {Post : Env → Prop} (hg : G tb0 [.ops rs live] .normal ((1, v1) :: (2, v2) :: ex.map fun x => (x.1, .int .i64 x.2)) [] (fun _ e' h' => h' = [] ∧ Post e')) {Q : Exit → Act → World → Prop}
    (hQ : ∀ a' w' e', Post e' → St l c1 c2 a' → J i w' → (∀ t n, t < 28 → get e' t = .int .i64 n → a'.tmps[t]? = some (.int .i64 n)) → (∀ t b, t < 28 → get e' t = .bool b → a'.tmps[t]? = some (.bool b)) → (∀ t, (∀ r ∈ rs, r.dst ≠ some t) → a'.tmps[t]? = a.tmps[t]?) → Q .normal a' w') :
    (Code.region id ops false).wpIn (fc none) 0 Try.prog Q a w := by
  obtain ⟨K, H, rfl, hH, hr⟩ := hK i w hj
  obtain ⟨K0, hw, hH0, hr0⟩ := nrm hH hr hp
  rw [← hw] at hj ⊢
  obtain ⟨_, _, e1, h1, _, _, e2, h2, e3⟩ := hr0
  simp only [List.cons.injEq] at e1
  obtain ⟨rfl, rfl⟩ := e1
  simp only [List.cons.injEq] at e2
  obtain ⟨rfl, rfl⟩ := e2
  refine region_okS tb0_ok hok hH0 (env := (1, v1) :: (2, v2) :: ex.map fun x => (x.1, .int .i64 x.2)) (live := live) ?_ hg Q ?_
  · refine erel_of hS.size fun t v hv => ?_
    simp only [List.mem_cons, Prod.mk.injEq, List.mem_map] at hv
    rcases hv with ⟨rfl, rfl⟩ | ⟨rfl, rfl⟩ | ⟨x, hx, rfl, rfl⟩
    · exact ⟨_, hS.t1, h1⟩
    · exact ⟨_, hS.t2, h2⟩
    · exact ⟨_, hex x hx, rfl⟩
  · intro K' a' e' hb hH' hE' hp' hd' ht
    have hslot : ∀ t, t < 28 → a'.tmps[t]? = some (a'.tmps.getD t Go.undef) := fun t h => by
      have := hE'.size
      rw [Array.getD_eq_getD_getElem?, Array.getElem?_eq_getElem (by omega)]
      rfl
    refine hQ a' K'.w e' hp' ⟨hE'.size, (ht 0 fun r hr => (hd r hr).1).trans hS.t0, (ht 1 fun r hr => (hd r hr).2.1).trans hS.t1, (ht 2 fun r hr => (hd r hr).2.2).trans hS.t2, hd'.trans hS.df⟩ (hJ i _ _ hj hb) ?_ ?_ ht
    · intro t n h hg
      have := hE'.slot t
      rw [hg] at this
      rw [hslot t h]
      exact congrArg some this
    · intro t b h hg
      have := hE'.slot t
      rw [hg] at this
      rw [hslot t h]
      exact congrArg some this

theorem wanted_none {ops : Array Oper} {o : Oper} {a : Act} (h : o.guard = none) : Region.wanted o (yielded ops a.tmps) = true := by simp [Region.wanted, h]
theorem opv {o : Oper} {a : Act} {w : World} {v : Value} {next : Act → World → Prop} {Q : Exit → Act → World → Prop} (hr : (execOp a.eval o).run Try.prog w = .ok (.value v) w) (h : next (a.put o.dst v) w) : o.wpIn (fc none) 0 Try.prog a w next Q := by
  refine ⟨fun _ _ => trivial, ?_⟩
  rw [show (fc none).round = none from rfl, semAt_ok hr (by intro d q; cases q), hr]
  exact h
theorem ev_of {a : Act} {t : Nat} {v : Value} (h : a.tmps[t]? = some v) : a.eval (.tmp t) = v := by
  simp only [Act.eval, Array.getD_eq_getD_getElem?, h, Option.getD_some]
theorem put_get1 {a : Act} {d : Nat} {v : Value} (h : d < a.tmps.size) : (a.put (some d) v).tmps[d]? = some v := by
  simp only [Act.put]
  rw [Array.getElem?_setIfInBounds_self_of_lt h]
theorem put_size {a : Act} {d : Option Nat} {v : Value} : (a.put d v).tmps.size = a.tmps.size := by cases d <;> simp [Act.put]
theorem St.put {l : Nat} {c1 c2 : Value} {a : Act} (h : St l c1 c2 a) {d : Nat} {v : Value} (hd : 3 ≤ d) : St l c1 c2 (a.put (some d) v) :=
  ⟨put_size.trans h.size, (put_get (by intro e; cases e; omega)).trans h.t0, (put_get (by intro e; cases e; omega)).trans h.t1, (put_get (by intro e; cases e; omega)).trans h.t2, (put_defers _ _ _).trans h.df⟩

theorem st_init (l : Nat) (c1 c2 : Value) {n : Nat} (hn : n = 28) : St l c1 c2 { tmps := (#[.func (.yield l) #[] #[]] ++ #[c1, c2]) ++ Array.replicate (n - (#[Value.func (.yield l) #[] #[]] ++ #[c1, c2]).size) Go.undef, defers := [] } := by
  subst hn
  refine ⟨?_, ?_, ?_, ?_, rfl⟩
  · simp
  · simp [Array.getElem?_append]
  · simp [Array.getElem?_append]
  · simp [Array.getElem?_append]
theorem pureL_ints : ∀ ys : List Int, PV.pureL (cl ys)
  | [] => trivial
  | y :: ys => ⟨trivial, pureL_ints ys⟩
theorem sq64_ok : SqOk Try.prog sqT := by
  intro g cs xs hxs
  obtain ⟨pb, qb, w, hh, nl, ys, k, a, b, u, rfl, rfl, hw, hw2, ha, hab, hb, hd0, rfl⟩ := sqT_cases hxs
  obtain ⟨hd, hd2⟩ := byI_pos hw hd0
  obtain ⟨fn, o0, o1, o2, o3, p0, p1, p2, p3, ts, ty, hfn, hnt, hres, hbody, k0, k1, k2, k3, ⟨p0a, p0b, p0c⟩, ⟨p1a, p1b, p1c⟩, ⟨p2a, p2b, p2c⟩, ⟨p3a, p3b, p3c⟩⟩ := pieces
  obtain ⟨_, _, _, _, hin, _⟩ := fnOk_spec pf64_ok
  refine ⟨hin, fun lb l J Jx W hK hJ hX hy h0 => ?_⟩
  obtain ⟨d, hdd⟩ : ∃ d, byI w a b = d := ⟨_, rfl⟩
  obtain ⟨v1, hv1⟩ : ∃ v, v = PV.pptr pb [.int .i64 w, .int .i64 hh, lst nl ys] 0 := ⟨_, rfl⟩
  obtain ⟨v2, hv2⟩ : ∃ v, v = PV.pptr qb [.int .i64 k, .int .i64 a, .int .i64 b, .int .i64 u] 0 := ⟨_, rfl⟩
  have hpur : PV.pureL [v1, v2] := by
    subst hv1 hv2
    refine ⟨⟨trivial, trivial, ?_, trivial⟩, ⟨trivial, trivial, trivial, trivial, trivial⟩, trivial⟩
    exact pureL_ints ys
  rw [← hv1, ← hv2] at hK
  obtain ⟨c1, c2, hlb⟩ : ∃ c1 c2, lb.toList = [c1, c2] := by
    obtain ⟨K, H, _, _, hr⟩ := hK 0 W h0
    obtain ⟨c1, _, e1, _, c2, _, e2, _, e3⟩ := hr
    refine ⟨c1, c2, ?_⟩
    rw [e1, e2, show _ = ([] : List Value) from e3]
  simp only [hlb] at hK
  obtain rfl : lb = #[c1, c2] := by apply Array.ext'; rw [hlb]
  have hlen : ∀ i : Nat, a + ((i : Int) + 1) * d < b ↔ i < (btw w a b).length := fun i => by rw [← hdd]; exact btw_lt hd hab i
  have hget : ∀ (i : Nat) (hi : i < (btw w a b).length), (btw w a b)[i] = a + ((i : Int) + 1) * d := fun i hi => by rw [← hdd]; exact btw_get hi
  generalize hxs' : btw w a b = xs at *
  suffices key : ∀ a0 : Act, St l c1 c2 a0 → ((Code.region 0 o0 false).seq ((Code.region 1 o1 false).seq (Code.block 0 ((((Code.region 2 o2 false).seq (Code.cond (.tmp 20) .skip (.exit 0))).seq
      ((Code.block 1 ((Code.region 4 #[p0, p1, p2, p3] false).seq (Code.cond (.tmp 27) .ret .skip))).seq (Code.region 3 o3 false))).loop)))).wpIn (fc none) 0 Try.prog (bodyPost Try.prog fn (fun e W2 => (∃ v, e = .returned v) ∧ (J xs.length W2 ∨ Jx W2))) a0 W by
    exact callsIn_of_wp hfn hbody trivial (key _ (st_init l c1 c2 hnt))
  intro a0 hS0
  have fin : ∀ (x : Exit) a' w', (x = .normal ∨ x = .ret) → St l c1 c2 a' → (J xs.length w' ∨ Jx w') → bodyPost Try.prog fn (fun e W2 => (∃ v, e = .returned v) ∧ (J xs.length W2 ∨ Jx W2)) x a' w' := by
    intro x a' w' hx hS hj
    have hrun : ∃ v, (results fn a'.tmps).run Try.prog w' = .ok v w' := by
      refine ⟨.tuple #[], ?_⟩
      simp [results, hres]
    obtain ⟨v, hv⟩ := hrun
    rcases hx with rfl | rfl <;> exact ⟨hS.df, v, hv, ⟨v, rfl⟩, hj⟩
  -- the step
  refine wpIn_seq (rg hpur hK hJ [4] k0 hS0 h0 [] (by simp) (by simp [q0]) (Post := fun e' => get e' 4 = .int .i64 d) ?_ ?_)
  · subst hv1 hv2
    simp (disch := first | omega | with_unfolding_all rfl) [q0, step_gen (T := tb0) (fun _ => rfl) rfl hw ha (show (0 : Int) ≤ b by omega) (by omega) (by omega), hdd]
  intro a1 w1 e1 he1 hS1 hj1 hi1 hz1 hu1
  have g4 := hi1 4 d (by omega) he1
  clear he1 hi1 hz1 hu1 e1
  refine wpIn_seq (rg hpur hK hJ [4, 6] k1 hS1 hj1 [(4, d)] (by simpa using g4) (by simp [q1]) (Post := fun e' => get e' 6 = .int .i64 (a + d)) ?_ ?_)
  · subst hv1 hv2
    simp (disch := first | omega | with_unfolding_all rfl) [q1]
  intro a2 w2 e2 he2 hS2 hj2 hi2 hz2 hu2
  have g6 := hi2 6 _ (by omega) he2
  have g4' : a2.tmps[4]? = some (.int .i64 d) := (hu2 4 (by simp [q1])).trans g4
  clear he2 hi2 hz2 hu2 e2
  refine wpIn_block (wpIn_loop_ghost (fun n a' w' => ∃ i : Nat, n + i = xs.length ∧ St l c1 c2 a' ∧ J i w' ∧ a'.tmps[4]? = some (.int .i64 d) ∧ a'.tmps[6]? = some (.int .i64 (a + ((i : Int) + 1) * d))) xs.length ⟨0, by omega, hS2, hj2, g4', by simpa using g6⟩ ?_)
  clear hS2 hj2 g4' g6 g4 hS1 hj1 hS0
  rintro n a3 w3 ⟨i, hni, hS3, hj3, g4, g6⟩
  refine wpIn_seq (wpIn_seq (rg hpur hK hJ [4, 6, 20] k2 hS3 hj3 [(4, d), (6, a + ((i : Int) + 1) * d)] (by simp [g4, g6]) (by simp [q2]) (Post := fun e' => get e' 20 = .bool (decide (a + ((i : Int) + 1) * d < b))) ?_ ?_))
  · subst hv1 hv2
    simp (disch := first | omega | with_unfolding_all rfl) [q2]
  intro a4 w4 e4 he4 hS4 hj4 hi4 hz4 hu4
  have g20 := hz4 20 _ (by omega) he4
  have h4 : a4.tmps[4]? = some (.int .i64 d) := (hu4 4 (by simp [q2])).trans g4
  have h6 : a4.tmps[6]? = some (.int .i64 (a + ((i : Int) + 1) * d)) := (hu4 6 (by simp [q2])).trans g6
  clear he4 hi4 hz4 hu4 e4 hS3 hj3 g4 g6
  refine wpIn_cond (ev_of g20) ?_
  by_cases hlt : i < xs.length
  case neg =>
    rw [if_neg (by rw [decide_eq_true_eq, hlen]; exact hlt)]
    obtain rfl : i = xs.length := by omega
    exact wpIn_exit (fin .normal a4 w4 (.inl rfl) hS4 (.inl hj4))
  rw [if_pos (by rw [decide_eq_true_eq, hlen]; exact hlt)]
  refine wpIn_skip ?_
  refine wpIn_seq (wpIn_block (wpIn_seq (wpIn_region ?_)))
  have hr0 : List.range (#[p0, p1, p2, p3] : Array Oper).size = [0, 1, 2, 3] := rfl
  rw [hr0, wpOpsIn_cons]
  -- the callee, the argument
  simp only [wpOpIn, List.getElem?_toArray, List.getElem?_cons_zero]
  rw [if_pos (wanted_none p0c)]
  refine opv (v := .func (.yield l) #[] #[]) (by simp [execOp, p0a, ev_of hS4.t0]) ?_
  rw [p0b, wpOpsIn_cons]
  have hS5 := hS4.put (d := 24) (v := .func (.yield l) #[] #[]) (by omega)
  obtain ⟨a5, ha5⟩ : ∃ x, x = a4.put (some 24) (.func (.yield l) #[] #[]) := ⟨_, rfl⟩
  rw [← ha5] at hS5 ⊢
  have f24 : a5.tmps[24]? = some (.func (.yield l) #[] #[]) := by subst ha5; exact put_get1 (by rw [hS4.size]; omega)
  have f4 : a5.tmps[4]? = some (.int .i64 d) := by subst ha5; exact (put_get (by simp)).trans h4
  have f6 : a5.tmps[6]? = some (.int .i64 (a + ((i : Int) + 1) * d)) := by subst ha5; exact (put_get (by simp)).trans h6
  clear ha5 hS4 h4 h6 g20
  simp only [wpOpIn, List.getElem?_toArray, List.getElem?_cons_zero, List.getElem?_cons_succ]
  rw [if_pos (wanted_none p1c)]
  refine opv (v := .int .i64 (a + ((i : Int) + 1) * d)) (by simp [execOp, p1a, ev_of f6]) ?_
  rw [p1b, wpOpsIn_cons]
  have hS6 := hS5.put (d := 25) (v := .int .i64 (a + ((i : Int) + 1) * d)) (by omega)
  obtain ⟨a6, ha6⟩ : ∃ x, x = a5.put (some 25) (.int .i64 (a + ((i : Int) + 1) * d)) := ⟨_, rfl⟩
  rw [← ha6] at hS6 ⊢
  have j24 : a6.tmps[24]? = some (.func (.yield l) #[] #[]) := by subst ha6; exact (put_get (by simp)).trans f24
  have j25 : a6.tmps[25]? = some (.int .i64 (a + ((i : Int) + 1) * d)) := by subst ha6; exact put_get1 (by rw [hS5.size]; omega)
  have j4 : a6.tmps[4]? = some (.int .i64 d) := by subst ha6; exact (put_get (by simp)).trans f4
  have j6 : a6.tmps[6]? = some (.int .i64 (a + ((i : Int) + 1) * d)) := by subst ha6; exact (put_get (by simp)).trans f6
  clear ha6 hS5 f24 f4 f6
  -- the round
  simp only [wpOpIn, List.getElem?_toArray, List.getElem?_cons_zero, List.getElem?_cons_succ]
  rw [if_pos (wanted_none p2c)]
  obtain ⟨yfn, ytm, yas, ybo, hrun, hround⟩ := hy i hlt w4 hj4
  rw [hget i hlt] at hrun
  have hrun2 : (execOp a6.eval p2).run Try.prog w4 = .ok (.round l yfn ytm yas ybo) w4 := by
    have e24 := ev_of j24
    have e25 := ev_of j25
    generalize a6.eval = ρ at e24 e25
    simp [execOp, p2a, resolve, e24, e25, Deferred.ofValue, invoke, hrun]
  refine ⟨fun _ _ => trivial, ?_⟩
  rw [show (fc none).round = none from rfl, semAt_ok hrun2 (by intro d q; cases q), hrun2, Oper.uponIn_round]
  refine ⟨fun h => (by cases h), hround.mono ?_⟩
  intro en w7 hen
  have nxt : ∀ (v : Value) (t : Bool) (w8 : World), v = .bool t → (t = true → J (i + 1) w8) → (t = false → Jx w8) → 
      wpOpsIn (fc none) 0 Try.prog #[p0, p1, p2, p3] (Exit.then (Code.wpIn (fc none) 0 Try.prog (Code.cond (Operand.tmp 27) Code.ret Code.skip) (Exit.inBlock 1 (Exit.then (Code.wpIn (fc none) 0 Try.prog (Code.region 3 o3 false) (Exit.then (fun a' w' => ∃ n', n' < n ∧ ∃ i : Nat, n' + i = xs.length ∧ St l c1 c2 a' ∧ J i w' ∧ a'.tmps[4]? = some (Value.int IntKind.i64 d) ∧ a'.tmps[6]? = some (Value.int IntKind.i64 (a + ((i : Int) + 1) * d))) (Exit.inBlock 0 (bodyPost Try.prog fn fun e W2 => (∃ v, e = Ending.returned v) ∧ (J xs.length W2 ∨ Jx W2))))) (Exit.then (fun a' w' => ∃ n', n' < n ∧ ∃ i : Nat, n' + i = xs.length ∧ St l c1 c2 a' ∧ J i w' ∧ a'.tmps[4]? = some (Value.int IntKind.i64 d) ∧ a'.tmps[6]? = some (Value.int IntKind.i64 (a + ((i : Int) + 1) * d))) (Exit.inBlock 0 (bodyPost Try.prog fn fun e W2 => (∃ v, e = Ending.returned v) ∧ (J xs.length W2 ∨ Jx W2))))))) 
        (Exit.inBlock 1 (Exit.then (Code.wpIn (fc none) 0 Try.prog (Code.region 3 o3 false) (Exit.then (fun a' w' => ∃ n', n' < n ∧ ∃ i : Nat, n' + i = xs.length ∧ St l c1 c2 a' ∧ J i w' ∧ a'.tmps[4]? = some (Value.int IntKind.i64 d) ∧ a'.tmps[6]? = some (Value.int IntKind.i64 (a + ((i : Int) + 1) * d))) (Exit.inBlock 0 (bodyPost Try.prog fn fun e W2 => (∃ v, e = Ending.returned v) ∧ (J xs.length W2 ∨ Jx W2))))) (Exit.then (fun a' w' => ∃ n', n' < n ∧ ∃ i : Nat, n' + i = xs.length ∧ St l c1 c2 a' ∧ J i w' ∧ a'.tmps[4]? = some (Value.int IntKind.i64 d) ∧ a'.tmps[6]? = some (Value.int IntKind.i64 (a + ((i : Int) + 1) * d))) (Exit.inBlock 0 (bodyPost Try.prog fn fun e W2 => (∃ v, e = Ending.returned v) ∧ (J xs.length W2 ∨ Jx W2))))))) [3] (a6.put p2.dst v) w8 := by
    rintro v t w8 rfl ht hf
    rw [p2b, wpOpsIn_cons]
    have hS7 := hS6.put (d := 26) (v := .bool t) (by omega)
    obtain ⟨a7, ha7⟩ : ∃ x, x = a6.put (some 26) (.bool t) := ⟨_, rfl⟩
    rw [← ha7] at hS7 ⊢
    have n26 : a7.tmps[26]? = some (.bool t) := by subst ha7; exact put_get1 (by rw [hS6.size]; omega)
    have n4 : a7.tmps[4]? = some (.int .i64 d) := by subst ha7; exact (put_get (by simp)).trans j4
    have n6 : a7.tmps[6]? = some (.int .i64 (a + ((i : Int) + 1) * d)) := by subst ha7; exact (put_get (by simp)).trans j6
    clear ha7
    simp only [wpOpIn, List.getElem?_toArray, List.getElem?_cons_zero, List.getElem?_cons_succ]
    rw [if_pos (wanted_none p3c)]
    refine opv (v := .bool (!t)) (by simp [execOp, p3a, ev_of n26, Op.unary, Op.intArith]) ?_
    rw [p3b]
    have hS8 := hS7.put (d := 27) (v := .bool (!t)) (by omega)
    obtain ⟨a8, ha8⟩ : ∃ x, x = a7.put (some 27) (.bool (!t)) := ⟨_, rfl⟩
    rw [← ha8] at hS8 ⊢
    have m27 : a8.tmps[27]? = some (.bool (!t)) := by subst ha8; exact put_get1 (by rw [hS7.size]; omega)
    have m4 : a8.tmps[4]? = some (.int .i64 d) := by subst ha8; exact (put_get (by simp)).trans n4
    have m6 : a8.tmps[6]? = some (.int .i64 (a + ((i : Int) + 1) * d)) := by subst ha8; exact (put_get (by simp)).trans n6
    clear ha8
    refine wpIn_cond (ev_of m27) ?_
    cases t with
    | false =>
      exact wpIn_ret (fin .ret a8 w8 (.inr rfl) hS8 (.inr (hf rfl)))
    | true =>
      refine wpIn_skip ?_
      refine rg hpur hK hJ [4, 6] k3 hS8 (ht rfl) [(4, d), (6, a + ((i : Int) + 1) * d)] (by simp [m4, m6]) (by simp [q3]) (Post := fun e' => get e' 6 = .int .i64 (a + ((i : Int) + 1) * d + d) ∧ get e' 4 = .int .i64 d) ?_ ?_
      · have hlt2 := (hlen i).2 hlt
        have hdw : d < 1000000 := by omega
        have h0d : 0 ≤ ((i : Int) + 1) * d := Int.mul_nonneg (by omega) (by omega)
        generalize ((i : Int) + 1) * d = z at *
        simp (disch := first | omega | with_unfolding_all rfl) [q3]
      intro a9 w9 e9 he9 hS9 hj9 hi9 hz9 hu9
      have r6 := hi9 6 _ (by omega) he9.1
      have r4 := hi9 4 _ (by omega) he9.2
      refine ⟨n - 1, by omega, i + 1, by omega, hS9, hj9, r4, ?_⟩
      rw [r6]
      congr 2
      push_cast
      rw [Int.add_mul, Int.add_mul, Int.add_mul]
      omega
  rcases hen with ⟨rfl, hj7⟩ | ⟨rfl, hj7⟩
  · exact nxt _ true w7 rfl (fun _ => hj7) (fun h => by cases h)
  · exact nxt _ false w7 rfl (fun h => by cases h) (fun _ => hj7)
end Go.Proofs.Ytpnhdcjfhlcgoaa
