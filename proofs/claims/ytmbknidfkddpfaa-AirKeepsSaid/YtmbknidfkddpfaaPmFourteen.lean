/- The pure machine, part 14: rules for runs of symbolic values: what is still to be done stands as a list of pieces. -/
import Derived.Test.YtmbknidfkddpfaaPmThirteen
set_option linter.unusedVariables false
set_option linter.unusedSimpArgs false
namespace Go.Proofs.Ytmbknidfkddpfaa.PM

/-- What is still to be done. -/
inductive Fr where
  | code (p : PCode)
  | ops (rs : List ROp) (live : List Nat)
  | grd (b : Option Bool) (d : Option Nat) (op : POp) (rs : List ROp) (live : List Nat)
  | got (o : Option PV) (d : Option Nat) (rs : List ROp) (live : List Nat)
  | gotE (o : Option (PV × Hp)) (d : Option Nat) (rs : List ROp) (live : List Nat)
  | br (v : PV) (a b : PCode)
  | blk (id : Nat)
  | trm (n : Nat)
  | stop (R : Env → Hp → Prop)

abbrev Post := PX → Env → Hp → Prop

section
variable (T : Table)
/-- What a piece does. -/
noncomputable def frX : Fr → Env → Hp → Option (PX × Env × Hp)
  | .code p, e, h => X T p e h
  | .ops rs live, e, h => (runSeq (R T) (RO T) fzB T.meth rs e h).map fun q => (.normal, normE live q.1, q.2)
  | .grd b d op rs live, e, h => b.bind fun b => (if b then (evOp (R T) (RO T) fzB T.meth e h op).bind fun q => runSeq (R T) (RO T) fzB T.meth rs (put e d q.1) q.2 else runSeq (R T) (RO T) fzB T.meth rs (put e d (.tup [])) h).map fun q => (.normal, normE live q.1, q.2)
  | .got o d rs live, e, h => o.bind fun v => (runSeq (R T) (RO T) fzB T.meth rs (put e d v) h).map fun q => (.normal, normE live q.1, q.2)
  | .gotE o d rs live, e, h => o.bind fun v => (runSeq (R T) (RO T) fzB T.meth rs (put e d v.1) v.2).map fun q => (.normal, normE live q.1, q.2)
  | .br v a b, e, h => (match v with | .bool t => X T (if t then a else b) e h | _ => none)
  | _, e, h => some (.normal, e, h)
/-- It runs to an end at which Q holds. -/
def G : List Fr → PX → Env → Hp → Post → Prop
  | [], x, e, h, Q => Q x e h
  | .blk id :: k, .exit i, e, h, Q => G k (if i = id then .normal else .exit i) e h Q
  | .trm n :: k, x, e, h, Q => trimOk n e h = true ∧ G k x e (h.take n) Q
  | .stop R :: _, .normal, e, h, _ => R e h
  | f :: k, .normal, e, h, Q => ∃ q, frX T f e h = some q ∧ G k q.1 q.2.1 q.2.2 Q
  | _ :: k, x, e, h, Q => G k x e h Q
end

section
variable {T : Table} {k : List Fr} {e : Env} {h : Hp} {Q : Post}

@[simp] theorem G_nil {x : PX} : G T [] x e h Q = Q x e h := by rw [G]
@[simp] theorem G_blk_exit {id i : Nat} : G T (.blk id :: k) (.exit i) e h Q = G T k (if i = id then .normal else .exit i) e h Q := by rw [G]
@[simp] theorem G_blk_normal {id : Nat} : G T (.blk id :: k) .normal e h Q = G T k .normal e h Q := by simp [G, frX]
@[simp] theorem G_blk_ret {id : Nat} : G T (.blk id :: k) .ret e h Q = G T k .ret e h Q := by simp [G]
@[simp] theorem G_trm {n : Nat} {x : PX} : G T (.trm n :: k) x e h Q = (trimOk n e h = true ∧ G T k x e (h.take n) Q) := by cases x <;> simp [G]
@[simp] theorem G_stop_normal {R : Env → Hp → Prop} : G T (.stop R :: k) .normal e h Q = R e h := by simp [G]
@[simp] theorem G_stop_exit {R : Env → Hp → Prop} {i : Nat} : G T (.stop R :: k) (.exit i) e h Q = G T k (.exit i) e h Q := by simp [G]
@[simp] theorem G_stop_ret {R : Env → Hp → Prop} : G T (.stop R :: k) .ret e h Q = G T k .ret e h Q := by simp [G]
@[simp] theorem G_code_exit {p : PCode} {i : Nat} : G T (.code p :: k) (.exit i) e h Q = G T k (.exit i) e h Q := by simp [G]
@[simp] theorem G_code_ret {p : PCode} : G T (.code p :: k) .ret e h Q = G T k .ret e h Q := by simp [G]
theorem G_code {p : PCode} : G T (.code p :: k) .normal e h Q = ∃ q, X T p e h = some q ∧ G T k q.1 q.2.1 q.2.2 Q := by simp [G, frX]
theorem G_code' {p : PCode} : G T (.code p :: k) .normal e h Q = ∃ q, step T (X T) p e h = some q ∧ G T k q.1 q.2.1 q.2.2 Q := by rw [G_code, X_step]
@[simp] theorem G_seq {a b : PCode} : G T (.code (.seq a b) :: k) .normal e h Q = G T (.code a :: .code b :: k) .normal e h Q := by
  rw [G_code', G_code]
  simp only [step, Option.bind_eq_some_iff, eq_iff_iff]
  constructor
  · rintro ⟨q, ⟨p, hp, hq⟩, hg⟩
    refine ⟨p, hp, ?_⟩
    obtain ⟨x, e1, h1⟩ := p
    cases x
    · rw [G_code]; exact ⟨q, hq, hg⟩
    · simp only [Option.some.injEq] at hq; subst hq; rw [G_code_exit]; exact hg
    · simp only [Option.some.injEq] at hq; subst hq; rw [G_code_ret]; exact hg
  · rintro ⟨⟨x, e1, h1⟩, hp, hg⟩
    cases x
    · simp only [G_code] at hg
      obtain ⟨q, hq, hg⟩ := hg
      exact ⟨q, ⟨_, hp, hq⟩, hg⟩
    · simp only [G_code_exit] at hg; exact ⟨_, ⟨_, hp, rfl⟩, hg⟩
    · simp only [G_code_ret] at hg; exact ⟨_, ⟨_, hp, rfl⟩, hg⟩
@[simp] theorem G_skip : G T (.code .skip :: k) .normal e h Q = G T k .normal e h Q := by rw [G_code']; simp [step]
@[simp] theorem G_ext {i : Nat} : G T (.code (.ext i) :: k) .normal e h Q = G T k (.exit i) e h Q := by rw [G_code']; simp [step]
@[simp] theorem G_ret : G T (.code .ret :: k) .normal e h Q = G T k .ret e h Q := by rw [G_code']; simp [step]
@[simp] theorem G_blk {id : Nat} {p : PCode} : G T (.code (.blk id p) :: k) .normal e h Q = G T (.code p :: .blk id :: k) .normal e h Q := by
  rw [G_code', G_code]
  simp only [step, Option.map_eq_some_iff, eq_iff_iff]
  constructor
  · rintro ⟨q, ⟨⟨x, e1, h1⟩, hp, rfl⟩, hg⟩
    refine ⟨_, hp, ?_⟩
    cases x
    · simpa using hg
    · rename_i i
      simp only [G_blk_exit] at hg ⊢
      by_cases hi : i = id <;> simpa [hi] using hg
    · simpa using hg
  · rintro ⟨⟨x, e1, h1⟩, hp, hg⟩
    refine ⟨_, ⟨_, hp, rfl⟩, ?_⟩
    cases x
    · simpa using hg
    · rename_i i
      simp only [G_blk_exit] at hg ⊢
      by_cases hi : i = id <;> simpa [hi] using hg
    · simpa using hg
@[simp] theorem G_trim {p : PCode} : G T (.code (.trim p) :: k) .normal e h Q = G T (.code p :: .trm h.length :: k) .normal e h Q := by
  rw [G_code', G_code]
  simp only [step, Option.bind_eq_some_iff, eq_iff_iff]
  constructor
  · rintro ⟨q, ⟨⟨x, e1, h1⟩, hp, hq⟩, hg⟩
    refine ⟨_, hp, ?_⟩
    split at hq
    · rename_i ht
      simp only [Option.some.injEq] at hq
      subst hq
      rw [G_trm]; exact ⟨ht, hg⟩
    · cases hq
  · rintro ⟨⟨x, e1, h1⟩, hp, hg⟩
    rw [G_trm] at hg
    refine ⟨_, ⟨_, hp, if_pos hg.1⟩, hg.2⟩
@[simp] theorem G_cond {c : POpd} {a b : PCode} : G T (.code (.cond c a b) :: k) .normal e h Q = G T (.br (ev e c) a b :: k) .normal e h Q := by
  rw [G_code']
  simp only [step, G, frX]
  cases ev e c <;> rfl
@[simp] theorem G_br_true {a b : PCode} : G T (.br (.bool true) a b :: k) .normal e h Q = G T (.code a :: k) .normal e h Q := by
  rw [G_code]; simp [G, frX]
@[simp] theorem G_br_false {a b : PCode} : G T (.br (.bool false) a b :: k) .normal e h Q = G T (.code b :: k) .normal e h Q := by
  rw [G_code]; simp [G, frX]
theorem G_br {t : Bool} {a b : PCode} (h1 : t = true → G T (.code a :: k) .normal e h Q) (h2 : t = false → G T (.code b :: k) .normal e h Q) : G T (.br (.bool t) a b :: k) .normal e h Q := by
  cases t
  · rw [G_br_false]; exact h2 rfl
  · rw [G_br_true]; exact h1 rfl
@[simp] theorem G_reg {rs : List ROp} {live : List Nat} : G T (.code (.reg rs [] live) :: k) .normal e h Q = G T (.ops rs live :: k) .normal e h Q := by
  rw [G_code']
  simp [step, G, frX, runReg, R, RO]
  rfl
theorem G_reg_chk {rs : List ROp} {chk : List (Nat × Nat)} {live : List Nat} (hc : chk.all (ckOne (R T) (RO T) fzB T.meth rs e h) = true) (hg : G T (.ops rs live :: k) .normal e h Q) : G T (.code (.reg rs chk live) :: k) .normal e h Q := by
  rw [G_code']
  simp only [G, frX] at hg
  simp only [step]
  obtain ⟨q, hq, hg⟩ := hg
  refine ⟨q, ?_, hg⟩
  rw [← hq]
  congr 1
  unfold runReg
  split
  · rfl
  · have : chk.all (ckOne (callP T (X T)) (callO T (X T)) fzB T.meth rs e h) = true := hc
    rw [if_pos this]; rfl
@[simp] theorem G_ops_nil {live : List Nat} : G T (.ops [] live :: k) .normal e h Q = G T k .normal (normE live e) h Q := by simp [G, frX, runSeq]
@[simp] theorem G_ops {d : Option Nat} {op : POp} {rs : List ROp} {live : List Nat} (hE : isE op = false) : G T (.ops (⟨d, none, op⟩ :: rs) live :: k) .normal e h Q = G T (.got (evR (R T) fzB T.meth e h op) d rs live :: k) .normal e h Q := by
  simp only [G, frX, runSeq, gd, Option.bind_some, if_true, evOp, hE, Bool.false_eq_true, if_false]
  cases evR (R T) fzB T.meth e h op <;> simp
@[simp] theorem G_opsE {d : Option Nat} {op : POp} {rs : List ROp} {live : List Nat} (hE : isE op = true) : G T (.ops (⟨d, none, op⟩ :: rs) live :: k) .normal e h Q = G T (.gotE (evE (RO T) T.meth e h op) d rs live :: k) .normal e h Q := by
  simp only [G, frX, runSeq, gd, Option.bind_some, if_true, evOp, hE]
  cases evE (RO T) T.meth e h op <;> simp
@[simp] theorem G_opsG {d : Option Nat} {g : Nat × Bool} {op : POp} {rs : List ROp} {live : List Nat} : G T (.ops (⟨d, some g, op⟩ :: rs) live :: k) .normal e h Q = G T (.grd (gd e (some g)) d op rs live :: k) .normal e h Q := by
  simp only [G, frX, runSeq]
  cases gd e (some g) <;> simp
@[simp] theorem G_grd_true {d : Option Nat} {op : POp} {rs : List ROp} {live : List Nat} : G T (.grd (some true) d op rs live :: k) .normal e h Q = G T (.ops (⟨d, none, op⟩ :: rs) live :: k) .normal e h Q := by
  simp only [G, frX, runSeq, gd, Option.bind_some, if_true]
@[simp] theorem G_grd_false {d : Option Nat} {op : POp} {rs : List ROp} {live : List Nat} : G T (.grd (some false) d op rs live :: k) .normal e h Q = G T (.ops rs live :: k) .normal (put e d (.tup [])) h Q := by
  simp only [G, frX, Option.bind_some, Bool.false_eq_true, if_false]
theorem G_grd {t : Bool} {d : Option Nat} {op : POp} {rs : List ROp} {live : List Nat} (h1 : t = true → G T (.ops (⟨d, none, op⟩ :: rs) live :: k) .normal e h Q) (h2 : t = false → G T (.ops rs live :: k) .normal (put e d (.tup [])) h Q) :
    G T (.grd (some t) d op rs live :: k) .normal e h Q := by
  cases t
  · rw [G_grd_false]; exact h2 rfl
  · rw [G_grd_true]; exact h1 rfl
@[simp] theorem G_got {v : PV} {d : Nat} {rs : List ROp} {live : List Nat} : G T (.got (some v) (some d) rs live :: k) .normal e h Q = G T (.ops rs live :: k) .normal ((d, v) :: e) h Q := by simp [G, frX, put]
@[simp] theorem G_got_none {v : PV} {rs : List ROp} {live : List Nat} : G T (.got (some v) none rs live :: k) .normal e h Q = G T (.ops rs live :: k) .normal e h Q := by simp [G, frX, put]
@[simp] theorem G_gotE {v : PV} {h' : Hp} {d : Nat} {rs : List ROp} {live : List Nat} : G T (.gotE (some (v, h')) (some d) rs live :: k) .normal e h Q = G T (.ops rs live :: k) .normal ((d, v) :: e) h' Q := by simp [G, frX, put]
@[simp] theorem G_gotE_none {v : PV} {h' : Hp} {rs : List ROp} {live : List Nat} : G T (.gotE (some (v, h')) none rs live :: k) .normal e h Q = G T (.ops rs live :: k) .normal e h' Q := by simp [G, frX, put]

theorem G_brd {p : Prop} [Decidable p] {a b : PCode} (h1 : p → G T (.code a :: k) .normal e h Q) (h2 : ¬p → G T (.code b :: k) .normal e h Q) : G T (.br (.bool (decide p)) a b :: k) .normal e h Q :=
  G_br (fun q => h1 (of_decide_eq_true q)) fun q => h2 (of_decide_eq_false q)
@[simp] theorem G_br_not {t : Bool} {a b : PCode} : G T (.br (.bool (!t)) a b :: k) .normal e h Q = G T (.br (.bool t) b a :: k) .normal e h Q := by
  cases t <;> simp
theorem G_grdd {p : Prop} [Decidable p] {d : Option Nat} {op : POp} {rs : List ROp} {live : List Nat} (h1 : p → G T (.ops (⟨d, none, op⟩ :: rs) live :: k) .normal e h Q) (h2 : ¬p → G T (.ops rs live :: k) .normal (put e d (.tup [])) h Q) :
    G T (.grd (some (decide p)) d op rs live :: k) .normal e h Q := G_grd (fun q => h1 (of_decide_eq_true q)) fun q => h2 (of_decide_eq_false q)
theorem G_grdn {p : Prop} [Decidable p] {d : Option Nat} {op : POp} {rs : List ROp} {live : List Nat} (h1 : ¬p → G T (.ops (⟨d, none, op⟩ :: rs) live :: k) .normal e h Q) (h2 : p → G T (.ops rs live :: k) .normal (put e d (.tup [])) h Q) :
    G T (.grd (some (!decide p)) d op rs live :: k) .normal e h Q := G_grd (fun q => h1 (by simpa using q)) fun q => h2 (by simpa using q)
@[simp] theorem put_some (d : Nat) (v : PV) : put e (some d) v = (d, v) :: e := rfl
@[simp] theorem put_none (v : PV) : put e none v = e := rfl

/-- A weaker end. -/
theorem G.mono {Q' : Post} (hQ : ∀ x e h, Q x e h → Q' x e h) : ∀ {k : List Fr} {x : PX} {e : Env} {h : Hp}, G T k x e h Q → G T k x e h Q'
  | [], x, e, h, hg => by rw [G_nil] at hg ⊢; exact hQ _ _ _ hg
  | f :: k, x, e, h, hg => by
    cases f <;> cases x <;> simp only [G, frX, G_trm] at hg ⊢
    all_goals
      first
        | exact hg
        | exact G.mono hQ hg
        | exact ⟨hg.1, G.mono hQ hg.2⟩
        | (obtain ⟨q, hq, hg⟩ := hg; exact ⟨q, hq, G.mono hQ hg⟩)

theorem G.stop_mono {R R' : Env → Hp → Prop} (hR : ∀ e h, R e h → R' e h) {p : PCode} (hg : G T (.code p :: .stop R :: k) .normal e h Q) : G T (.code p :: .stop R' :: k) .normal e h Q := by
  rw [G_code] at hg ⊢
  obtain ⟨⟨x, e1, h1⟩, hp, hg⟩ := hg
  refine ⟨_, hp, ?_⟩
  cases x
  · rw [G_stop_normal] at hg ⊢; exact hR _ _ hg
  · rw [G_stop_exit] at hg ⊢; exact hg
  · rw [G_stop_ret] at hg ⊢; exact hg
theorem G_unroll {p : PCode} : G T (.code (.loop p) :: k) .normal e h Q = G T (.code p :: .code (.loop p) :: k) .normal e h Q := by
  rw [G_code', G_code]
  simp only [step, Option.bind_eq_some_iff, eq_iff_iff]
  constructor
  · rintro ⟨q, ⟨⟨x, e1, h1⟩, hp, hq⟩, hg⟩
    refine ⟨_, hp, ?_⟩
    cases x
    · rw [G_code]; exact ⟨q, hq, hg⟩
    · simp only [Option.some.injEq] at hq; subst hq; rw [G_code_exit]; exact hg
    · simp only [Option.some.injEq] at hq; subst hq; rw [G_code_ret]; exact hg
  · rintro ⟨⟨x, e1, h1⟩, hp, hg⟩
    cases x
    · simp only [G_code] at hg
      obtain ⟨q, hq, hg⟩ := hg
      exact ⟨q, ⟨_, hp, hq⟩, hg⟩
    · simp only [G_code_exit] at hg; exact ⟨_, ⟨_, hp, rfl⟩, hg⟩
    · simp only [G_code_ret] at hg; exact ⟨_, ⟨_, hp, rfl⟩, hg⟩

/-- A range over an iterator that yields xs. -/
theorem G_rng {x : POpd} {p : Nat} {a b : PCode} {xs : List Int} (hs : rngSrc T (ev e x) = some xs) (J : Nat → Hp → Prop) (h0 : J 0 h)
    (hstep : ∀ i (hi : i < xs.length) h', J i h' → G T [.code a] .normal ((p, .int .i64 xs[i]) :: e) h' (fun y e1 h1 => y = .normal ∧ G T [.code b, .stop (fun _ h2 => J (i + 1) h2)] .normal e1 h1 (fun y _ h2 => y ≠ .normal ∧ G T k y e h2 Q)))
    (hdone : ∀ h', J xs.length h' → G T k .normal e h' Q) : G T (.code (.rng x p a b) :: k) .normal e h Q := by
  rw [G_code']
  simp only [step, hs, Option.bind_some]
  have key : ∀ (n i : Nat) (h' : Hp), i + n = xs.length → J i h' → ∃ q, rngRun (X T) p a b e (xs.drop i) h' = some q ∧ G T k q.1 q.2.1 q.2.2 Q := by
    intro n
    induction n with
    | zero =>
      intro i h' hi hj
      obtain rfl : i = xs.length := by omega
      rw [List.drop_length]
      exact ⟨_, rfl, hdone _ hj⟩
    | succ n ih =>
      intro i h' hi hj
      have hlt : i < xs.length := by omega
      have hst := hstep i hlt h' hj
      rw [G_code] at hst
      obtain ⟨⟨y, e1, h1⟩, hx1, hst⟩ := hst
      rw [G_nil] at hst
      obtain ⟨hy, hst⟩ := hst
      dsimp only at hy
      subst hy
      rw [G_code] at hst
      obtain ⟨⟨z, e2, h2⟩, hx2, hst⟩ := hst
      rw [List.drop_eq_getElem_cons hlt]
      simp only [rngRun, hx1, hx2, Option.bind_some]
      cases z with
      | normal =>
        rw [G_stop_normal] at hst
        exact ih (i + 1) h2 (by omega) hst
      | exit id =>
        rw [G_stop_exit, G_nil] at hst
        exact ⟨_, rfl, hst.2⟩
      | ret =>
        rw [G_stop_ret, G_nil] at hst
        exact ⟨_, rfl, hst.2⟩
  have := key xs.length 0 h (by omega) h0
  rwa [List.drop_zero] at this
/-- **A loop**: I holds at its head; each round leads to I again, with less left to do, or out of the loop. -/
theorem G_loop {α : Type} {p : PCode} (I : α → Env → Hp → Prop) (m : α → Nat) {a₀ : α} (h0 : I a₀ e h)
    (hstep : ∀ a e h, I a e h → G T (.code p :: .stop (fun e h => ∃ a', m a' < m a ∧ I a' e h) :: k) .normal e h Q) : G T (.code (.loop p) :: k) .normal e h Q := by
  have key : ∀ (n : Nat) (a : α) (e : Env) (h : Hp), m a = n → I a e h → G T (.code (.loop p) :: k) .normal e h Q := by
    intro n
    induction n using Nat.strongRecOn with
    | _ n ih =>
      intro a e h hm hI
      have hs := hstep a e h hI
      rw [G_code] at hs
      obtain ⟨⟨x, e1, h1⟩, hp, hs⟩ := hs
      rw [G_code']
      cases x
      · simp only [G_stop_normal] at hs
        obtain ⟨a', hlt, hI'⟩ := hs
        have := ih (m a') (by omega) a' e1 h1 rfl hI'
        rw [G_code] at this
        obtain ⟨q, hq, hg⟩ := this
        exact ⟨q, by simp only [step, hp, Option.bind_some]; exact hq, hg⟩
      · simp only [G_stop_exit] at hs
        exact ⟨_, by simp only [step, hp, Option.bind_some]; rfl, hs⟩
      · simp only [G_stop_ret] at hs
        exact ⟨_, by simp only [step, hp, Option.bind_some]; rfl, hs⟩
  exact key _ a₀ e h rfl h0
/-- A loop over places: f is false at each place that is behind. -/
theorem G_scan {p : PCode} (J : Nat → Env → Hp → Prop) (f : Nat → Bool) (n i₀ : Nat) (h0 : J i₀ e h) (hi : i₀ ≤ n)
    (hstep : ∀ i e h, i₀ ≤ i → i ≤ n → (∀ j, i₀ ≤ j → j < i → f j = false) → J i e h → G T (.code p :: .stop (fun e h => i < n ∧ f i = false ∧ J (i + 1) e h) :: k) .normal e h Q) : G T (.code (.loop p) :: k) .normal e h Q := by
  refine G_loop (fun i e h => i₀ ≤ i ∧ i ≤ n ∧ (∀ j, i₀ ≤ j → j < i → f j = false) ∧ J i e h) (fun i => n - i) (a₀ := i₀) ⟨Nat.le_refl _, hi, fun j _ _ => by omega, h0⟩ ?_
  rintro i e h ⟨h1, h2, h3, h4⟩
  refine G.stop_mono ?_ (hstep i e h h1 h2 h3 h4)
  rintro e h ⟨h5, h6, h7⟩
  refine ⟨i + 1, by omega, by omega, by omega, fun j hj hji => ?_, h7⟩
  rcases Nat.lt_succ_iff_lt_or_eq.1 hji with q | rfl
  · exact h3 j hj q
  · exact h6
end

/-! ### A function -/
/-- What a call by value ends with. -/
def Ends (res : List PRes) (r : PV) : Post := fun x e h => ends x = true ∧ (retV e h res).bind (frz h .any 64) = some r
/-- What a call with the caller's heap ends with. -/
def EndsO (res : List PRes) (r : PV) (h' : Hp) : Post := fun x e h => ends x = true ∧ retV e h res = some r ∧ h = h'

theorem R_of_G {T : Table} {f : Nat} {args : List PV} {r : PV} {F : PFn} (hn : T.nat f args = none) (hF : findF T.fns f = some F) (hl : args.length = F.np)
    (hg : G T [.code F.body] .normal (env0 args) [] (Ends F.res r)) : R T f args = some r := by
  rw [G_code] at hg
  obtain ⟨q, hq, h1, h2⟩ := hg
  unfold R callP
  rw [hn]
  simp only [hF, Option.bind_some, if_pos hl, hq, if_pos h1]
  obtain ⟨v, hv, h2⟩ := Option.bind_eq_some_iff.1 h2
  simp only [hv, Option.bind_some, h2]
theorem RO_of_G {T : Table} {f : Nat} {args : List PV} {r : PV} {H H' : Hp} {F : PFn} (hn : T.natO f args H = none) (hF : findF T.fns f = some F) (hl : args.length = F.np)
    (hg : G T [.code F.body] .normal (env0 args) H (EndsO F.res r H')) : RO T f args H = some (r, H') := by
  rw [G_code] at hg
  obtain ⟨q, hq, h1, h2, h3⟩ := hg
  unfold RO callO
  rw [hn]
  simp only [hF, Option.bind_some, if_pos hl, hq, if_pos h1, h2, Option.map_some]
  rw [← h3]

/-! ### Values -/
section
variable {T : Table} {e : Env} {h : Hp}
@[simp] theorem get_cons (j : Nat) (v : PV) (r : Env) (t : Nat) : get ((j, v) :: r) t = if j = t then v else get r t := rfl
theorem get_nil (t : Nat) : get [] t = .undef := rfl
@[simp] theorem normE_nil (env : Env) : normE [] env = [] := rfl
@[simp] theorem normE_cons (t : Nat) (l : List Nat) (env : Env) : normE (t :: l) env = (t, get env t) :: normE l env := rfl
@[simp] theorem ev_tmp (t : Nat) : ev e (.tmp t) = get e t := rfl
@[simp] theorem ev_val (v : PV) : ev e (.val v) = v := rfl
@[simp] theorem evs_nil : evs e [] = [] := rfl
@[simp] theorem evs_cons (x : POpd) (xs : List POpd) : evs e (x :: xs) = ev e x :: evs e xs := rfl
@[simp] theorem evps_nil : evps e [] = [] := rfl
@[simp] theorem evps_cons (i n : Nat) (x : POpd) (xs : List (Nat × Nat × POpd)) : evps e ((i, n, x) :: xs) = (i, n, ev e x) :: evps e xs := rfl
@[simp] theorem gd_some (g : Nat) (b : Bool) : gd e (some (g, b)) = (match get e g with | .bool t => some (t == b) | .tup [] => some false | _ => none) := rfl
end
end Go.Proofs.Ytmbknidfkddpfaa.PM
