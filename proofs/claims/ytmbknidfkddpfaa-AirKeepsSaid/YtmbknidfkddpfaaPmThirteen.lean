/- The pure machine, part 13: the evaluator without fuel; rules for runs of symbolic values. -/
import Derived.Test.YtmbknidfkddpfaaPmTwelve
set_option linter.unusedVariables false
set_option linter.unusedSimpArgs false
namespace Go.Proofs.Ytmbknidfkddpfaa.PM

abbrev Ex := PCode → Env → Hp → Option (PX × Env × Hp)
def ExLe (e1 e2 : Ex) : Prop := ∀ c env H q, e1 c env H = some q → e2 c env H = some q

section
variable {T : Table} {e1 e2 : Ex}

theorem callP_mono (h : ExLe e1 e2) {f : Nat} {args : List PV} {r : PV} (he : callP T e1 f args = some r) : callP T e2 f args = some r := by
  unfold callP at he ⊢
  split at he
  · exact he
  · rename_i hn
    simp only [Option.bind_eq_some_iff] at he ⊢
    obtain ⟨F, hF, he⟩ := he
    refine ⟨F, hF, ?_⟩
    split at he
    case isFalse => cases he
    rename_i hl
    rw [if_pos hl]
    simp only [Option.bind_eq_some_iff] at he ⊢
    obtain ⟨q, hq, he⟩ := he
    exact ⟨q, h _ _ _ _ hq, he⟩

theorem callO_mono (h : ExLe e1 e2) {f : Nat} {args : List PV} {H : Hp} {r : PV × Hp} (he : callO T e1 f args H = some r) : callO T e2 f args H = some r := by
  unfold callO at he ⊢
  split at he
  · exact he
  · rename_i hn
    simp only [Option.bind_eq_some_iff] at he ⊢
    obtain ⟨F, hF, he⟩ := he
    refine ⟨F, hF, ?_⟩
    split at he
    case isFalse => cases he
    rename_i hl
    rw [if_pos hl]
    simp only [Option.bind_eq_some_iff] at he ⊢
    obtain ⟨q, hq, he⟩ := he
    exact ⟨q, h _ _ _ _ hq, he⟩
end

section
variable {c1 c2 : Nat → List PV → Option PV} {o1 o2 : Nat → List PV → Hp → Option (PV × Hp)} {fz : Hp → List PV → Option (List PV)} {meth : Nat → String → Option Nat}
variable (hc : ∀ f a r, c1 f a = some r → c2 f a = some r) (ho : ∀ f a H r, o1 f a H = some r → o2 f a H = some r)
include hc
theorem evCp_mono {H : Hp} {f : Nat} {az : List PV} {v : PV} (h : evCp c1 fz H f az = some v) : evCp c2 fz H f az = some v := by
  unfold evCp at h ⊢
  split at h
  · rename_i hp
    rw [if_pos hp]; exact hc _ _ _ h
  · rename_i hp
    rw [if_neg hp]
    simp only [Option.bind_eq_some_iff] at h ⊢
    obtain ⟨ys, h1, r, h2, h3⟩ := h
    exact ⟨ys, h1, r, hc _ _ _ h2, h3⟩
theorem evR_mono {env : Env} {H : Hp} {p : POp} {v : PV} (h : evR c1 fz meth env H p = some v) : evR c2 fz meth env H p = some v := by
  cases p <;> try exact h
  case call f m xs =>
    cases m
    case opn => cases h
    simp only [evR] at h ⊢
    exact evCp_mono hc h
  case callv x m xs =>
    cases m
    case opn => cases h
    simp only [evR, Option.bind_eq_some_iff] at h ⊢
    obtain ⟨q, hq, h⟩ := h
    exact ⟨q, hq, evCp_mono hc h⟩
  case inv x name m xs =>
    cases m
    case opn => cases h
    simp only [evR] at h ⊢
    split at h
    case h_2 => cases h
    rename_i hx
    simp only [Option.bind_eq_some_iff] at h ⊢
    obtain ⟨f, hf, h⟩ := h
    exact ⟨f, hf, evCp_mono hc h⟩
include ho
theorem evOp_mono {env : Env} {H : Hp} {p : POp} {v : PV × Hp} (h : evOp c1 o1 fz meth env H p = some v) : evOp c2 o2 fz meth env H p = some v := by
  unfold evOp at h ⊢
  split at h
  · rename_i hE
    rw [if_pos hE]
    cases p <;> try exact h
    case call f m xs =>
      cases m
      case pure => cases h
      exact ho _ _ _ _ h
    case callv x m xs =>
      cases m
      case pure => cases h
      simp only [evE, Option.bind_eq_some_iff] at h ⊢
      obtain ⟨q, hq, h⟩ := h
      exact ⟨q, hq, ho _ _ _ _ h⟩
    case inv x name m xs =>
      cases m
      case pure => cases h
      simp only [evE] at h ⊢
      split at h
      case h_2 => cases h
      simp only [Option.bind_eq_some_iff] at h ⊢
      obtain ⟨f, hf, h⟩ := h
      exact ⟨f, hf, ho _ _ _ _ h⟩
  · rename_i hE
    rw [if_neg hE]
    simp only [Option.map_eq_some_iff] at h ⊢
    obtain ⟨x, hx, h⟩ := h
    exact ⟨x, evR_mono hc hx, h⟩
theorem runSeq_mono : ∀ {rs : List ROp} {env : Env} {H : Hp} {q : Env × Hp}, runSeq c1 o1 fz meth rs env H = some q → runSeq c2 o2 fz meth rs env H = some q
  | [], _, _, _, h => h
  | r :: rs, env, H, q, h => by
    simp only [runSeq, Option.bind_eq_some_iff] at h ⊢
    obtain ⟨b, hb, h⟩ := h
    refine ⟨b, hb, ?_⟩
    cases b
    · exact runSeq_mono (q := q) h
    · simp only [if_true, Option.bind_eq_some_iff] at h ⊢
      obtain ⟨p, hp, h⟩ := h
      exact ⟨p, evOp_mono hc ho hp, runSeq_mono h⟩
theorem ckOne_mono {rs : List ROp} {env : Env} {H : Hp} {c : Nat × Nat} (h : ckOne c1 o1 fz meth rs env H c = true) : ckOne c2 o2 fz meth rs env H c = true := by
  unfold ckOne at h ⊢
  split at h
  case h_2 => cases h
  rename_i e Hk _ Hp r h1 h2 h3
  rw [runSeq_mono hc ho h1, runSeq_mono hc ho h2, h3]
  simp only
  split at h
  · rename_i hg
    simp only [optEq] at h
    split at h
    · rename_i x y hx hy
      simp only [hg, optEq, evR_mono hc hx, evR_mono hc hy]
      exact h
    · cases h
  · rename_i hg; simp only [hg]
  · cases h
theorem runReg_mono {rs : List ROp} {chk : List (Nat × Nat)} {env : Env} {H : Hp} {q : Env × Hp} (h : runReg c1 o1 fz meth rs chk env H = some q) : runReg c2 o2 fz meth rs chk env H = some q := by
  unfold runReg at h ⊢
  split at h
  · exact runSeq_mono hc ho h
  · rename_i hn
    split at h
    case isFalse => cases h
    rename_i ha
    rw [if_pos]
    · exact runSeq_mono hc ho h
    · rw [List.all_eq_true] at ha ⊢
      exact fun c hcm => ckOne_mono hc ho (ha c hcm)
end

theorem rngRun_mono {e1 e2 : Ex} (h : ExLe e1 e2) {p : Nat} {a b : PCode} {env : Env} : ∀ {is : List Int} {H : Hp} {r : PX × Env × Hp}, rngRun e1 p a b env is H = some r → rngRun e2 p a b env is H = some r
  | [], _, _, he => he
  | i :: is, H, r, he => by
    obtain ⟨f1, H1, y, f2, H2, h1, h2, h3⟩ := rngRun_cons he
    simp only [rngRun, h _ _ _ _ h1, h _ _ _ _ h2, Option.bind_some]
    rcases h3 with ⟨rfl, h3⟩ | ⟨hy, rfl⟩
    · exact rngRun_mono h h3
    · cases y with
      | normal => exact absurd rfl hy
      | exit id => rfl
      | ret => rfl
theorem mround_mono {T : Table} {e1 e2 : Ex} (h : ExLe e1 e2) {M : Mr} {b : Nat} {body : PCode} {kv : PV × PV} {env : Env} {H : Hp} {r : Env × Hp} (he : mround T e1 M b body kv env H = some r) : mround T e2 M b body kv env H = some r := by
  unfold mround at he ⊢
  split at he
  case isFalse => cases he
  rename_i hb
  rw [if_pos hb]
  rw [Option.bind_eq_some_iff] at he ⊢
  obtain ⟨q, h1, he⟩ := he
  refine ⟨q, runSeq_mono (fun f a r => callP_mono h) (fun f a H r => callO_mono h) h1, ?_⟩
  rw [Option.bind_eq_some_iff] at he ⊢
  obtain ⟨s, h2, he⟩ := he
  exact ⟨s, h _ _ _ _ h2, he⟩
theorem mrounds_mono {T : Table} {e1 e2 : Ex} (h : ExLe e1 e2) {M : Mr} {b : Nat} {body : PCode} : ∀ {o : List (PV × PV)} {env : Env} {H : Hp} {r : Env × Hp}, mrounds T e1 M b body o env H = some r → mrounds T e2 M b body o env H = some r
  | [], _, _, _, he => he
  | kv :: o, env, H, r, he => by
    simp only [mrounds, Option.bind_eq_some_iff] at he ⊢
    obtain ⟨q, h1, he⟩ := he
    exact ⟨q, mround_mono h h1, mrounds_mono h he⟩
theorem mfull_mono {T : Table} {e1 e2 : Ex} (h : ExLe e1 e2) {M : Mr} {body rest : PCode} {n : Nat} {env : Env} {H1 H2 : Hp} {o : List (PV × PV)} {r : PX × Env × Hp} (he : mfull T e1 M body rest n env H1 H2 o = some r) : mfull T e2 M body rest n env H1 H2 o = some r := by
  unfold mfull at he ⊢
  rw [Option.bind_eq_some_iff] at he ⊢
  obtain ⟨q, h1, he⟩ := he
  refine ⟨q, mrounds_mono h h1, ?_⟩
  rw [Option.bind_eq_some_iff] at he ⊢
  obtain ⟨H3, h2, he⟩ := he
  refine ⟨H3, h2, ?_⟩
  rw [Option.bind_eq_some_iff] at he ⊢
  obtain ⟨s, h3, he⟩ := he
  exact ⟨s, h _ _ _ _ h3, he⟩
theorem mall_iff {T : Table} {ex : Ex} {M : Mr} {a b : PCode} {env : Env} {H : Hp} {r : PX × Env × Hp} : mall T ex M a b env H = some r ↔
    ∃ q E, runSeq (callP T ex) (callO T ex) fzB T.meth M.rs env H = some q ∧ mopen (ev q.1 M.m) q.2 = some E ∧ ∀ o ∈ perms E.1, mfull T ex M a b H.length q.1 q.2 E.2 o = some r := by
  unfold mall
  simp only [Option.bind_eq_some_iff]
  constructor
  · rintro ⟨q, h1, E, h2, r', h3, h4⟩
    split at h4
    case isFalse => cases h4
    rename_i hall
    simp only [Option.some.injEq] at h4
    subst h4
    refine ⟨q, E, h1, h2, fun o ho => ?_⟩
    have := List.all_eq_true.1 hall o ho
    split at this
    · rename_i r'' hr; rw [hr, beqX_eq this]
    · cases this
  · rintro ⟨q, E, h1, h2, h3⟩
    refine ⟨q, h1, E, h2, r, h3 _ (mem_perms.2 (.refl _)), ?_⟩
    rw [if_pos]
    rw [List.all_eq_true]
    intro o ho
    rw [h3 o ho]
    exact beqX_refl r
theorem mall_mono {T : Table} {e1 e2 : Ex} (h : ExLe e1 e2) {M : Mr} {a b : PCode} {env : Env} {H : Hp} {r : PX × Env × Hp} (he : mall T e1 M a b env H = some r) : mall T e2 M a b env H = some r := by
  rw [mall_iff] at he ⊢
  obtain ⟨q, E, h1, h2, h3⟩ := he
  exact ⟨q, E, runSeq_mono (fun f a r => callP_mono h) (fun f a H r => callO_mono h) h1, h2, fun o ho => mfull_mono h (h3 o ho)⟩
theorem step_mono {T : Table} {e1 e2 : Ex} (h : ExLe e1 e2) : ExLe (step T e1) (step T e2) := by
  intro c env H q he
  cases c <;> simp only [step] at he ⊢ <;> try exact he
  case reg rs chk live =>
    simp only [Option.map_eq_some_iff] at he ⊢
    obtain ⟨p, hp, he⟩ := he
    exact ⟨p, runReg_mono (fun f a r => callP_mono h) (fun f a H r => callO_mono h) hp, he⟩
  case seq a b =>
    simp only [Option.bind_eq_some_iff] at he ⊢
    obtain ⟨p, hp, he⟩ := he
    refine ⟨p, h _ _ _ _ hp, ?_⟩
    split at he
    · exact h _ _ _ _ he
    · exact he
  case cond x a b =>
    split at he
    · exact h _ _ _ _ he
    · cases he
  case blk id c =>
    simp only [Option.map_eq_some_iff] at he ⊢
    obtain ⟨p, hp, he⟩ := he
    exact ⟨p, h _ _ _ _ hp, he⟩
  case loop c =>
    simp only [Option.bind_eq_some_iff] at he ⊢
    obtain ⟨p, hp, he⟩ := he
    refine ⟨p, h _ _ _ _ hp, ?_⟩
    split at he
    · exact h _ _ _ _ he
    · exact he
  case trim c =>
    simp only [Option.bind_eq_some_iff] at he ⊢
    obtain ⟨p, hp, he⟩ := he
    exact ⟨p, h _ _ _ _ hp, he⟩
  case rng x p a b =>
    rw [Option.bind_eq_some_iff] at he ⊢
    obtain ⟨xs, hx, he⟩ := he
    exact ⟨xs, hx, rngRun_mono h he⟩
  case mrng M a b => exact mall_mono h he

theorem pexec_mono1 {T : Table} : ∀ n, ExLe (pexec T n) (pexec T (n + 1))
  | 0 => fun _ _ _ _ h => by cases h
  | n + 1 => step_mono (pexec_mono1 n)
theorem pexec_mono {T : Table} {n m : Nat} (h : n ≤ m) : ExLe (pexec T n) (pexec T m) := by
  induction h with
  | refl => exact fun _ _ _ _ h => h
  | step _ ih => exact fun c e H q h => pexec_mono1 _ _ _ _ _ (ih _ _ _ _ h)

/-! ### Without fuel -/
open Classical in
noncomputable def X (T : Table) (c : PCode) (env : Env) (H : Hp) : Option (PX × Env × Hp) :=
  if h : ∃ q, ∃ n, pexec T n c env H = some q then some h.choose else none
theorem X_iff {T : Table} {c : PCode} {env : Env} {H : Hp} {q : PX × Env × Hp} : X T c env H = some q ↔ ∃ n, pexec T n c env H = some q := by
  unfold X
  split
  · rename_i h
    simp only [Option.some.injEq]
    constructor
    · rintro rfl; exact h.choose_spec
    · rintro ⟨n, hn⟩
      obtain ⟨m, hm⟩ := h.choose_spec
      rcases Nat.le_total n m with hl | hl
      · rw [pexec_mono hl _ _ _ _ hn] at hm; exact (Option.some.inj hm).symm
      · rw [pexec_mono hl _ _ _ _ hm] at hn; exact Option.some.inj hn
  · rename_i h
    simp only [reduceCtorEq, false_iff]
    rintro ⟨n, hn⟩
    exact h ⟨q, n, hn⟩
theorem le_X {T : Table} (n : Nat) : ExLe (pexec T n) (X T) := fun _ _ _ _ h => X_iff.2 ⟨n, h⟩

/-- A call by value, without fuel. -/
noncomputable def R (T : Table) (f : Nat) (args : List PV) : Option PV := callP T (X T) f args
/-- A call with the caller's heap, without fuel. -/
noncomputable def RO (T : Table) (f : Nat) (args : List PV) (H : Hp) : Option (PV × Hp) := callO T (X T) f args H

section
variable {T : Table}
theorem R_cont {f : Nat} {args : List PV} {r : PV} (h : R T f args = some r) : ∃ n, callP T (pexec T n) f args = some r := by
  unfold R callP at h
  unfold callP
  split at h
  · exact ⟨0, h⟩
  · rename_i hn
    simp only [Option.bind_eq_some_iff] at h ⊢
    obtain ⟨F, hF, h⟩ := h
    split at h
    case isFalse => cases h
    rename_i hl
    simp only [Option.bind_eq_some_iff] at h
    obtain ⟨q, hq, h⟩ := h
    obtain ⟨n, hq⟩ := X_iff.1 hq
    refine ⟨n, F, hF, ?_⟩
    rw [if_pos hl]
    simp only [Option.bind_eq_some_iff]
    exact ⟨q, hq, h⟩
theorem RO_cont {f : Nat} {args : List PV} {H : Hp} {r : PV × Hp} (h : RO T f args H = some r) : ∃ n, callO T (pexec T n) f args H = some r := by
  unfold RO callO at h
  unfold callO
  split at h
  · exact ⟨0, h⟩
  · rename_i hn
    simp only [Option.bind_eq_some_iff] at h ⊢
    obtain ⟨F, hF, h⟩ := h
    split at h
    case isFalse => cases h
    rename_i hl
    simp only [Option.bind_eq_some_iff] at h
    obtain ⟨q, hq, h⟩ := h
    obtain ⟨n, hq⟩ := X_iff.1 hq
    refine ⟨n, F, hF, ?_⟩
    rw [if_pos hl]
    simp only [Option.bind_eq_some_iff]
    exact ⟨q, hq, h⟩
theorem R_of {n f : Nat} {args : List PV} {r : PV} (h : pcall T n f args = some r) : R T f args = some r := callP_mono (le_X n) h
theorem R_ok {P : Program} (hT : TOk P T) {f : Nat} {args : List PV} {r : PV} (h : R T f args = some r) : PureOk P f args r := by
  obtain ⟨n, hn⟩ := R_cont h
  exact pcall_ok hT (n := n) hn
theorem RO_ok {P : Program} (hT : TOk P T) {f : Nat} {args : List PV} {H H' : Hp} {r : PV} (h : RO T f args H = some (r, H')) : OpenOk P f args H r H' := by
  obtain ⟨n, hn⟩ := RO_cont h
  exact callO_ok hT (pexec_ok hT n) f args H r H' hn

theorem evCp_cont {H : Hp} {f : Nat} {az : List PV} {v : PV} (h : evCp (R T) fzB H f az = some v) : ∃ n, evCp (callP T (pexec T n)) fzB H f az = some v := by
  unfold evCp at h
  split at h
  · rename_i hp
    obtain ⟨n, h⟩ := R_cont h
    exact ⟨n, by unfold evCp; rw [if_pos hp]; exact h⟩
  · rename_i hp
    simp only [Option.bind_eq_some_iff] at h
    obtain ⟨ys, h1, r, h2, h3⟩ := h
    obtain ⟨n, h2⟩ := R_cont h2
    exact ⟨n, by unfold evCp; rw [if_neg hp]; simp only [Option.bind_eq_some_iff]; exact ⟨ys, h1, r, h2, h3⟩⟩
theorem evR_cont {env : Env} {H : Hp} {p : POp} {v : PV} (h : evR (R T) fzB T.meth env H p = some v) : ∃ n, evR (callP T (pexec T n)) fzB T.meth env H p = some v := by
  cases p <;> try exact ⟨0, h⟩
  case call f m xs =>
    cases m
    case opn => cases h
    simp only [evR] at h ⊢
    exact evCp_cont h
  case callv x m xs =>
    cases m
    case opn => cases h
    simp only [evR, Option.bind_eq_some_iff] at h ⊢
    obtain ⟨q, hq, h⟩ := h
    obtain ⟨n, h⟩ := evCp_cont h
    exact ⟨n, q, hq, h⟩
  case inv x name m xs =>
    cases m
    case opn => cases h
    simp only [evR] at h ⊢
    split at h
    case h_2 => cases h
    simp only [Option.bind_eq_some_iff] at h ⊢
    obtain ⟨f, hf, h⟩ := h
    obtain ⟨n, h⟩ := evCp_cont h
    exact ⟨n, f, hf, h⟩
theorem evOp_cont {env : Env} {H : Hp} {p : POp} {v : PV × Hp} (h : evOp (R T) (RO T) fzB T.meth env H p = some v) : ∃ n, evOp (callP T (pexec T n)) (callO T (pexec T n)) fzB T.meth env H p = some v := by
  unfold evOp at h ⊢
  split at h
  · rename_i hE
    simp only [if_pos hE]
    cases p <;> try exact ⟨0, h⟩
    case call f m xs =>
      cases m
      case pure => cases h
      exact RO_cont h
    case callv x m xs =>
      cases m
      case pure => cases h
      simp only [evE, Option.bind_eq_some_iff] at h ⊢
      obtain ⟨q, hq, h⟩ := h
      obtain ⟨n, h⟩ := RO_cont h
      exact ⟨n, q, hq, h⟩
    case inv x name m xs =>
      cases m
      case pure => cases h
      simp only [evE] at h ⊢
      split at h
      case h_2 => cases h
      simp only [Option.bind_eq_some_iff] at h ⊢
      obtain ⟨f, hf, h⟩ := h
      obtain ⟨n, h⟩ := RO_cont h
      exact ⟨n, f, hf, h⟩
  · rename_i hE
    simp only [if_neg hE]
    simp only [Option.map_eq_some_iff] at h ⊢
    obtain ⟨x, hx, h⟩ := h
    obtain ⟨n, hx⟩ := evR_cont hx
    exact ⟨n, x, hx, h⟩
theorem cm {n m : Nat} (h : n ≤ m) : ∀ f a r, callP T (pexec T n) f a = some r → callP T (pexec T m) f a = some r := fun f a r => callP_mono (pexec_mono h)
theorem om {n m : Nat} (h : n ≤ m) : ∀ f a H r, callO T (pexec T n) f a H = some r → callO T (pexec T m) f a H = some r := fun f a H r => callO_mono (pexec_mono h)
theorem runSeq_cont : ∀ {rs : List ROp} {env : Env} {H : Hp} {q : Env × Hp}, runSeq (R T) (RO T) fzB T.meth rs env H = some q → ∃ n, runSeq (callP T (pexec T n)) (callO T (pexec T n)) fzB T.meth rs env H = some q
  | [], _, _, _, h => ⟨0, h⟩
  | r :: rs, env, H, q, h => by
    simp only [runSeq, Option.bind_eq_some_iff] at h ⊢
    obtain ⟨b, hb, h⟩ := h
    cases b
    · obtain ⟨n, h⟩ := runSeq_cont (q := q) h
      exact ⟨n, false, hb, h⟩
    · simp only [if_true, Option.bind_eq_some_iff] at h
      obtain ⟨p, hp, h⟩ := h
      obtain ⟨n, h⟩ := runSeq_cont h
      obtain ⟨m, hp⟩ := evOp_cont hp
      refine ⟨n + m, true, hb, ?_⟩
      simp only [if_true, Option.bind_eq_some_iff]
      exact ⟨p, evOp_mono (cm (Nat.le_add_left _ _)) (om (Nat.le_add_left _ _)) hp, runSeq_mono (cm (Nat.le_add_right _ _)) (om (Nat.le_add_right _ _)) h⟩
theorem ckOne_cont {rs : List ROp} {env : Env} {H : Hp} {c : Nat × Nat} (h : ckOne (R T) (RO T) fzB T.meth rs env H c = true) : ∃ n, ckOne (callP T (pexec T n)) (callO T (pexec T n)) fzB T.meth rs env H c = true := by
  unfold ckOne at h
  split at h
  case h_2 => cases h
  rename_i e Hk e' Hp r h1 h2 h3
  obtain ⟨n1, g1⟩ := runSeq_cont h1
  obtain ⟨n2, g2⟩ := runSeq_cont h2
  split at h
  · rename_i hg
    simp only [optEq] at h
    split at h
    · rename_i x y hx hy
      obtain ⟨n3, g3⟩ := evR_cont hx
      obtain ⟨n4, g4⟩ := evR_cont hy
      refine ⟨n1 + n2 + n3 + n4, ?_⟩
      unfold ckOne
      rw [runSeq_mono (cm (m := n1 + n2 + n3 + n4) (by omega)) (om (by omega)) g1, runSeq_mono (cm (m := n1 + n2 + n3 + n4) (by omega)) (om (by omega)) g2, h3]
      simp only [hg, optEq, evR_mono (cm (m := n1 + n2 + n3 + n4) (by omega)) g3, evR_mono (cm (m := n1 + n2 + n3 + n4) (by omega)) g4]
      exact h
    · cases h
  · rename_i hg
    refine ⟨n1 + n2, ?_⟩
    unfold ckOne
    rw [runSeq_mono (cm (m := n1 + n2) (by omega)) (om (by omega)) g1, runSeq_mono (cm (m := n1 + n2) (by omega)) (om (by omega)) g2, h3]
    simp only [hg]
  · cases h
theorem runReg_cont {rs : List ROp} {chk : List (Nat × Nat)} {env : Env} {H : Hp} {q : Env × Hp} (h : runReg (R T) (RO T) fzB T.meth rs chk env H = some q) : ∃ n, runReg (callP T (pexec T n)) (callO T (pexec T n)) fzB T.meth rs chk env H = some q := by
  unfold runReg at h
  split at h
  · exact runSeq_cont h
  · rename_i hn
    split at h
    case isFalse => cases h
    rename_i ha
    obtain ⟨n, h⟩ := runSeq_cont h
    rw [List.all_eq_true] at ha
    have key : ∀ l : List (Nat × Nat), (∀ c ∈ l, ckOne (R T) (RO T) fzB T.meth rs env H c = true) → ∃ m, ∀ c ∈ l, ckOne (callP T (pexec T m)) (callO T (pexec T m)) fzB T.meth rs env H c = true := by
      intro l
      induction l with
      | nil => exact fun _ => ⟨0, by simp⟩
      | cons c l ih =>
        intro hl
        obtain ⟨m, hm⟩ := ih fun c hc => hl c (List.mem_cons_of_mem _ hc)
        obtain ⟨m', hm'⟩ := ckOne_cont (hl c (List.mem_cons_self ..))
        refine ⟨m + m', fun c' hc' => ?_⟩
        rcases List.mem_cons.1 hc' with rfl | hc'
        · exact ckOne_mono (cm (Nat.le_add_left _ _)) (om (Nat.le_add_left _ _)) hm'
        · exact ckOne_mono (cm (Nat.le_add_right _ _)) (om (Nat.le_add_right _ _)) (hm c' hc')
    obtain ⟨m, hm⟩ := key _ ha
    refine ⟨n + m, ?_⟩
    unfold runReg
    split
    · exact absurd rfl hn
    · rw [if_pos]
      · exact runSeq_mono (cm (Nat.le_add_right _ _)) (om (Nat.le_add_right _ _)) h
      · rw [List.all_eq_true]
        exact fun c hc => ckOne_mono (cm (Nat.le_add_left _ _)) (om (Nat.le_add_left _ _)) (hm c hc)

theorem rngRun_cont {p : Nat} {a b : PCode} {env : Env} : ∀ {is : List Int} {H : Hp} {r : PX × Env × Hp}, rngRun (X T) p a b env is H = some r → ∃ n, rngRun (pexec T n) p a b env is H = some r
  | [], _, _, he => ⟨0, he⟩
  | i :: is, H, r, he => by
    obtain ⟨f1, H1, y, f2, H2, h1, h2, h3⟩ := rngRun_cons he
    obtain ⟨n1, h1⟩ := X_iff.1 h1
    obtain ⟨n2, h2⟩ := X_iff.1 h2
    rcases h3 with ⟨rfl, h3⟩ | ⟨hy, rfl⟩
    · obtain ⟨n3, h3⟩ := rngRun_cont h3
      refine ⟨n1 + n2 + n3, ?_⟩
      simp only [rngRun, pexec_mono (show n1 ≤ n1 + n2 + n3 by omega) _ _ _ _ h1, pexec_mono (show n2 ≤ n1 + n2 + n3 by omega) _ _ _ _ h2, Option.bind_some]
      exact rngRun_mono (pexec_mono (show n3 ≤ n1 + n2 + n3 by omega)) h3
    · refine ⟨n1 + n2, ?_⟩
      cases y with
      | normal => exact absurd rfl hy
      | exit id => simp only [rngRun, pexec_mono (show n1 ≤ n1 + n2 by omega) _ _ _ _ h1, pexec_mono (show n2 ≤ n1 + n2 by omega) _ _ _ _ h2, Option.bind_some]
      | ret => simp only [rngRun, pexec_mono (show n1 ≤ n1 + n2 by omega) _ _ _ _ h1, pexec_mono (show n2 ≤ n1 + n2 by omega) _ _ _ _ h2, Option.bind_some]
theorem mround_cont {M : Mr} {b : Nat} {body : PCode} {kv : PV × PV} {env : Env} {H : Hp} {r : Env × Hp} (he : mround T (X T) M b body kv env H = some r) : ∃ n, mround T (pexec T n) M b body kv env H = some r := by
  unfold mround at he
  split at he
  case isFalse => cases he
  rename_i hb
  rw [Option.bind_eq_some_iff] at he
  obtain ⟨q, h1, he⟩ := he
  rw [Option.bind_eq_some_iff] at he
  obtain ⟨s, h2, he⟩ := he
  obtain ⟨n1, h1⟩ := runSeq_cont h1
  obtain ⟨n2, h2⟩ := X_iff.1 h2
  refine ⟨n1 + n2, ?_⟩
  unfold mround
  rw [if_pos hb, Option.bind_eq_some_iff]
  refine ⟨q, runSeq_mono (cm (Nat.le_add_right _ _)) (om (Nat.le_add_right _ _)) h1, ?_⟩
  rw [Option.bind_eq_some_iff]
  exact ⟨s, pexec_mono (Nat.le_add_left _ _) _ _ _ _ h2, he⟩
theorem mrounds_cont {M : Mr} {b : Nat} {body : PCode} : ∀ {o : List (PV × PV)} {env : Env} {H : Hp} {r : Env × Hp}, mrounds T (X T) M b body o env H = some r → ∃ n, mrounds T (pexec T n) M b body o env H = some r
  | [], _, _, _, he => ⟨0, he⟩
  | kv :: o, env, H, r, he => by
    simp only [mrounds, Option.bind_eq_some_iff] at he
    obtain ⟨q, h1, he⟩ := he
    obtain ⟨n1, h1⟩ := mround_cont h1
    obtain ⟨n2, h2⟩ := mrounds_cont he
    refine ⟨n1 + n2, ?_⟩
    simp only [mrounds, Option.bind_eq_some_iff]
    exact ⟨q, mround_mono (pexec_mono (Nat.le_add_right _ _)) h1, mrounds_mono (pexec_mono (Nat.le_add_left _ _)) h2⟩
theorem mfull_cont {M : Mr} {body rest : PCode} {n : Nat} {env : Env} {H1 H2 : Hp} {o : List (PV × PV)} {r : PX × Env × Hp} (he : mfull T (X T) M body rest n env H1 H2 o = some r) : ∃ m, mfull T (pexec T m) M body rest n env H1 H2 o = some r := by
  unfold mfull at he
  rw [Option.bind_eq_some_iff] at he
  obtain ⟨q, h1, he⟩ := he
  rw [Option.bind_eq_some_iff] at he
  obtain ⟨H3, h2, he⟩ := he
  rw [Option.bind_eq_some_iff] at he
  obtain ⟨s, h3, he⟩ := he
  obtain ⟨n1, h1⟩ := mrounds_cont h1
  obtain ⟨n3, h3⟩ := X_iff.1 h3
  refine ⟨n1 + n3, ?_⟩
  unfold mfull
  rw [Option.bind_eq_some_iff]
  refine ⟨q, mrounds_mono (pexec_mono (Nat.le_add_right _ _)) h1, ?_⟩
  rw [Option.bind_eq_some_iff]
  refine ⟨H3, h2, ?_⟩
  rw [Option.bind_eq_some_iff]
  exact ⟨s, pexec_mono (Nat.le_add_left _ _) _ _ _ _ h3, he⟩
theorem mall_cont {M : Mr} {a b : PCode} {env : Env} {H : Hp} {r : PX × Env × Hp} (he : mall T (X T) M a b env H = some r) : ∃ n, mall T (pexec T n) M a b env H = some r := by
  rw [mall_iff] at he
  obtain ⟨q, E, h1, h2, h3⟩ := he
  obtain ⟨n1, h1⟩ := runSeq_cont h1
  have key : ∀ l : List (List (PV × PV)), (∀ o ∈ l, mfull T (X T) M a b H.length q.1 q.2 E.2 o = some r) → ∃ m, ∀ o ∈ l, mfull T (pexec T m) M a b H.length q.1 q.2 E.2 o = some r := by
    intro l
    induction l with
    | nil => exact fun _ => ⟨0, by simp⟩
    | cons c l ih =>
      intro hl
      obtain ⟨m, hm⟩ := ih fun c hc => hl c (List.mem_cons_of_mem _ hc)
      obtain ⟨m', hm'⟩ := mfull_cont (hl c (List.mem_cons_self ..))
      refine ⟨m + m', fun c' hc' => ?_⟩
      rcases List.mem_cons.1 hc' with rfl | hc'
      · exact mfull_mono (pexec_mono (Nat.le_add_left _ _)) hm'
      · exact mfull_mono (pexec_mono (Nat.le_add_right _ _)) (hm c' hc')
  obtain ⟨m, hm⟩ := key _ h3
  refine ⟨n1 + m, mall_iff.2 ⟨q, E, ?_, h2, fun o ho => mfull_mono (pexec_mono (Nat.le_add_left _ _)) (hm o ho)⟩⟩
  exact runSeq_mono (cm (Nat.le_add_right _ _)) (om (Nat.le_add_right _ _)) h1
theorem step_cont {c : PCode} {env : Env} {H : Hp} {q : PX × Env × Hp} (he : step T (X T) c env H = some q) : ∃ n, step T (pexec T n) c env H = some q := by
  cases c <;> simp only [step] at he ⊢ <;> try exact ⟨0, he⟩
  case reg rs chk live =>
    simp only [Option.map_eq_some_iff] at he ⊢
    obtain ⟨p, hp, he⟩ := he
    obtain ⟨n, hn⟩ := runReg_cont hp
    exact ⟨n, p, hn, he⟩
  case seq a b =>
    simp only [Option.bind_eq_some_iff] at he ⊢
    obtain ⟨⟨x, e1, H1⟩, hp, he⟩ := he
    obtain ⟨n, hn⟩ := X_iff.1 hp
    cases x
    · obtain ⟨m, hm⟩ := X_iff.1 he
      exact ⟨n + m, _, pexec_mono (Nat.le_add_right _ _) _ _ _ _ hn, pexec_mono (Nat.le_add_left _ _) _ _ _ _ hm⟩
    · exact ⟨n, _, hn, he⟩
    · exact ⟨n, _, hn, he⟩
  case cond x a b =>
    split at he
    · exact X_iff.1 he
    · cases he
  case blk id c =>
    simp only [Option.map_eq_some_iff] at he ⊢
    obtain ⟨p, hp, he⟩ := he
    obtain ⟨n, hn⟩ := X_iff.1 hp
    exact ⟨n, p, hn, he⟩
  case loop c =>
    simp only [Option.bind_eq_some_iff] at he ⊢
    obtain ⟨⟨x, e1, H1⟩, hp, he⟩ := he
    obtain ⟨n, hn⟩ := X_iff.1 hp
    cases x
    · obtain ⟨m, hm⟩ := X_iff.1 he
      exact ⟨n + m, _, pexec_mono (Nat.le_add_right _ _) _ _ _ _ hn, pexec_mono (Nat.le_add_left _ _) _ _ _ _ hm⟩
    · exact ⟨n, _, hn, he⟩
    · exact ⟨n, _, hn, he⟩
  case trim c =>
    simp only [Option.bind_eq_some_iff] at he ⊢
    obtain ⟨p, hp, he⟩ := he
    obtain ⟨n, hn⟩ := X_iff.1 hp
    exact ⟨n, p, hn, he⟩
  case rng x p a b =>
    rw [Option.bind_eq_some_iff] at he
    obtain ⟨xs, hx, he⟩ := he
    obtain ⟨n, hn⟩ := rngRun_cont he
    exact ⟨n, Option.bind_eq_some_iff.2 ⟨xs, hx, hn⟩⟩
  case mrng M a b => exact mall_cont he
theorem X_step (c : PCode) (env : Env) (H : Hp) : X T c env H = step T (X T) c env H := by
  apply Option.ext
  intro q
  rw [X_iff]
  constructor
  · rintro ⟨n, hn⟩
    cases n with
    | zero => cases hn
    | succ n => exact step_mono (le_X n) _ _ _ _ hn
  · intro h
    obtain ⟨n, hn⟩ := step_cont h
    exact ⟨n + 1, hn⟩
end
end Go.Proofs.Ytmbknidfkddpfaa.PM
