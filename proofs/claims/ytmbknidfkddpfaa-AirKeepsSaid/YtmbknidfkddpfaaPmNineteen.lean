/- The pure machine, part 19: checks of a region's order, of symbolic values. -/
import Derived.Test.YtmbknidfkddpfaaPmEighteen
set_option linter.unusedVariables false
set_option linter.unusedSimpArgs false
namespace Go.Proofs.Ytmbknidfkddpfaa.PM
/-- What a run of operations leads to. -/
def Zr (T : Table) (rs : List ROp) (e : Env) (h : Hp) (Q : Env → Hp → Prop) : Prop := ∃ q, runSeq (R T) (RO T) fzB T.meth rs e h = some q ∧ Q q.1 q.2
def Zg (T : Table) (v : Option PV) (d : Option Nat) (rs : List ROp) (e : Env) (h : Hp) (Q : Env → Hp → Prop) : Prop := ∃ x, v = some x ∧ Zr T rs (put e d x) h Q
def Zh (T : Table) (v : Option (PV × Hp)) (d : Option Nat) (rs : List ROp) (e : Env) (Q : Env → Hp → Prop) : Prop := ∃ x, v = some x ∧ Zr T rs (put e d x.1) x.2 Q
def Zc (T : Table) (b : Option Bool) (d : Option Nat) (op : POp) (rs : List ROp) (e : Env) (h : Hp) (Q : Env → Hp → Prop) : Prop := ∃ t, b = some t ∧ if t then Zr T (⟨d, none, op⟩ :: rs) e h Q else Zr T rs (put e d (.tup [])) h Q
section
variable {T : Table} {rs : List ROp} {e : Env} {h : Hp} {Q : Env → Hp → Prop} {d : Option Nat} {op : POp}
@[simp] theorem Zr_nil : Zr T [] e h Q = Q e h := by simp [Zr, runSeq]
@[simp] theorem Zr_cons : Zr T (⟨d, none, op⟩ :: rs) e h Q = if isE op = true then Zh T (evE (RO T) T.meth e h op) d rs e Q else Zg T (evR (R T) fzB T.meth e h op) d rs e h Q := by
  simp only [Zr, runSeq, gd, Option.bind_some, if_true, evOp]
  cases hE : isE op
  · simp only [Bool.false_eq_true, if_false, Zg, Zr]
    cases evR (R T) fzB T.meth e h op <;> simp
  · simp only [if_true, Zh, Zr]
    cases evE (RO T) T.meth e h op <;> simp
@[simp] theorem Zr_guard {g : Nat × Bool} : Zr T (⟨d, some g, op⟩ :: rs) e h Q = Zc T (gd e (some g)) d op rs e h Q := by
  have h1 : runSeq (R T) (RO T) fzB T.meth (⟨d, some g, op⟩ :: rs) e h = (gd e (some g)).bind fun b => if b then runSeq (R T) (RO T) fzB T.meth (⟨d, none, op⟩ :: rs) e h else runSeq (R T) (RO T) fzB T.meth rs (put e d (.tup [])) h := rfl
  unfold Zc
  rw [Zr, h1]
  cases gd e (some g) with
  | none => simp
  | some t => cases t <;> simp [Zr]
@[simp] theorem Zg_some {v : PV} : Zg T (some v) d rs e h Q = Zr T rs (put e d v) h Q := by simp [Zg]
@[simp] theorem Zh_some {v : PV} {h' : Hp} : Zh T (some (v, h')) d rs e Q = Zr T rs (put e d v) h' Q := by simp [Zh]
@[simp] theorem Zc_true : Zc T (some true) d op rs e h Q = Zr T (⟨d, none, op⟩ :: rs) e h Q := by simp only [Zc]; simp
@[simp] theorem Zc_false : Zc T (some false) d op rs e h Q = Zr T rs (put e d (.tup [])) h Q := by simp only [Zc]; simp
/-- What a check asks. -/
def CkQ (T : Table) (r : ROp) (e : Env) (Hk Hp : Hp) : Prop := match gd e r.guard with | some true => (∃ v, evR (R T) fzB T.meth e Hk r.op = some v ∧ evR (R T) fzB T.meth e Hp r.op = some v) | some false => True | none => False
@[simp] theorem CkQ_none {Hk Hp : Hp} : CkQ T ⟨d, none, op⟩ e Hk Hp = ∃ v, evR (R T) fzB T.meth e Hk op = some v ∧ evR (R T) fzB T.meth e Hp op = some v := rfl
theorem ckOne_of {c : Nat × Nat} {r : ROp} (hr : rs[c.1]? = some r) (hz : Zr T (rs.take c.1) e h fun e' Hk => Zr T (rs.take c.2) e h fun _ Hp => CkQ T r e' Hk Hp) : ckOne (R T) (RO T) fzB T.meth rs e h c = true := by
  obtain ⟨q, h1, p, h2, h3⟩ := hz
  unfold ckOne
  rw [h1, h2, hr]
  simp only [CkQ] at h3 ⊢
  split at h3
  · rename_i hg
    obtain ⟨v, h4, h5⟩ := h3
    simp only [hg, h4, h5, optEq]
    exact PV.beq_refl _
  · rename_i hg
    simp only [hg]
  · exact h3.elim
theorem all_nil_ck {f : Nat × Nat → Bool} : ([] : List (Nat × Nat)).all f = true := rfl
theorem all_cons_ck {f : Nat × Nat → Bool} {c : Nat × Nat} {l : List (Nat × Nat)} (h1 : f c = true) (h2 : l.all f = true) : (c :: l).all f = true := by simp [h1, h2]
end
end Go.Proofs.Ytmbknidfkddpfaa.PM
