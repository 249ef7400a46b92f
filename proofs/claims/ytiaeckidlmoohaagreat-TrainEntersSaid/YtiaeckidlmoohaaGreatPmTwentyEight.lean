/- The pure machine, part 28: a table that remembers calls. -/
import Derived.Test.YtiaeckidlmoohaaGreatPmTwentySeven
namespace Go.Proofs.YtiaeckidlmoohaaGreat.PM
def memo : List (Nat × List PV × PV) → Nat → List PV → Option PV
  | [], _, _ => none
  | m :: r, f, args => if m.1 = f then (if PV.beqL m.2.1 args then some m.2.2 else memo r f args) else memo r f args
def Table.withMemo (T : Table) (L : List (Nat × List PV × PV)) : Table := { T with nat := fun f args => match memo L f args with | some r => some r | none => T.nat f args }
def MemoOk (P : Program) (L : List (Nat × List PV × PV)) : Prop := ∀ f args r, memo L f args = some r → PureOk P f args r
theorem MemoOk.nil {P : Program} : MemoOk P [] := fun _ _ _ h => by cases h
theorem MemoOk.cons {P : Program} {f : Nat} {args : List PV} {r : PV} {L : List (Nat × List PV × PV)} (h : PureOk P f args r) (hL : MemoOk P L) : MemoOk P ((f, args, r) :: L) := by
  intro g as q hq
  simp only [memo] at hq
  split at hq
  · rename_i e
    subst e
    split at hq
    · rename_i hb
      obtain rfl := PV.beqL_eq _ _ hb
      simp only [Option.some.injEq] at hq
      subst hq
      exact h
    · exact hL _ _ _ hq
  · exact hL _ _ _ hq
theorem TOk.memo {P : Program} {T : Table} (hT : TOk P T) {L : List (Nat × List PV × PV)} (hL : MemoOk P L) : TOk P (T.withMemo L) := by
  refine ⟨hT.fns, fun f args r h => ?_, hT.natO, hT.meth, hT.sq, hT.mix⟩
  simp only [Table.withMemo] at h
  split at h
  · rename_i q hq
    simp only [Option.some.injEq] at h
    subst h
    exact hL _ _ _ hq
  · exact hT.nat f args r h
theorem MemoOk.call {P : Program} {T : Table} (hT : TOk P T) {L : List (Nat × List PV × PV)} (hL : MemoOk P L) {n f : Nat} {args : List PV} {r : PV} (h : (match pcall (T.withMemo L) n f args with | some v => PV.beq v r | none => false) = true) : MemoOk P ((f, args, r) :: L) := by
  split at h
  · rename_i v hv
    obtain rfl := PV.beq_eq _ _ h
    exact .cons (pcall_ok (hT.memo hL) hv) hL
  · cases h
theorem MemoOk.ncall {P : Program} {T : Table} (hT : TOk P T) {L : List (Nat × List PV × PV)} (hL : MemoOk P L) {n f : Nat} {F : PFn} {args : List PV} {r : PV} (hF : fnOk P f F = true) (hN : nfnOk P f F = true) (h : Go.Proofs.YtiaeckidlmoohaaGreat.PM.ncall (T.withMemo L) n F args r = true) : MemoOk P ((f, args, r) :: L) :=
  .cons (ncall_ok (hT.memo hL) hF hN h) hL
end Go.Proofs.YtiaeckidlmoohaaGreat.PM
