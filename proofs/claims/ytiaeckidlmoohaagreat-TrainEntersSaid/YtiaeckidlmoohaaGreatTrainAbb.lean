/- Trains: short names for pieces of code. -/
import Derived.Test.YtiaeckidlmoohaaGreatPmTwentySeven
namespace Go.Proofs.YtiaeckidlmoohaaGreat
open Go.Proofs.YtiaeckidlmoohaaGreat.PM
@[simp] def aT (n : Nat) : POpd := .tmp n
@[simp] def aO (d : Nat) (p : POp) : ROp := ⟨some d, none, p⟩
@[simp] def aZ (p : POp) : ROp := ⟨none, none, p⟩
@[simp] def bO (d g : Nat) (b : Bool) (p : POp) : ROp := ⟨some d, some (g, b), p⟩
@[simp] def aM (d n : Nat) : ROp := ⟨some d, none, .mv (.tmp n)⟩
@[simp] def aL (d n : Nat) : ROp := ⟨some d, none, .ld none (.tmp n)⟩
@[simp] def aN (d k n : Nat) : ROp := ⟨some d, none, .ld (some k) (.tmp n)⟩
@[simp] def aF (d k n : Nat) : ROp := ⟨some d, none, .faddr k (.tmp n)⟩
@[simp] def aI (d k n j : Nat) : ROp := ⟨some d, none, .iaS k (.tmp n) (.tmp j)⟩
@[simp] def bM (d g : Nat) (b : Bool) (n : Nat) : ROp := ⟨some d, some (g, b), .mv (.tmp n)⟩
@[simp] def bL (d g : Nat) (b : Bool) (n : Nat) : ROp := ⟨some d, some (g, b), .ld none (.tmp n)⟩
@[simp] def bN (d g : Nat) (b : Bool) (k n : Nat) : ROp := ⟨some d, some (g, b), .ld (some k) (.tmp n)⟩
@[simp] def bF (d g : Nat) (b : Bool) (k n : Nat) : ROp := ⟨some d, some (g, b), .faddr k (.tmp n)⟩
@[simp] def cI (n : Int) : POpd := .val (.int .i64 n)
@[simp] def iP (n : Int) : PV := .int .i64 n
@[simp] def aB (d : Nat) (o : BinOp) (a b : Nat) : ROp := ⟨some d, none, .bin o (.tmp a) (.tmp b)⟩
@[simp] def aK (d : Nat) (o : BinOp) (a : Nat) (k : Int) : ROp := ⟨some d, none, .bin o (.tmp a) (.val (.int .i64 k))⟩
@[simp] def aC (d : Nat) (k : Int) : ROp := ⟨some d, none, .mv (.val (.int .i64 k))⟩
@[simp] def aU (d : Nat) (b : Bool) : ROp := ⟨some d, none, .mv (.val (.bool b))⟩
@[simp] def aG (d n : Nat) : ROp := ⟨some d, none, .len (.tmp n)⟩
@[simp] def aE (d k n : Nat) : ROp := ⟨some d, none, .ext k (.tmp n)⟩
@[simp] def aP (d f : Nat) (l : List POpd) : ROp := ⟨some d, none, .call f .pure l⟩
@[simp] def rg (l : List ROp) (v : List Nat) : PCode := .reg l [] v
@[simp] def sq (a b : PCode) : PCode := .seq a b
@[simp] def cn (n : Nat) (a b : PCode) : PCode := .cond (.tmp n) a b
end Go.Proofs.YtiaeckidlmoohaaGreat
