/- Trains: short names for pieces of code. -/
import Derived.Test.YtiaeckidlmoohaaGreatPmTwentySeven
namespace Go.Proofs.YtiaeckidlmoohaaGreat
open Go.Proofs.YtiaeckidlmoohaaGreat.PM
@[simp] def aT (n : Nat) : POpd := .tmp n
@[simp] def aO (d : Nat) (p : POp) : ROp := ⟨some d, none, p⟩
@[simp] def aZ (p : POp) : ROp := ⟨none, none, p⟩
@[simp] def bO (d g : Nat) (b : Bool) (p : POp) : ROp := ⟨some d, some (g, b), p⟩
@[simp] def aM (d n : Nat) : ROp := ⟨some d, none, .mv (.tmp n)⟩
@[simp] def aL (d n : Nat) : ROp := ⟨some d, none, .ld none (.tmp n)⟩
@[simp] def aN (d k n : Nat) : ROp := ⟨some d, none, .ld (some k) (.tmp n)⟩
@[simp] def aF (d k n : Nat) : ROp := ⟨some d, none, .faddr k (.tmp n)⟩
@[simp] def aI (d k n j : Nat) : ROp := ⟨some d, none, .iaS k (.tmp n) (.tmp j)⟩
@[simp] def bM (d g : Nat) (b : Bool) (n : Nat) : ROp := ⟨some d, some (g, b), .mv (.tmp n)⟩
@[simp] def bL (d g : Nat) (b : Bool) (n : Nat) : ROp := ⟨some d, some (g, b), .ld none (.tmp n)⟩
@[simp] def bN (d g : Nat) (b : Bool) (k n : Nat) : ROp := ⟨some d, some (g, b), .ld (some k) (.tmp n)⟩
@[simp] def bF (d g : Nat) (b : Bool) (k n : Nat) : ROp := ⟨some d, some (g, b), .faddr k (.tmp n)⟩
end Go.Proofs.YtiaeckidlmoohaaGreat
