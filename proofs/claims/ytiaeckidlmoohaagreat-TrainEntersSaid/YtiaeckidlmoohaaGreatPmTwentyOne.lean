/- The pure machine, part 21: pieces of an iterator's code. -/
import Derived.Test.YtiaeckidlmoohaaGreatPmTwenty
set_option linter.unusedVariables false
set_option linter.unusedSimpArgs false
namespace Go.Proofs.YtiaeckidlmoohaaGreat.PM
open Go.RowKit (Below)
section
variable {P : Program} {cp : Nat → List PV → Option PV} {co : Nat → List PV → Hp → Option (PV × Hp)} {fz : Hp → List PV → Option (List PV)} {meth : Nat → String → Option Nat}
end
section
variable {P : Program} {T : Table}
end
end Go.Proofs.YtiaeckidlmoohaaGreat.PM
