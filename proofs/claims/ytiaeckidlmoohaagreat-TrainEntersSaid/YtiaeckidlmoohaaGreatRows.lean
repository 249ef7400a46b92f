/-
  No cell of these rows narrows 'for every input' (looked for: loops, veiled, ifaces, maps, wideKeys, modest, calm, conditions, laid).
  DERIVED. THE GIVEN ROWS OF THIS SEAT. 16 by the template 'for every input the law returns true; each argument reads behind the call as it read before'; 0 by the template 'total and deterministic' (their statements: YtiaeckidlmoohaaGreatTotals.lean).
  GIVEN WITH THE SEED: the statements are not yours to turn. If you find one false, say at which input.
  Laid BY PROGRAM, IN A SANDBOX (cutbox-rows.mjs): the forced cells as the released guide's own fill.sh prints them over the translation 170858e11ac4a089… (all of the seat's roots in one cut). By AI agents, Wed Nov 11 2026. No macro, syntax, notation, axiom, sorry.
-/
import Derived.Test.YtiaeckidlmoohaaGreatChecked
import GoSem.Claim
import GoSem.ClaimJoined
import GoSem.ClaimMapViews
import Derived.JoinedTies
import Derived.KernelRfl
namespace Go.Proofs.YtiaeckidlmoohaaGreat
/- THE CELL 'sum', in the pinned program and in every row, IS THE sha256 OF THE DUMP (.gsa) THAT YtiaeckidlmoohaaGreatProg.lean LOADS. Nothing in Lean hashes anything: it is a label: what it is worth is what the hold of that sum in a sandbox is worth. -/
noncomputable def Tryz.pinned : Pinned := { name := "ytiaeckidlmoohaagreat", sum := "170858e11ac4a089a7c386ebdd0ae34f430fd843704e12066948a7918972b266", checked := Tryz.checked }
namespace Rows
def none {H : Type} : Left H := { results := [], args := [] }

/-- 'hinterlandlaw16.TrainValidates': WHATEVER THE INPUT: true; the input reads as it did. -/
def trainValidatesSpec : ChangeSpec := { name := "trainValidates", fn := fun _ => fun
  | [d] => { results := [.lit (.bool true)], args := [d] }
  | _ => none }
def trainValidatesRow : OpenClaim := { program := "ytiaeckidlmoohaagreat", sum := "170858e11ac4a089a7c386ebdd0ae34f430fd843704e12066948a7918972b266", func := "hinterland/hinterlandlaw16.TrainValidates", spec := "trainValidates", unfollowed := true, recurses := true, plainKeys := false, apart := false }
def TrainValidatesSaid : Prop := trainValidatesRow.holds Tryz.pinned (OpenSpec.ofChange trainValidatesSpec)

/-- ITS FALSE NEIGHBOUR: 'it returns false'. Refute it at one input. -/
def trainValidatesWrong : ChangeSpec := { name := "trainValidates", fn := fun _ => fun
  | [d] => { results := [.lit (.bool false)], args := [d] }
  | _ => none }
def TrainValidatesWrongFalsely : Prop := trainValidatesRow.holds Tryz.pinned (OpenSpec.ofChange trainValidatesWrong)

/-- 'hinterlandlaw16.TrainSafes': WHATEVER THE INPUT: true; the input reads as it did. -/
def trainSafesSpec : ChangeSpec := { name := "trainSafes", fn := fun _ => fun
  | [d] => { results := [.lit (.bool true)], args := [d] }
  | _ => none }
def trainSafesRow : OpenClaim := { program := "ytiaeckidlmoohaagreat", sum := "170858e11ac4a089a7c386ebdd0ae34f430fd843704e12066948a7918972b266", func := "hinterland/hinterlandlaw16.TrainSafes", spec := "trainSafes", unfollowed := true, recurses := true, plainKeys := false, apart := false }
def TrainSafesSaid : Prop := trainSafesRow.holds Tryz.pinned (OpenSpec.ofChange trainSafesSpec)

/-- ITS FALSE NEIGHBOUR: 'it returns false'. Refute it at one input. -/
def trainSafesWrong : ChangeSpec := { name := "trainSafes", fn := fun _ => fun
  | [d] => { results := [.lit (.bool false)], args := [d] }
  | _ => none }
def TrainSafesWrongFalsely : Prop := trainSafesRow.holds Tryz.pinned (OpenSpec.ofChange trainSafesWrong)

/-- 'hinterlandlaw16.TrainSteps': WHATEVER THE INPUT: true; the input reads as it did. -/
def trainStepsSpec : ChangeSpec := { name := "trainSteps", fn := fun _ => fun
  | [d1, d2, d3] => { results := [.lit (.bool true)], args := [d1, d2, d3] }
  | _ => none }
def trainStepsRow : OpenClaim := { program := "ytiaeckidlmoohaagreat", sum := "170858e11ac4a089a7c386ebdd0ae34f430fd843704e12066948a7918972b266", func := "hinterland/hinterlandlaw16.TrainSteps", spec := "trainSteps", unfollowed := true, recurses := true, plainKeys := false, apart := false }
def TrainStepsSaid : Prop := trainStepsRow.holds Tryz.pinned (OpenSpec.ofChange trainStepsSpec)

/-- ITS FALSE NEIGHBOUR: 'it returns false'. Refute it at one input. -/
def trainStepsWrong : ChangeSpec := { name := "trainSteps", fn := fun _ => fun
  | [d1, d2, d3] => { results := [.lit (.bool false)], args := [d1, d2, d3] }
  | _ => none }
def TrainStepsWrongFalsely : Prop := trainStepsRow.holds Tryz.pinned (OpenSpec.ofChange trainStepsWrong)

/-- 'hinterlandlaw16.TrainWaits': WHATEVER THE INPUT: true; the input reads as it did. -/
def trainWaitsSpec : ChangeSpec := { name := "trainWaits", fn := fun _ => fun
  | [d1, d2] => { results := [.lit (.bool true)], args := [d1, d2] }
  | _ => none }
def trainWaitsRow : OpenClaim := { program := "ytiaeckidlmoohaagreat", sum := "170858e11ac4a089a7c386ebdd0ae34f430fd843704e12066948a7918972b266", func := "hinterland/hinterlandlaw16.TrainWaits", spec := "trainWaits", unfollowed := true, recurses := true, plainKeys := false, apart := false }
def TrainWaitsSaid : Prop := trainWaitsRow.holds Tryz.pinned (OpenSpec.ofChange trainWaitsSpec)

/-- ITS FALSE NEIGHBOUR: 'it returns false'. Refute it at one input. -/
def trainWaitsWrong : ChangeSpec := { name := "trainWaits", fn := fun _ => fun
  | [d1, d2] => { results := [.lit (.bool false)], args := [d1, d2] }
  | _ => none }
def TrainWaitsWrongFalsely : Prop := trainWaitsRow.holds Tryz.pinned (OpenSpec.ofChange trainWaitsWrong)

/-- 'hinterlandlaw16.TrainRings': WHATEVER THE INPUT: true; the input reads as it did. -/
def trainRingsSpec : ChangeSpec := { name := "trainRings", fn := fun _ => fun
  | [d] => { results := [.lit (.bool true)], args := [d] }
  | _ => none }
def trainRingsRow : OpenClaim := { program := "ytiaeckidlmoohaagreat", sum := "170858e11ac4a089a7c386ebdd0ae34f430fd843704e12066948a7918972b266", func := "hinterland/hinterlandlaw16.TrainRings", spec := "trainRings", unfollowed := true, recurses := true, plainKeys := false, apart := false }
def TrainRingsSaid : Prop := trainRingsRow.holds Tryz.pinned (OpenSpec.ofChange trainRingsSpec)

/-- ITS FALSE NEIGHBOUR: 'it returns false'. Refute it at one input. -/
def trainRingsWrong : ChangeSpec := { name := "trainRings", fn := fun _ => fun
  | [d] => { results := [.lit (.bool false)], args := [d] }
  | _ => none }
def TrainRingsWrongFalsely : Prop := trainRingsRow.holds Tryz.pinned (OpenSpec.ofChange trainRingsWrong)

/-- 'hinterlandlaw16.TrainRingsClosed': WHATEVER THE INPUT: true; the input reads as it did. -/
def trainRingsClosedSpec : ChangeSpec := { name := "trainRingsClosed", fn := fun _ => fun
  | [d] => { results := [.lit (.bool true)], args := [d] }
  | _ => none }
def trainRingsClosedRow : OpenClaim := { program := "ytiaeckidlmoohaagreat", sum := "170858e11ac4a089a7c386ebdd0ae34f430fd843704e12066948a7918972b266", func := "hinterland/hinterlandlaw16.TrainRingsClosed", spec := "trainRingsClosed", unfollowed := true, recurses := true, plainKeys := false, apart := false }
def TrainRingsClosedSaid : Prop := trainRingsClosedRow.holds Tryz.pinned (OpenSpec.ofChange trainRingsClosedSpec)

/-- ITS FALSE NEIGHBOUR: 'it returns false'. Refute it at one input. -/
def trainRingsClosedWrong : ChangeSpec := { name := "trainRingsClosed", fn := fun _ => fun
  | [d] => { results := [.lit (.bool false)], args := [d] }
  | _ => none }
def TrainRingsClosedWrongFalsely : Prop := trainRingsClosedRow.holds Tryz.pinned (OpenSpec.ofChange trainRingsClosedWrong)

/-- 'hinterlandlaw16.TrainLeaves': WHATEVER THE INPUT: true; the input reads as it did. -/
def trainLeavesSpec : ChangeSpec := { name := "trainLeaves", fn := fun _ => fun
  | [d1, d2] => { results := [.lit (.bool true)], args := [d1, d2] }
  | _ => none }
def trainLeavesRow : OpenClaim := { program := "ytiaeckidlmoohaagreat", sum := "170858e11ac4a089a7c386ebdd0ae34f430fd843704e12066948a7918972b266", func := "hinterland/hinterlandlaw16.TrainLeaves", spec := "trainLeaves", unfollowed := true, recurses := true, plainKeys := false, apart := false }
def TrainLeavesSaid : Prop := trainLeavesRow.holds Tryz.pinned (OpenSpec.ofChange trainLeavesSpec)

/-- ITS FALSE NEIGHBOUR: 'it returns false'. Refute it at one input. -/
def trainLeavesWrong : ChangeSpec := { name := "trainLeaves", fn := fun _ => fun
  | [d1, d2] => { results := [.lit (.bool false)], args := [d1, d2] }
  | _ => none }
def TrainLeavesWrongFalsely : Prop := trainLeavesRow.holds Tryz.pinned (OpenSpec.ofChange trainLeavesWrong)

/-- 'hinterlandlaw16.TrainOptions': WHATEVER THE INPUT: true; the input reads as it did. -/
def trainOptionsSpec : ChangeSpec := { name := "trainOptions", fn := fun _ => fun
  | [d1, d2] => { results := [.lit (.bool true)], args := [d1, d2] }
  | _ => none }
def trainOptionsRow : OpenClaim := { program := "ytiaeckidlmoohaagreat", sum := "170858e11ac4a089a7c386ebdd0ae34f430fd843704e12066948a7918972b266", func := "hinterland/hinterlandlaw16.TrainOptions", spec := "trainOptions", unfollowed := true, recurses := true, plainKeys := false, apart := false }
def TrainOptionsSaid : Prop := trainOptionsRow.holds Tryz.pinned (OpenSpec.ofChange trainOptionsSpec)

/-- ITS FALSE NEIGHBOUR: 'it returns false'. Refute it at one input. -/
def trainOptionsWrong : ChangeSpec := { name := "trainOptions", fn := fun _ => fun
  | [d1, d2] => { results := [.lit (.bool false)], args := [d1, d2] }
  | _ => none }
def TrainOptionsWrongFalsely : Prop := trainOptionsRow.holds Tryz.pinned (OpenSpec.ofChange trainOptionsWrong)

/-- 'hinterlandlaw16.TrainFrees': WHATEVER THE INPUT: true; the input reads as it did. -/
def trainFreesSpec : ChangeSpec := { name := "trainFrees", fn := fun _ => fun
  | [d1, d2, d3] => { results := [.lit (.bool true)], args := [d1, d2, d3] }
  | _ => none }
def trainFreesRow : OpenClaim := { program := "ytiaeckidlmoohaagreat", sum := "170858e11ac4a089a7c386ebdd0ae34f430fd843704e12066948a7918972b266", func := "hinterland/hinterlandlaw16.TrainFrees", spec := "trainFrees", unfollowed := true, recurses := true, plainKeys := false, apart := false }
def TrainFreesSaid : Prop := trainFreesRow.holds Tryz.pinned (OpenSpec.ofChange trainFreesSpec)

/-- ITS FALSE NEIGHBOUR: 'it returns false'. Refute it at one input. -/
def trainFreesWrong : ChangeSpec := { name := "trainFrees", fn := fun _ => fun
  | [d1, d2, d3] => { results := [.lit (.bool false)], args := [d1, d2, d3] }
  | _ => none }
def TrainFreesWrongFalsely : Prop := trainFreesRow.holds Tryz.pinned (OpenSpec.ofChange trainFreesWrong)

/-- 'hinterlandlaw16.TrainChooses': WHATEVER THE INPUT: true; the input reads as it did. -/
def trainChoosesSpec : ChangeSpec := { name := "trainChooses", fn := fun _ => fun
  | [d1, d2, d3] => { results := [.lit (.bool true)], args := [d1, d2, d3] }
  | _ => none }
def trainChoosesRow : OpenClaim := { program := "ytiaeckidlmoohaagreat", sum := "170858e11ac4a089a7c386ebdd0ae34f430fd843704e12066948a7918972b266", func := "hinterland/hinterlandlaw16.TrainChooses", spec := "trainChooses", unfollowed := true, recurses := true, plainKeys := false, apart := false }
def TrainChoosesSaid : Prop := trainChoosesRow.holds Tryz.pinned (OpenSpec.ofChange trainChoosesSpec)

/-- ITS FALSE NEIGHBOUR: 'it returns false'. Refute it at one input. -/
def trainChoosesWrong : ChangeSpec := { name := "trainChooses", fn := fun _ => fun
  | [d1, d2, d3] => { results := [.lit (.bool false)], args := [d1, d2, d3] }
  | _ => none }
def TrainChoosesWrongFalsely : Prop := trainChoosesRow.holds Tryz.pinned (OpenSpec.ofChange trainChoosesWrong)

/-- 'hinterlandlaw16.TrainReserves': WHATEVER THE INPUT: true; the input reads as it did. -/
def trainReservesSpec : ChangeSpec := { name := "trainReserves", fn := fun _ => fun
  | [d1, d2, d3, d4] => { results := [.lit (.bool true)], args := [d1, d2, d3, d4] }
  | _ => none }
def trainReservesRow : OpenClaim := { program := "ytiaeckidlmoohaagreat", sum := "170858e11ac4a089a7c386ebdd0ae34f430fd843704e12066948a7918972b266", func := "hinterland/hinterlandlaw16.TrainReserves", spec := "trainReserves", unfollowed := true, recurses := true, plainKeys := false, apart := false }
def TrainReservesSaid : Prop := trainReservesRow.holds Tryz.pinned (OpenSpec.ofChange trainReservesSpec)

/-- ITS FALSE NEIGHBOUR: 'it returns false'. Refute it at one input. -/
def trainReservesWrong : ChangeSpec := { name := "trainReserves", fn := fun _ => fun
  | [d1, d2, d3, d4] => { results := [.lit (.bool false)], args := [d1, d2, d3, d4] }
  | _ => none }
def TrainReservesWrongFalsely : Prop := trainReservesRow.holds Tryz.pinned (OpenSpec.ofChange trainReservesWrong)

/-- 'hinterlandlaw16.TrainReservesWays': WHATEVER THE INPUT: true; the input reads as it did. -/
def trainReservesWaysSpec : ChangeSpec := { name := "trainReservesWays", fn := fun _ => fun
  | [d1, d2, d3, d4] => { results := [.lit (.bool true)], args := [d1, d2, d3, d4] }
  | _ => none }
def trainReservesWaysRow : OpenClaim := { program := "ytiaeckidlmoohaagreat", sum := "170858e11ac4a089a7c386ebdd0ae34f430fd843704e12066948a7918972b266", func := "hinterland/hinterlandlaw16.TrainReservesWays", spec := "trainReservesWays", unfollowed := true, recurses := true, plainKeys := false, apart := false }
def TrainReservesWaysSaid : Prop := trainReservesWaysRow.holds Tryz.pinned (OpenSpec.ofChange trainReservesWaysSpec)

/-- ITS FALSE NEIGHBOUR: 'it returns false'. Refute it at one input. -/
def trainReservesWaysWrong : ChangeSpec := { name := "trainReservesWays", fn := fun _ => fun
  | [d1, d2, d3, d4] => { results := [.lit (.bool false)], args := [d1, d2, d3, d4] }
  | _ => none }
def TrainReservesWaysWrongFalsely : Prop := trainReservesWaysRow.holds Tryz.pinned (OpenSpec.ofChange trainReservesWaysWrong)

/-- 'hinterlandlaw16.TrainEnters': WHATEVER THE INPUT: true; the input reads as it did. -/
def trainEntersSpec : ChangeSpec := { name := "trainEnters", fn := fun _ => fun
  | [d1, d2, d3] => { results := [.lit (.bool true)], args := [d1, d2, d3] }
  | _ => none }
def trainEntersRow : OpenClaim := { program := "ytiaeckidlmoohaagreat", sum := "170858e11ac4a089a7c386ebdd0ae34f430fd843704e12066948a7918972b266", func := "hinterland/hinterlandlaw16.TrainEnters", spec := "trainEnters", unfollowed := true, recurses := true, plainKeys := false, apart := false }
def TrainEntersSaid : Prop := trainEntersRow.holds Tryz.pinned (OpenSpec.ofChange trainEntersSpec)

/-- ITS FALSE NEIGHBOUR: 'it returns false'. Refute it at one input. -/
def trainEntersWrong : ChangeSpec := { name := "trainEnters", fn := fun _ => fun
  | [d1, d2, d3] => { results := [.lit (.bool false)], args := [d1, d2, d3] }
  | _ => none }
def TrainEntersWrongFalsely : Prop := trainEntersRow.holds Tryz.pinned (OpenSpec.ofChange trainEntersWrong)

/-- 'hinterlandlaw16.TrainTurns': WHATEVER THE INPUT: true; the input reads as it did. -/
def trainTurnsSpec : ChangeSpec := { name := "trainTurns", fn := fun _ => fun
  | [d1, d2] => { results := [.lit (.bool true)], args := [d1, d2] }
  | _ => none }
def trainTurnsRow : OpenClaim := { program := "ytiaeckidlmoohaagreat", sum := "170858e11ac4a089a7c386ebdd0ae34f430fd843704e12066948a7918972b266", func := "hinterland/hinterlandlaw16.TrainTurns", spec := "trainTurns", unfollowed := true, recurses := true, plainKeys := false, apart := false }
def TrainTurnsSaid : Prop := trainTurnsRow.holds Tryz.pinned (OpenSpec.ofChange trainTurnsSpec)

/-- ITS FALSE NEIGHBOUR: 'it returns false'. Refute it at one input. -/
def trainTurnsWrong : ChangeSpec := { name := "trainTurns", fn := fun _ => fun
  | [d1, d2] => { results := [.lit (.bool false)], args := [d1, d2] }
  | _ => none }
def TrainTurnsWrongFalsely : Prop := trainTurnsRow.holds Tryz.pinned (OpenSpec.ofChange trainTurnsWrong)

/-- 'hinterlandlaw16.TrainChoosesLeast': WHATEVER THE INPUT: true; the input reads as it did. -/
def trainChoosesLeastSpec : ChangeSpec := { name := "trainChoosesLeast", fn := fun _ => fun
  | [d1, d2, d3, d4] => { results := [.lit (.bool true)], args := [d1, d2, d3, d4] }
  | _ => none }
def trainChoosesLeastRow : OpenClaim := { program := "ytiaeckidlmoohaagreat", sum := "170858e11ac4a089a7c386ebdd0ae34f430fd843704e12066948a7918972b266", func := "hinterland/hinterlandlaw16.TrainChoosesLeast", spec := "trainChoosesLeast", unfollowed := true, recurses := true, plainKeys := false, apart := false }
def TrainChoosesLeastSaid : Prop := trainChoosesLeastRow.holds Tryz.pinned (OpenSpec.ofChange trainChoosesLeastSpec)

/-- ITS FALSE NEIGHBOUR: 'it returns false'. Refute it at one input. -/
def trainChoosesLeastWrong : ChangeSpec := { name := "trainChoosesLeast", fn := fun _ => fun
  | [d1, d2, d3, d4] => { results := [.lit (.bool false)], args := [d1, d2, d3, d4] }
  | _ => none }
def TrainChoosesLeastWrongFalsely : Prop := trainChoosesLeastRow.holds Tryz.pinned (OpenSpec.ofChange trainChoosesLeastWrong)

/-- 'hinterlandlaw16.TrainKeeps': WHATEVER THE INPUT: true; the input reads as it did. -/
def trainKeepsSpec : ChangeSpec := { name := "trainKeeps", fn := fun _ => fun
  | [d1, d2, d3] => { results := [.lit (.bool true)], args := [d1, d2, d3] }
  | _ => none }
def trainKeepsRow : OpenClaim := { program := "ytiaeckidlmoohaagreat", sum := "170858e11ac4a089a7c386ebdd0ae34f430fd843704e12066948a7918972b266", func := "hinterland/hinterlandlaw16.TrainKeeps", spec := "trainKeeps", unfollowed := true, recurses := true, plainKeys := false, apart := false }
def TrainKeepsSaid : Prop := trainKeepsRow.holds Tryz.pinned (OpenSpec.ofChange trainKeepsSpec)

/-- ITS FALSE NEIGHBOUR: 'it returns false'. Refute it at one input. -/
def trainKeepsWrong : ChangeSpec := { name := "trainKeeps", fn := fun _ => fun
  | [d1, d2, d3] => { results := [.lit (.bool false)], args := [d1, d2, d3] }
  | _ => none }
def TrainKeepsWrongFalsely : Prop := trainKeepsRow.holds Tryz.pinned (OpenSpec.ofChange trainKeepsWrong)

/- THE SECOND FORM. 'bulk': how many values and letters a reading holds, each counted each time it is reached (what is shared counts as often as it is met; a slice's spare places count too). A statement '..UptoSaid' is the law's where the arguments, and the package variables that the reading takes, are together of bulk at most 1048576: NARROWER than '..Said'. Prove '..Said' where nothing that the law and all that it calls make is longer than what came in: it says more and counts as full. Else prove '..UptoSaid'. A law counts once. -/
mutual
def uptoBulk {H : Type} : DataW H → Nat
  | .lit (.string bytes) => bytes.length + 1
  | .lit _ => 1
  | .nil => 1
  | .ptr d => uptoBulk d + 1
  | .slice elems spare => uptoBulkAll elems + uptoBulkAll spare + 1
  | .agg parts => uptoBulkAll parts + 1
  | .iface _ d => uptoBulk d + 1
  | .map entries => uptoBulkEntries entries + 1
  | .held _ => 1
def uptoBulkAll {H : Type} : List (DataW H) → Nat
  | [] => 0
  | d :: r => uptoBulk d + uptoBulkAll r
def uptoBulkEntries {H : Type} : List (Lit × DataW H) → Nat
  | [] => 0
  | x :: r => uptoBulkEntry x + uptoBulkEntries r
def uptoBulkEntry {H : Type} : Lit × DataW H → Nat
  | (.string bytes, d) => bytes.length + uptoBulk d + 1
  | (_, d) => uptoBulk d + 1
 end
def uptoSmall : (H : Type) → List (DataW H) → Bool := fun _ ds => decide (uptoBulkAll ds ≤ 1048576)
def OpenSpec.upto (s : _root_.Go.ChangeSpec) : _root_.Go.OpenSpec := { _root_.Go.OpenSpec.ofChange s with cond := some uptoSmall }

/-- 'hinterlandlaw16.TrainValidates', WHERE WHAT IT READS IS OF BULK AT MOST 1048576: true; the input reads as it did. -/
def trainValidatesUptoRow : OpenClaim := { program := "ytiaeckidlmoohaagreat", sum := "170858e11ac4a089a7c386ebdd0ae34f430fd843704e12066948a7918972b266", func := "hinterland/hinterlandlaw16.TrainValidates", spec := "trainValidates", unfollowed := true, recurses := true, plainKeys := false, apart := false, narrowed := true }
def TrainValidatesUptoSaid : Prop := trainValidatesUptoRow.holds Tryz.pinned (OpenSpec.upto trainValidatesSpec)

/-- 'hinterlandlaw16.TrainSafes', WHERE WHAT IT READS IS OF BULK AT MOST 1048576: true; the input reads as it did. -/
def trainSafesUptoRow : OpenClaim := { program := "ytiaeckidlmoohaagreat", sum := "170858e11ac4a089a7c386ebdd0ae34f430fd843704e12066948a7918972b266", func := "hinterland/hinterlandlaw16.TrainSafes", spec := "trainSafes", unfollowed := true, recurses := true, plainKeys := false, apart := false, narrowed := true }
def TrainSafesUptoSaid : Prop := trainSafesUptoRow.holds Tryz.pinned (OpenSpec.upto trainSafesSpec)

/-- 'hinterlandlaw16.TrainSteps', WHERE WHAT IT READS IS OF BULK AT MOST 1048576: true; the input reads as it did. -/
def trainStepsUptoRow : OpenClaim := { program := "ytiaeckidlmoohaagreat", sum := "170858e11ac4a089a7c386ebdd0ae34f430fd843704e12066948a7918972b266", func := "hinterland/hinterlandlaw16.TrainSteps", spec := "trainSteps", unfollowed := true, recurses := true, plainKeys := false, apart := false, narrowed := true }
def TrainStepsUptoSaid : Prop := trainStepsUptoRow.holds Tryz.pinned (OpenSpec.upto trainStepsSpec)

/-- 'hinterlandlaw16.TrainWaits', WHERE WHAT IT READS IS OF BULK AT MOST 1048576: true; the input reads as it did. -/
def trainWaitsUptoRow : OpenClaim := { program := "ytiaeckidlmoohaagreat", sum := "170858e11ac4a089a7c386ebdd0ae34f430fd843704e12066948a7918972b266", func := "hinterland/hinterlandlaw16.TrainWaits", spec := "trainWaits", unfollowed := true, recurses := true, plainKeys := false, apart := false, narrowed := true }
def TrainWaitsUptoSaid : Prop := trainWaitsUptoRow.holds Tryz.pinned (OpenSpec.upto trainWaitsSpec)

/-- 'hinterlandlaw16.TrainRings', WHERE WHAT IT READS IS OF BULK AT MOST 1048576: true; the input reads as it did. -/
def trainRingsUptoRow : OpenClaim := { program := "ytiaeckidlmoohaagreat", sum := "170858e11ac4a089a7c386ebdd0ae34f430fd843704e12066948a7918972b266", func := "hinterland/hinterlandlaw16.TrainRings", spec := "trainRings", unfollowed := true, recurses := true, plainKeys := false, apart := false, narrowed := true }
def TrainRingsUptoSaid : Prop := trainRingsUptoRow.holds Tryz.pinned (OpenSpec.upto trainRingsSpec)

/-- 'hinterlandlaw16.TrainRingsClosed', WHERE WHAT IT READS IS OF BULK AT MOST 1048576: true; the input reads as it did. -/
def trainRingsClosedUptoRow : OpenClaim := { program := "ytiaeckidlmoohaagreat", sum := "170858e11ac4a089a7c386ebdd0ae34f430fd843704e12066948a7918972b266", func := "hinterland/hinterlandlaw16.TrainRingsClosed", spec := "trainRingsClosed", unfollowed := true, recurses := true, plainKeys := false, apart := false, narrowed := true }
def TrainRingsClosedUptoSaid : Prop := trainRingsClosedUptoRow.holds Tryz.pinned (OpenSpec.upto trainRingsClosedSpec)

/-- 'hinterlandlaw16.TrainLeaves', WHERE WHAT IT READS IS OF BULK AT MOST 1048576: true; the input reads as it did. -/
def trainLeavesUptoRow : OpenClaim := { program := "ytiaeckidlmoohaagreat", sum := "170858e11ac4a089a7c386ebdd0ae34f430fd843704e12066948a7918972b266", func := "hinterland/hinterlandlaw16.TrainLeaves", spec := "trainLeaves", unfollowed := true, recurses := true, plainKeys := false, apart := false, narrowed := true }
def TrainLeavesUptoSaid : Prop := trainLeavesUptoRow.holds Tryz.pinned (OpenSpec.upto trainLeavesSpec)

/-- 'hinterlandlaw16.TrainOptions', WHERE WHAT IT READS IS OF BULK AT MOST 1048576: true; the input reads as it did. -/
def trainOptionsUptoRow : OpenClaim := { program := "ytiaeckidlmoohaagreat", sum := "170858e11ac4a089a7c386ebdd0ae34f430fd843704e12066948a7918972b266", func := "hinterland/hinterlandlaw16.TrainOptions", spec := "trainOptions", unfollowed := true, recurses := true, plainKeys := false, apart := false, narrowed := true }
def TrainOptionsUptoSaid : Prop := trainOptionsUptoRow.holds Tryz.pinned (OpenSpec.upto trainOptionsSpec)

/-- 'hinterlandlaw16.TrainFrees', WHERE WHAT IT READS IS OF BULK AT MOST 1048576: true; the input reads as it did. -/
def trainFreesUptoRow : OpenClaim := { program := "ytiaeckidlmoohaagreat", sum := "170858e11ac4a089a7c386ebdd0ae34f430fd843704e12066948a7918972b266", func := "hinterland/hinterlandlaw16.TrainFrees", spec := "trainFrees", unfollowed := true, recurses := true, plainKeys := false, apart := false, narrowed := true }
def TrainFreesUptoSaid : Prop := trainFreesUptoRow.holds Tryz.pinned (OpenSpec.upto trainFreesSpec)

/-- 'hinterlandlaw16.TrainChooses', WHERE WHAT IT READS IS OF BULK AT MOST 1048576: true; the input reads as it did. -/
def trainChoosesUptoRow : OpenClaim := { program := "ytiaeckidlmoohaagreat", sum := "170858e11ac4a089a7c386ebdd0ae34f430fd843704e12066948a7918972b266", func := "hinterland/hinterlandlaw16.TrainChooses", spec := "trainChooses", unfollowed := true, recurses := true, plainKeys := false, apart := false, narrowed := true }
def TrainChoosesUptoSaid : Prop := trainChoosesUptoRow.holds Tryz.pinned (OpenSpec.upto trainChoosesSpec)

/-- 'hinterlandlaw16.TrainReserves', WHERE WHAT IT READS IS OF BULK AT MOST 1048576: true; the input reads as it did. -/
def trainReservesUptoRow : OpenClaim := { program := "ytiaeckidlmoohaagreat", sum := "170858e11ac4a089a7c386ebdd0ae34f430fd843704e12066948a7918972b266", func := "hinterland/hinterlandlaw16.TrainReserves", spec := "trainReserves", unfollowed := true, recurses := true, plainKeys := false, apart := false, narrowed := true }
def TrainReservesUptoSaid : Prop := trainReservesUptoRow.holds Tryz.pinned (OpenSpec.upto trainReservesSpec)

/-- 'hinterlandlaw16.TrainReservesWays', WHERE WHAT IT READS IS OF BULK AT MOST 1048576: true; the input reads as it did. -/
def trainReservesWaysUptoRow : OpenClaim := { program := "ytiaeckidlmoohaagreat", sum := "170858e11ac4a089a7c386ebdd0ae34f430fd843704e12066948a7918972b266", func := "hinterland/hinterlandlaw16.TrainReservesWays", spec := "trainReservesWays", unfollowed := true, recurses := true, plainKeys := false, apart := false, narrowed := true }
def TrainReservesWaysUptoSaid : Prop := trainReservesWaysUptoRow.holds Tryz.pinned (OpenSpec.upto trainReservesWaysSpec)

/-- 'hinterlandlaw16.TrainEnters', WHERE WHAT IT READS IS OF BULK AT MOST 1048576: true; the input reads as it did. -/
def trainEntersUptoRow : OpenClaim := { program := "ytiaeckidlmoohaagreat", sum := "170858e11ac4a089a7c386ebdd0ae34f430fd843704e12066948a7918972b266", func := "hinterland/hinterlandlaw16.TrainEnters", spec := "trainEnters", unfollowed := true, recurses := true, plainKeys := false, apart := false, narrowed := true }
def TrainEntersUptoSaid : Prop := trainEntersUptoRow.holds Tryz.pinned (OpenSpec.upto trainEntersSpec)

/-- 'hinterlandlaw16.TrainTurns', WHERE WHAT IT READS IS OF BULK AT MOST 1048576: true; the input reads as it did. -/
def trainTurnsUptoRow : OpenClaim := { program := "ytiaeckidlmoohaagreat", sum := "170858e11ac4a089a7c386ebdd0ae34f430fd843704e12066948a7918972b266", func := "hinterland/hinterlandlaw16.TrainTurns", spec := "trainTurns", unfollowed := true, recurses := true, plainKeys := false, apart := false, narrowed := true }
def TrainTurnsUptoSaid : Prop := trainTurnsUptoRow.holds Tryz.pinned (OpenSpec.upto trainTurnsSpec)

/-- 'hinterlandlaw16.TrainChoosesLeast', WHERE WHAT IT READS IS OF BULK AT MOST 1048576: true; the input reads as it did. -/
def trainChoosesLeastUptoRow : OpenClaim := { program := "ytiaeckidlmoohaagreat", sum := "170858e11ac4a089a7c386ebdd0ae34f430fd843704e12066948a7918972b266", func := "hinterland/hinterlandlaw16.TrainChoosesLeast", spec := "trainChoosesLeast", unfollowed := true, recurses := true, plainKeys := false, apart := false, narrowed := true }
def TrainChoosesLeastUptoSaid : Prop := trainChoosesLeastUptoRow.holds Tryz.pinned (OpenSpec.upto trainChoosesLeastSpec)

/-- 'hinterlandlaw16.TrainKeeps', WHERE WHAT IT READS IS OF BULK AT MOST 1048576: true; the input reads as it did. -/
def trainKeepsUptoRow : OpenClaim := { program := "ytiaeckidlmoohaagreat", sum := "170858e11ac4a089a7c386ebdd0ae34f430fd843704e12066948a7918972b266", func := "hinterland/hinterlandlaw16.TrainKeeps", spec := "trainKeeps", unfollowed := true, recurses := true, plainKeys := false, apart := false, narrowed := true }
def TrainKeepsUptoSaid : Prop := trainKeepsUptoRow.holds Tryz.pinned (OpenSpec.upto trainKeepsSpec)

end Rows
end Go.Proofs.YtiaeckidlmoohaaGreat
