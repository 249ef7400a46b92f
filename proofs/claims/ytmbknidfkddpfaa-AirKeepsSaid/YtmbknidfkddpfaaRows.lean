/-
  No cell of these rows narrows 'for every input' (looked for: loops, veiled, ifaces, maps, wideKeys, modest, calm, conditions, laid).
  DERIVED. THE GIVEN ROWS OF THIS SEAT. 10 by the template 'for every input the law returns true; each argument reads behind the call as it read before'; 0 by the template 'total and deterministic' (their statements: YtmbknidfkddpfaaTotals.lean).
  GIVEN WITH THE SEED: the statements are not yours to turn. If you find one false, say at which input.
  Laid BY PROGRAM, IN A SANDBOX (cutbox-rows.mjs): the forced cells as the released guide's own fill.sh prints them over the translation b8012df7ae073544… (all of the seat's roots in one cut). By AI agents, Wed Nov 11 2026. No macro, syntax, notation, axiom, sorry.
-/
import Derived.Test.YtmbknidfkddpfaaChecked
import GoSem.Claim
import GoSem.ClaimJoined
import GoSem.ClaimMapViews
import Derived.JoinedTies
import Derived.KernelRfl
namespace Go.Proofs.Ytmbknidfkddpfaa
/- THE CELL 'sum', in the pinned program and in every row, IS THE sha256 OF THE DUMP (.gsa) THAT YtmbknidfkddpfaaProg.lean LOADS. Nothing in Lean hashes anything: it is a label: what it is worth is what the hold of that sum in a sandbox is worth. -/
noncomputable def Try.pinned : Pinned := { name := "ytmbknidfkddpfaa", sum := "b8012df7ae073544242a77b91352e61a82f95e10144d50ddae1c5597a59b6138", checked := Try.checked }
namespace Rows
def none {H : Type} : Left H := { results := [], args := [] }

/-- 'hinterlandlaw18.AirValidates': WHATEVER THE INPUT: true; the input reads as it did. -/
def airValidatesSpec : ChangeSpec := { name := "airValidates", fn := fun _ => fun
  | [d] => { results := [.lit (.bool true)], args := [d] }
  | _ => none }
def airValidatesRow : OpenClaim := { program := "ytmbknidfkddpfaa", sum := "b8012df7ae073544242a77b91352e61a82f95e10144d50ddae1c5597a59b6138", func := "hinterland/hinterlandlaw18.AirValidates", spec := "airValidates", unfollowed := true, recurses := true, apart := false }
def AirValidatesSaid : Prop := airValidatesRow.holds Try.pinned (OpenSpec.ofChange airValidatesSpec)

/-- ITS FALSE NEIGHBOUR: 'it returns false'. Refute it at one input. -/
def airValidatesWrong : ChangeSpec := { name := "airValidates", fn := fun _ => fun
  | [d] => { results := [.lit (.bool false)], args := [d] }
  | _ => none }
def AirValidatesWrongFalsely : Prop := airValidatesRow.holds Try.pinned (OpenSpec.ofChange airValidatesWrong)

/-- 'hinterlandlaw18.AirSkies': WHATEVER THE INPUT: true; the input reads as it did. -/
def airSkiesSpec : ChangeSpec := { name := "airSkies", fn := fun _ => fun
  | [d] => { results := [.lit (.bool true)], args := [d] }
  | _ => none }
def airSkiesRow : OpenClaim := { program := "ytmbknidfkddpfaa", sum := "b8012df7ae073544242a77b91352e61a82f95e10144d50ddae1c5597a59b6138", func := "hinterland/hinterlandlaw18.AirSkies", spec := "airSkies", unfollowed := true, recurses := true, apart := false }
def AirSkiesSaid : Prop := airSkiesRow.holds Try.pinned (OpenSpec.ofChange airSkiesSpec)

/-- ITS FALSE NEIGHBOUR: 'it returns false'. Refute it at one input. -/
def airSkiesWrong : ChangeSpec := { name := "airSkies", fn := fun _ => fun
  | [d] => { results := [.lit (.bool false)], args := [d] }
  | _ => none }
def AirSkiesWrongFalsely : Prop := airSkiesRow.holds Try.pinned (OpenSpec.ofChange airSkiesWrong)

/-- 'hinterlandlaw18.AirSteps': WHATEVER THE INPUT: true; the input reads as it did. -/
def airStepsSpec : ChangeSpec := { name := "airSteps", fn := fun _ => fun
  | [d] => { results := [.lit (.bool true)], args := [d] }
  | _ => none }
def airStepsRow : OpenClaim := { program := "ytmbknidfkddpfaa", sum := "b8012df7ae073544242a77b91352e61a82f95e10144d50ddae1c5597a59b6138", func := "hinterland/hinterlandlaw18.AirSteps", spec := "airSteps", unfollowed := true, recurses := true, apart := false }
def AirStepsSaid : Prop := airStepsRow.holds Try.pinned (OpenSpec.ofChange airStepsSpec)

/-- ITS FALSE NEIGHBOUR: 'it returns false'. Refute it at one input. -/
def airStepsWrong : ChangeSpec := { name := "airSteps", fn := fun _ => fun
  | [d] => { results := [.lit (.bool false)], args := [d] }
  | _ => none }
def AirStepsWrongFalsely : Prop := airStepsRow.holds Try.pinned (OpenSpec.ofChange airStepsWrong)

/-- 'hinterlandlaw18.AirArrives': WHATEVER THE INPUT: true; the input reads as it did. -/
def airArrivesSpec : ChangeSpec := { name := "airArrives", fn := fun _ => fun
  | [d1, d2] => { results := [.lit (.bool true)], args := [d1, d2] }
  | _ => none }
def airArrivesRow : OpenClaim := { program := "ytmbknidfkddpfaa", sum := "b8012df7ae073544242a77b91352e61a82f95e10144d50ddae1c5597a59b6138", func := "hinterland/hinterlandlaw18.AirArrives", spec := "airArrives", unfollowed := true, recurses := true, apart := false }
def AirArrivesSaid : Prop := airArrivesRow.holds Try.pinned (OpenSpec.ofChange airArrivesSpec)

/-- ITS FALSE NEIGHBOUR: 'it returns false'. Refute it at one input. -/
def airArrivesWrong : ChangeSpec := { name := "airArrives", fn := fun _ => fun
  | [d1, d2] => { results := [.lit (.bool false)], args := [d1, d2] }
  | _ => none }
def AirArrivesWrongFalsely : Prop := airArrivesRow.holds Try.pinned (OpenSpec.ofChange airArrivesWrong)

/-- 'hinterlandlaw18.AirWays': WHATEVER THE INPUT: true; the input reads as it did. -/
def airWaysSpec : ChangeSpec := { name := "airWays", fn := fun _ => fun
  | [d1, d2, d3] => { results := [.lit (.bool true)], args := [d1, d2, d3] }
  | _ => none }
def airWaysRow : OpenClaim := { program := "ytmbknidfkddpfaa", sum := "b8012df7ae073544242a77b91352e61a82f95e10144d50ddae1c5597a59b6138", func := "hinterland/hinterlandlaw18.AirWays", spec := "airWays", unfollowed := true, recurses := true, apart := false }
def AirWaysSaid : Prop := airWaysRow.holds Try.pinned (OpenSpec.ofChange airWaysSpec)

/-- ITS FALSE NEIGHBOUR: 'it returns false'. Refute it at one input. -/
def airWaysWrong : ChangeSpec := { name := "airWays", fn := fun _ => fun
  | [d1, d2, d3] => { results := [.lit (.bool false)], args := [d1, d2, d3] }
  | _ => none }
def AirWaysWrongFalsely : Prop := airWaysRow.holds Try.pinned (OpenSpec.ofChange airWaysWrong)

/-- 'hinterlandlaw18.AirWaysLeast': WHATEVER THE INPUT: true; the input reads as it did. -/
def airWaysLeastSpec : ChangeSpec := { name := "airWaysLeast", fn := fun _ => fun
  | [d1, d2, d3, d4] => { results := [.lit (.bool true)], args := [d1, d2, d3, d4] }
  | _ => none }
def airWaysLeastRow : OpenClaim := { program := "ytmbknidfkddpfaa", sum := "b8012df7ae073544242a77b91352e61a82f95e10144d50ddae1c5597a59b6138", func := "hinterland/hinterlandlaw18.AirWaysLeast", spec := "airWaysLeast", unfollowed := true, recurses := true, apart := false }
def AirWaysLeastSaid : Prop := airWaysLeastRow.holds Try.pinned (OpenSpec.ofChange airWaysLeastSpec)

/-- ITS FALSE NEIGHBOUR: 'it returns false'. Refute it at one input. -/
def airWaysLeastWrong : ChangeSpec := { name := "airWaysLeast", fn := fun _ => fun
  | [d1, d2, d3, d4] => { results := [.lit (.bool false)], args := [d1, d2, d3, d4] }
  | _ => none }
def AirWaysLeastWrongFalsely : Prop := airWaysLeastRow.holds Try.pinned (OpenSpec.ofChange airWaysLeastWrong)

/-- 'hinterlandlaw18.AirComesIn': WHATEVER THE INPUT: true; the input reads as it did. -/
def airComesInSpec : ChangeSpec := { name := "airComesIn", fn := fun _ => fun
  | [d1, d2] => { results := [.lit (.bool true)], args := [d1, d2] }
  | _ => none }
def airComesInRow : OpenClaim := { program := "ytmbknidfkddpfaa", sum := "b8012df7ae073544242a77b91352e61a82f95e10144d50ddae1c5597a59b6138", func := "hinterland/hinterlandlaw18.AirComesIn", spec := "airComesIn", unfollowed := true, recurses := true, apart := false }
def AirComesInSaid : Prop := airComesInRow.holds Try.pinned (OpenSpec.ofChange airComesInSpec)

/-- ITS FALSE NEIGHBOUR: 'it returns false'. Refute it at one input. -/
def airComesInWrong : ChangeSpec := { name := "airComesIn", fn := fun _ => fun
  | [d1, d2] => { results := [.lit (.bool false)], args := [d1, d2] }
  | _ => none }
def AirComesInWrongFalsely : Prop := airComesInRow.holds Try.pinned (OpenSpec.ofChange airComesInWrong)

/-- 'hinterlandlaw18.AirPlans': WHATEVER THE INPUT: true; the input reads as it did. -/
def airPlansSpec : ChangeSpec := { name := "airPlans", fn := fun _ => fun
  | [d] => { results := [.lit (.bool true)], args := [d] }
  | _ => none }
def airPlansRow : OpenClaim := { program := "ytmbknidfkddpfaa", sum := "b8012df7ae073544242a77b91352e61a82f95e10144d50ddae1c5597a59b6138", func := "hinterland/hinterlandlaw18.AirPlans", spec := "airPlans", unfollowed := true, recurses := true, apart := false }
def AirPlansSaid : Prop := airPlansRow.holds Try.pinned (OpenSpec.ofChange airPlansSpec)

/-- ITS FALSE NEIGHBOUR: 'it returns false'. Refute it at one input. -/
def airPlansWrong : ChangeSpec := { name := "airPlans", fn := fun _ => fun
  | [d] => { results := [.lit (.bool false)], args := [d] }
  | _ => none }
def AirPlansWrongFalsely : Prop := airPlansRow.holds Try.pinned (OpenSpec.ofChange airPlansWrong)

/-- 'hinterlandlaw18.AirOpens': WHATEVER THE INPUT: true; the input reads as it did. -/
def airOpensSpec : ChangeSpec := { name := "airOpens", fn := fun _ => fun
  | [d] => { results := [.lit (.bool true)], args := [d] }
  | _ => none }
def airOpensRow : OpenClaim := { program := "ytmbknidfkddpfaa", sum := "b8012df7ae073544242a77b91352e61a82f95e10144d50ddae1c5597a59b6138", func := "hinterland/hinterlandlaw18.AirOpens", spec := "airOpens", unfollowed := true, recurses := true, apart := false }
def AirOpensSaid : Prop := airOpensRow.holds Try.pinned (OpenSpec.ofChange airOpensSpec)

/-- ITS FALSE NEIGHBOUR: 'it returns false'. Refute it at one input. -/
def airOpensWrong : ChangeSpec := { name := "airOpens", fn := fun _ => fun
  | [d] => { results := [.lit (.bool false)], args := [d] }
  | _ => none }
def AirOpensWrongFalsely : Prop := airOpensRow.holds Try.pinned (OpenSpec.ofChange airOpensWrong)

/-- 'hinterlandlaw18.AirKeeps': WHATEVER THE INPUT: true; the input reads as it did. -/
def airKeepsSpec : ChangeSpec := { name := "airKeeps", fn := fun _ => fun
  | [d1, d2] => { results := [.lit (.bool true)], args := [d1, d2] }
  | _ => none }
def airKeepsRow : OpenClaim := { program := "ytmbknidfkddpfaa", sum := "b8012df7ae073544242a77b91352e61a82f95e10144d50ddae1c5597a59b6138", func := "hinterland/hinterlandlaw18.AirKeeps", spec := "airKeeps", unfollowed := true, recurses := true, apart := false }
def AirKeepsSaid : Prop := airKeepsRow.holds Try.pinned (OpenSpec.ofChange airKeepsSpec)

/-- ITS FALSE NEIGHBOUR: 'it returns false'. Refute it at one input. -/
def airKeepsWrong : ChangeSpec := { name := "airKeeps", fn := fun _ => fun
  | [d1, d2] => { results := [.lit (.bool false)], args := [d1, d2] }
  | _ => none }
def AirKeepsWrongFalsely : Prop := airKeepsRow.holds Try.pinned (OpenSpec.ofChange airKeepsWrong)

/- THE SECOND FORM. 'bulk': how many values and letters a reading holds, each counted each time it is reached (what is shared counts as often as it is met; a slice's spare places count too). A statement '..UptoSaid' is the law's where the arguments, and the package variables that the reading takes, are together of bulk at most 1048576: NARROWER than '..Said'. Prove '..Said' where nothing that the law and all that it calls make is longer than what came in: it says more and counts as full. Else prove '..UptoSaid'. A law counts once. -/
mutual
def uptoBulk {H : Type} : DataW H → Nat
  | .lit (.string bytes) => bytes.length + 1
  | .lit _ => 1
  | .nil => 1
  | .ptr d => uptoBulk d + 1
  | .slice elems spare => uptoBulkAll elems + uptoBulkAll spare + 1
  | .agg parts => uptoBulkAll parts + 1
  | .iface _ d => uptoBulk d + 1
  | .map entries => uptoBulkEntries entries + 1
  | .held _ => 1
def uptoBulkAll {H : Type} : List (DataW H) → Nat
  | [] => 0
  | d :: r => uptoBulk d + uptoBulkAll r
def uptoBulkEntries {H : Type} : List (Lit × DataW H) → Nat
  | [] => 0
  | x :: r => uptoBulkEntry x + uptoBulkEntries r
def uptoBulkEntry {H : Type} : Lit × DataW H → Nat
  | (.string bytes, d) => bytes.length + uptoBulk d + 1
  | (_, d) => uptoBulk d + 1
 end
def uptoSmall : (H : Type) → List (DataW H) → Bool := fun _ ds => decide (uptoBulkAll ds ≤ 1048576)
def OpenSpec.upto (s : _root_.Go.ChangeSpec) : _root_.Go.OpenSpec := { _root_.Go.OpenSpec.ofChange s with cond := some uptoSmall }

/-- 'hinterlandlaw18.AirValidates', WHERE WHAT IT READS IS OF BULK AT MOST 1048576: true; the input reads as it did. -/
def airValidatesUptoRow : OpenClaim := { program := "ytmbknidfkddpfaa", sum := "b8012df7ae073544242a77b91352e61a82f95e10144d50ddae1c5597a59b6138", func := "hinterland/hinterlandlaw18.AirValidates", spec := "airValidates", unfollowed := true, recurses := true, apart := false, narrowed := true }
def AirValidatesUptoSaid : Prop := airValidatesUptoRow.holds Try.pinned (OpenSpec.upto airValidatesSpec)

/-- 'hinterlandlaw18.AirSkies', WHERE WHAT IT READS IS OF BULK AT MOST 1048576: true; the input reads as it did. -/
def airSkiesUptoRow : OpenClaim := { program := "ytmbknidfkddpfaa", sum := "b8012df7ae073544242a77b91352e61a82f95e10144d50ddae1c5597a59b6138", func := "hinterland/hinterlandlaw18.AirSkies", spec := "airSkies", unfollowed := true, recurses := true, apart := false, narrowed := true }
def AirSkiesUptoSaid : Prop := airSkiesUptoRow.holds Try.pinned (OpenSpec.upto airSkiesSpec)

/-- 'hinterlandlaw18.AirSteps', WHERE WHAT IT READS IS OF BULK AT MOST 1048576: true; the input reads as it did. -/
def airStepsUptoRow : OpenClaim := { program := "ytmbknidfkddpfaa", sum := "b8012df7ae073544242a77b91352e61a82f95e10144d50ddae1c5597a59b6138", func := "hinterland/hinterlandlaw18.AirSteps", spec := "airSteps", unfollowed := true, recurses := true, apart := false, narrowed := true }
def AirStepsUptoSaid : Prop := airStepsUptoRow.holds Try.pinned (OpenSpec.upto airStepsSpec)

/-- 'hinterlandlaw18.AirArrives', WHERE WHAT IT READS IS OF BULK AT MOST 1048576: true; the input reads as it did. -/
def airArrivesUptoRow : OpenClaim := { program := "ytmbknidfkddpfaa", sum := "b8012df7ae073544242a77b91352e61a82f95e10144d50ddae1c5597a59b6138", func := "hinterland/hinterlandlaw18.AirArrives", spec := "airArrives", unfollowed := true, recurses := true, apart := false, narrowed := true }
def AirArrivesUptoSaid : Prop := airArrivesUptoRow.holds Try.pinned (OpenSpec.upto airArrivesSpec)

/-- 'hinterlandlaw18.AirWays', WHERE WHAT IT READS IS OF BULK AT MOST 1048576: true; the input reads as it did. -/
def airWaysUptoRow : OpenClaim := { program := "ytmbknidfkddpfaa", sum := "b8012df7ae073544242a77b91352e61a82f95e10144d50ddae1c5597a59b6138", func := "hinterland/hinterlandlaw18.AirWays", spec := "airWays", unfollowed := true, recurses := true, apart := false, narrowed := true }
def AirWaysUptoSaid : Prop := airWaysUptoRow.holds Try.pinned (OpenSpec.upto airWaysSpec)

/-- 'hinterlandlaw18.AirWaysLeast', WHERE WHAT IT READS IS OF BULK AT MOST 1048576: true; the input reads as it did. -/
def airWaysLeastUptoRow : OpenClaim := { program := "ytmbknidfkddpfaa", sum := "b8012df7ae073544242a77b91352e61a82f95e10144d50ddae1c5597a59b6138", func := "hinterland/hinterlandlaw18.AirWaysLeast", spec := "airWaysLeast", unfollowed := true, recurses := true, apart := false, narrowed := true }
def AirWaysLeastUptoSaid : Prop := airWaysLeastUptoRow.holds Try.pinned (OpenSpec.upto airWaysLeastSpec)

/-- 'hinterlandlaw18.AirComesIn', WHERE WHAT IT READS IS OF BULK AT MOST 1048576: true; the input reads as it did. -/
def airComesInUptoRow : OpenClaim := { program := "ytmbknidfkddpfaa", sum := "b8012df7ae073544242a77b91352e61a82f95e10144d50ddae1c5597a59b6138", func := "hinterland/hinterlandlaw18.AirComesIn", spec := "airComesIn", unfollowed := true, recurses := true, apart := false, narrowed := true }
def AirComesInUptoSaid : Prop := airComesInUptoRow.holds Try.pinned (OpenSpec.upto airComesInSpec)

/-- 'hinterlandlaw18.AirPlans', WHERE WHAT IT READS IS OF BULK AT MOST 1048576: true; the input reads as it did. -/
def airPlansUptoRow : OpenClaim := { program := "ytmbknidfkddpfaa", sum := "b8012df7ae073544242a77b91352e61a82f95e10144d50ddae1c5597a59b6138", func := "hinterland/hinterlandlaw18.AirPlans", spec := "airPlans", unfollowed := true, recurses := true, apart := false, narrowed := true }
def AirPlansUptoSaid : Prop := airPlansUptoRow.holds Try.pinned (OpenSpec.upto airPlansSpec)

/-- 'hinterlandlaw18.AirOpens', WHERE WHAT IT READS IS OF BULK AT MOST 1048576: true; the input reads as it did. -/
def airOpensUptoRow : OpenClaim := { program := "ytmbknidfkddpfaa", sum := "b8012df7ae073544242a77b91352e61a82f95e10144d50ddae1c5597a59b6138", func := "hinterland/hinterlandlaw18.AirOpens", spec := "airOpens", unfollowed := true, recurses := true, apart := false, narrowed := true }
def AirOpensUptoSaid : Prop := airOpensUptoRow.holds Try.pinned (OpenSpec.upto airOpensSpec)

/-- 'hinterlandlaw18.AirKeeps', WHERE WHAT IT READS IS OF BULK AT MOST 1048576: true; the input reads as it did. -/
def airKeepsUptoRow : OpenClaim := { program := "ytmbknidfkddpfaa", sum := "b8012df7ae073544242a77b91352e61a82f95e10144d50ddae1c5597a59b6138", func := "hinterland/hinterlandlaw18.AirKeeps", spec := "airKeeps", unfollowed := true, recurses := true, apart := false, narrowed := true }
def AirKeepsUptoSaid : Prop := airKeepsUptoRow.holds Try.pinned (OpenSpec.upto airKeepsSpec)

end Rows
end Go.Proofs.Ytmbknidfkddpfaa
