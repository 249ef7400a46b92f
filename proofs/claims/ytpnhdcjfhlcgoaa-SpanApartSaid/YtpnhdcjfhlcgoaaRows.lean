/-
  No cell of these rows narrows 'for every input' (looked for: loops, veiled, ifaces, maps, wideKeys, modest, calm, conditions, laid).
  DERIVED. THE GIVEN ROWS OF THIS SEAT. 9 by the template 'for every input the law returns true; each argument reads behind the call as it read before'; 0 by the template 'total and deterministic' (their statements: YtpnhdcjfhlcgoaaTotals.lean).
  GIVEN WITH THE SEED: the statements are not yours to turn. If you find one false, say at which input.
  Laid BY PROGRAM, IN A SANDBOX (cutbox-rows.mjs): the forced cells as the released guide's own fill.sh prints them over the translation 07353081dbbe9f90… (all of the seat's roots in one cut). By AI agents, Wed Nov 11 2026. No macro, syntax, notation, axiom, sorry.
-/
import Derived.Test.YtpnhdcjfhlcgoaaChecked
import GoSem.Claim
import GoSem.ClaimJoined
import GoSem.ClaimMapViews
import Derived.JoinedTies
import Derived.KernelRfl
namespace Go.Proofs.Ytpnhdcjfhlcgoaa
/- THE CELL 'sum', in the pinned program and in every row, IS THE sha256 OF THE DUMP (.gsa) THAT YtpnhdcjfhlcgoaaProg.lean LOADS. Nothing in Lean hashes anything: it is a label: what it is worth is what the hold of that sum in a sandbox is worth. -/
noncomputable def Try.pinned : Pinned := { name := "ytpnhdcjfhlcgoaa", sum := "07353081dbbe9f909e2e5aebedc2c15ef8d7833015e724527b92375573353951", checked := Try.checked }
namespace Rows
def none {H : Type} : Left H := { results := [], args := [] }

/-- 'hinterlandlaw05.SpanValidates': WHATEVER THE INPUT: true; the input reads as it did. -/
def spanValidatesSpec : ChangeSpec := { name := "spanValidates", fn := fun _ => fun
  | [d1, d2] => { results := [.lit (.bool true)], args := [d1, d2] }
  | _ => none }
def spanValidatesRow : OpenClaim := { program := "ytpnhdcjfhlcgoaa", sum := "07353081dbbe9f909e2e5aebedc2c15ef8d7833015e724527b92375573353951", func := "hinterland/hinterlandlaw05.SpanValidates", spec := "spanValidates", unfollowed := true, recurses := true, apart := false }
def SpanValidatesSaid : Prop := spanValidatesRow.holds Try.pinned (OpenSpec.ofChange spanValidatesSpec)

/-- ITS FALSE NEIGHBOUR: 'it returns false'. Refute it at one input. -/
def spanValidatesWrong : ChangeSpec := { name := "spanValidates", fn := fun _ => fun
  | [d1, d2] => { results := [.lit (.bool false)], args := [d1, d2] }
  | _ => none }
def SpanValidatesWrongFalsely : Prop := spanValidatesRow.holds Try.pinned (OpenSpec.ofChange spanValidatesWrong)

/-- 'hinterlandlaw05.SpanCosts': WHATEVER THE INPUT: true; the input reads as it did. -/
def spanCostsSpec : ChangeSpec := { name := "spanCosts", fn := fun _ => fun
  | [d1, d2] => { results := [.lit (.bool true)], args := [d1, d2] }
  | _ => none }
def spanCostsRow : OpenClaim := { program := "ytpnhdcjfhlcgoaa", sum := "07353081dbbe9f909e2e5aebedc2c15ef8d7833015e724527b92375573353951", func := "hinterland/hinterlandlaw05.SpanCosts", spec := "spanCosts", unfollowed := true, recurses := true, apart := false }
def SpanCostsSaid : Prop := spanCostsRow.holds Try.pinned (OpenSpec.ofChange spanCostsSpec)

/-- ITS FALSE NEIGHBOUR: 'it returns false'. Refute it at one input. -/
def spanCostsWrong : ChangeSpec := { name := "spanCosts", fn := fun _ => fun
  | [d1, d2] => { results := [.lit (.bool false)], args := [d1, d2] }
  | _ => none }
def SpanCostsWrongFalsely : Prop := spanCostsRow.holds Try.pinned (OpenSpec.ofChange spanCostsWrong)

/-- 'hinterlandlaw05.SpanCrosses': WHATEVER THE INPUT: true; the input reads as it did. -/
def spanCrossesSpec : ChangeSpec := { name := "spanCrosses", fn := fun _ => fun
  | [d1, d2, d3, d4] => { results := [.lit (.bool true)], args := [d1, d2, d3, d4] }
  | _ => none }
def spanCrossesRow : OpenClaim := { program := "ytpnhdcjfhlcgoaa", sum := "07353081dbbe9f909e2e5aebedc2c15ef8d7833015e724527b92375573353951", func := "hinterland/hinterlandlaw05.SpanCrosses", spec := "spanCrosses", unfollowed := true, recurses := true, apart := false }
def SpanCrossesSaid : Prop := spanCrossesRow.holds Try.pinned (OpenSpec.ofChange spanCrossesSpec)

/-- ITS FALSE NEIGHBOUR: 'it returns false'. Refute it at one input. -/
def spanCrossesWrong : ChangeSpec := { name := "spanCrosses", fn := fun _ => fun
  | [d1, d2, d3, d4] => { results := [.lit (.bool false)], args := [d1, d2, d3, d4] }
  | _ => none }
def SpanCrossesWrongFalsely : Prop := spanCrossesRow.holds Try.pinned (OpenSpec.ofChange spanCrossesWrong)

/-- 'hinterlandlaw05.SpanOvers': WHATEVER THE INPUT: true; the input reads as it did. -/
def spanOversSpec : ChangeSpec := { name := "spanOvers", fn := fun _ => fun
  | [d1, d2, d3] => { results := [.lit (.bool true)], args := [d1, d2, d3] }
  | _ => none }
def spanOversRow : OpenClaim := { program := "ytpnhdcjfhlcgoaa", sum := "07353081dbbe9f909e2e5aebedc2c15ef8d7833015e724527b92375573353951", func := "hinterland/hinterlandlaw05.SpanOvers", spec := "spanOvers", unfollowed := true, recurses := true, apart := false }
def SpanOversSaid : Prop := spanOversRow.holds Try.pinned (OpenSpec.ofChange spanOversSpec)

/-- ITS FALSE NEIGHBOUR: 'it returns false'. Refute it at one input. -/
def spanOversWrong : ChangeSpec := { name := "spanOvers", fn := fun _ => fun
  | [d1, d2, d3] => { results := [.lit (.bool false)], args := [d1, d2, d3] }
  | _ => none }
def SpanOversWrongFalsely : Prop := spanOversRow.holds Try.pinned (OpenSpec.ofChange spanOversWrong)

/-- 'hinterlandlaw05.SpanDrops': WHATEVER THE INPUT: true; the input reads as it did. -/
def spanDropsSpec : ChangeSpec := { name := "spanDrops", fn := fun _ => fun
  | [d1, d2, d3] => { results := [.lit (.bool true)], args := [d1, d2, d3] }
  | _ => none }
def spanDropsRow : OpenClaim := { program := "ytpnhdcjfhlcgoaa", sum := "07353081dbbe9f909e2e5aebedc2c15ef8d7833015e724527b92375573353951", func := "hinterland/hinterlandlaw05.SpanDrops", spec := "spanDrops", unfollowed := true, recurses := true, apart := false }
def SpanDropsSaid : Prop := spanDropsRow.holds Try.pinned (OpenSpec.ofChange spanDropsSpec)

/-- ITS FALSE NEIGHBOUR: 'it returns false'. Refute it at one input. -/
def spanDropsWrong : ChangeSpec := { name := "spanDrops", fn := fun _ => fun
  | [d1, d2, d3] => { results := [.lit (.bool false)], args := [d1, d2, d3] }
  | _ => none }
def SpanDropsWrongFalsely : Prop := spanDropsRow.holds Try.pinned (OpenSpec.ofChange spanDropsWrong)

/-- 'hinterlandlaw05.SpanHolds': WHATEVER THE INPUT: true; the input reads as it did. -/
def spanHoldsSpec : ChangeSpec := { name := "spanHolds", fn := fun _ => fun
  | [d1, d2] => { results := [.lit (.bool true)], args := [d1, d2] }
  | _ => none }
def spanHoldsRow : OpenClaim := { program := "ytpnhdcjfhlcgoaa", sum := "07353081dbbe9f909e2e5aebedc2c15ef8d7833015e724527b92375573353951", func := "hinterland/hinterlandlaw05.SpanHolds", spec := "spanHolds", unfollowed := true, recurses := true, apart := false }
def SpanHoldsSaid : Prop := spanHoldsRow.holds Try.pinned (OpenSpec.ofChange spanHoldsSpec)

/-- ITS FALSE NEIGHBOUR: 'it returns false'. Refute it at one input. -/
def spanHoldsWrong : ChangeSpec := { name := "spanHolds", fn := fun _ => fun
  | [d1, d2] => { results := [.lit (.bool false)], args := [d1, d2] }
  | _ => none }
def SpanHoldsWrongFalsely : Prop := spanHoldsRow.holds Try.pinned (OpenSpec.ofChange spanHoldsWrong)

/-- 'hinterlandlaw05.SpanApart': WHATEVER THE INPUT: true; the input reads as it did. -/
def spanApartSpec : ChangeSpec := { name := "spanApart", fn := fun _ => fun
  | [d1, d2] => { results := [.lit (.bool true)], args := [d1, d2] }
  | _ => none }
def spanApartRow : OpenClaim := { program := "ytpnhdcjfhlcgoaa", sum := "07353081dbbe9f909e2e5aebedc2c15ef8d7833015e724527b92375573353951", func := "hinterland/hinterlandlaw05.SpanApart", spec := "spanApart", unfollowed := true, recurses := true, apart := false }
def SpanApartSaid : Prop := spanApartRow.holds Try.pinned (OpenSpec.ofChange spanApartSpec)

/-- ITS FALSE NEIGHBOUR: 'it returns false'. Refute it at one input. -/
def spanApartWrong : ChangeSpec := { name := "spanApart", fn := fun _ => fun
  | [d1, d2] => { results := [.lit (.bool false)], args := [d1, d2] }
  | _ => none }
def SpanApartWrongFalsely : Prop := spanApartRow.holds Try.pinned (OpenSpec.ofChange spanApartWrong)

/-- 'hinterlandlaw05.SpanThereBack': WHATEVER THE INPUT: true; the input reads as it did. -/
def spanThereBackSpec : ChangeSpec := { name := "spanThereBack", fn := fun _ => fun
  | [d1, d2, d3, d4] => { results := [.lit (.bool true)], args := [d1, d2, d3, d4] }
  | _ => none }
def spanThereBackRow : OpenClaim := { program := "ytpnhdcjfhlcgoaa", sum := "07353081dbbe9f909e2e5aebedc2c15ef8d7833015e724527b92375573353951", func := "hinterland/hinterlandlaw05.SpanThereBack", spec := "spanThereBack", unfollowed := true, recurses := true, apart := false }
def SpanThereBackSaid : Prop := spanThereBackRow.holds Try.pinned (OpenSpec.ofChange spanThereBackSpec)

/-- ITS FALSE NEIGHBOUR: 'it returns false'. Refute it at one input. -/
def spanThereBackWrong : ChangeSpec := { name := "spanThereBack", fn := fun _ => fun
  | [d1, d2, d3, d4] => { results := [.lit (.bool false)], args := [d1, d2, d3, d4] }
  | _ => none }
def SpanThereBackWrongFalsely : Prop := spanThereBackRow.holds Try.pinned (OpenSpec.ofChange spanThereBackWrong)

/-- 'hinterlandlaw05.SpanUndone': WHATEVER THE INPUT: true; the input reads as it did. -/
def spanUndoneSpec : ChangeSpec := { name := "spanUndone", fn := fun _ => fun
  | [d1, d2, d3] => { results := [.lit (.bool true)], args := [d1, d2, d3] }
  | _ => none }
def spanUndoneRow : OpenClaim := { program := "ytpnhdcjfhlcgoaa", sum := "07353081dbbe9f909e2e5aebedc2c15ef8d7833015e724527b92375573353951", func := "hinterland/hinterlandlaw05.SpanUndone", spec := "spanUndone", unfollowed := true, recurses := true, apart := false }
def SpanUndoneSaid : Prop := spanUndoneRow.holds Try.pinned (OpenSpec.ofChange spanUndoneSpec)

/-- ITS FALSE NEIGHBOUR: 'it returns false'. Refute it at one input. -/
def spanUndoneWrong : ChangeSpec := { name := "spanUndone", fn := fun _ => fun
  | [d1, d2, d3] => { results := [.lit (.bool false)], args := [d1, d2, d3] }
  | _ => none }
def SpanUndoneWrongFalsely : Prop := spanUndoneRow.holds Try.pinned (OpenSpec.ofChange spanUndoneWrong)

/- THE SECOND FORM. 'bulk': how many values and letters a reading holds, each counted each time it is reached (what is shared counts as often as it is met; a slice's spare places count too). A statement '..UptoSaid' is the law's where the arguments, and the package variables that the reading takes, are together of bulk at most 1048576: NARROWER than '..Said'. Prove '..Said' where nothing that the law and all that it calls make is longer than what came in: it says more and counts as full. Else prove '..UptoSaid'. A law counts once. -/
mutual
def uptoBulk {H : Type} : DataW H → Nat
  | .lit (.string bytes) => bytes.length + 1
  | .lit _ => 1
  | .nil => 1
  | .ptr d => uptoBulk d + 1
  | .slice elems spare => uptoBulkAll elems + uptoBulkAll spare + 1
  | .agg parts => uptoBulkAll parts + 1
  | .iface _ d => uptoBulk d + 1
  | .map entries => uptoBulkEntries entries + 1
  | .held _ => 1
def uptoBulkAll {H : Type} : List (DataW H) → Nat
  | [] => 0
  | d :: r => uptoBulk d + uptoBulkAll r
def uptoBulkEntries {H : Type} : List (Lit × DataW H) → Nat
  | [] => 0
  | x :: r => uptoBulkEntry x + uptoBulkEntries r
def uptoBulkEntry {H : Type} : Lit × DataW H → Nat
  | (.string bytes, d) => bytes.length + uptoBulk d + 1
  | (_, d) => uptoBulk d + 1
 end
def uptoSmall : (H : Type) → List (DataW H) → Bool := fun _ ds => decide (uptoBulkAll ds ≤ 1048576)
def OpenSpec.upto (s : _root_.Go.ChangeSpec) : _root_.Go.OpenSpec := { _root_.Go.OpenSpec.ofChange s with cond := some uptoSmall }

/-- 'hinterlandlaw05.SpanValidates', WHERE WHAT IT READS IS OF BULK AT MOST 1048576: true; the input reads as it did. -/
def spanValidatesUptoRow : OpenClaim := { program := "ytpnhdcjfhlcgoaa", sum := "07353081dbbe9f909e2e5aebedc2c15ef8d7833015e724527b92375573353951", func := "hinterland/hinterlandlaw05.SpanValidates", spec := "spanValidates", unfollowed := true, recurses := true, apart := false, narrowed := true }
def SpanValidatesUptoSaid : Prop := spanValidatesUptoRow.holds Try.pinned (OpenSpec.upto spanValidatesSpec)

/-- 'hinterlandlaw05.SpanCosts', WHERE WHAT IT READS IS OF BULK AT MOST 1048576: true; the input reads as it did. -/
def spanCostsUptoRow : OpenClaim := { program := "ytpnhdcjfhlcgoaa", sum := "07353081dbbe9f909e2e5aebedc2c15ef8d7833015e724527b92375573353951", func := "hinterland/hinterlandlaw05.SpanCosts", spec := "spanCosts", unfollowed := true, recurses := true, apart := false, narrowed := true }
def SpanCostsUptoSaid : Prop := spanCostsUptoRow.holds Try.pinned (OpenSpec.upto spanCostsSpec)

/-- 'hinterlandlaw05.SpanCrosses', WHERE WHAT IT READS IS OF BULK AT MOST 1048576: true; the input reads as it did. -/
def spanCrossesUptoRow : OpenClaim := { program := "ytpnhdcjfhlcgoaa", sum := "07353081dbbe9f909e2e5aebedc2c15ef8d7833015e724527b92375573353951", func := "hinterland/hinterlandlaw05.SpanCrosses", spec := "spanCrosses", unfollowed := true, recurses := true, apart := false, narrowed := true }
def SpanCrossesUptoSaid : Prop := spanCrossesUptoRow.holds Try.pinned (OpenSpec.upto spanCrossesSpec)

/-- 'hinterlandlaw05.SpanOvers', WHERE WHAT IT READS IS OF BULK AT MOST 1048576: true; the input reads as it did. -/
def spanOversUptoRow : OpenClaim := { program := "ytpnhdcjfhlcgoaa", sum := "07353081dbbe9f909e2e5aebedc2c15ef8d7833015e724527b92375573353951", func := "hinterland/hinterlandlaw05.SpanOvers", spec := "spanOvers", unfollowed := true, recurses := true, apart := false, narrowed := true }
def SpanOversUptoSaid : Prop := spanOversUptoRow.holds Try.pinned (OpenSpec.upto spanOversSpec)

/-- 'hinterlandlaw05.SpanDrops', WHERE WHAT IT READS IS OF BULK AT MOST 1048576: true; the input reads as it did. -/
def spanDropsUptoRow : OpenClaim := { program := "ytpnhdcjfhlcgoaa", sum := "07353081dbbe9f909e2e5aebedc2c15ef8d7833015e724527b92375573353951", func := "hinterland/hinterlandlaw05.SpanDrops", spec := "spanDrops", unfollowed := true, recurses := true, apart := false, narrowed := true }
def SpanDropsUptoSaid : Prop := spanDropsUptoRow.holds Try.pinned (OpenSpec.upto spanDropsSpec)

/-- 'hinterlandlaw05.SpanHolds', WHERE WHAT IT READS IS OF BULK AT MOST 1048576: true; the input reads as it did. -/
def spanHoldsUptoRow : OpenClaim := { program := "ytpnhdcjfhlcgoaa", sum := "07353081dbbe9f909e2e5aebedc2c15ef8d7833015e724527b92375573353951", func := "hinterland/hinterlandlaw05.SpanHolds", spec := "spanHolds", unfollowed := true, recurses := true, apart := false, narrowed := true }
def SpanHoldsUptoSaid : Prop := spanHoldsUptoRow.holds Try.pinned (OpenSpec.upto spanHoldsSpec)

/-- 'hinterlandlaw05.SpanApart', WHERE WHAT IT READS IS OF BULK AT MOST 1048576: true; the input reads as it did. -/
def spanApartUptoRow : OpenClaim := { program := "ytpnhdcjfhlcgoaa", sum := "07353081dbbe9f909e2e5aebedc2c15ef8d7833015e724527b92375573353951", func := "hinterland/hinterlandlaw05.SpanApart", spec := "spanApart", unfollowed := true, recurses := true, apart := false, narrowed := true }
def SpanApartUptoSaid : Prop := spanApartUptoRow.holds Try.pinned (OpenSpec.upto spanApartSpec)

/-- 'hinterlandlaw05.SpanThereBack', WHERE WHAT IT READS IS OF BULK AT MOST 1048576: true; the input reads as it did. -/
def spanThereBackUptoRow : OpenClaim := { program := "ytpnhdcjfhlcgoaa", sum := "07353081dbbe9f909e2e5aebedc2c15ef8d7833015e724527b92375573353951", func := "hinterland/hinterlandlaw05.SpanThereBack", spec := "spanThereBack", unfollowed := true, recurses := true, apart := false, narrowed := true }
def SpanThereBackUptoSaid : Prop := spanThereBackUptoRow.holds Try.pinned (OpenSpec.upto spanThereBackSpec)

/-- 'hinterlandlaw05.SpanUndone', WHERE WHAT IT READS IS OF BULK AT MOST 1048576: true; the input reads as it did. -/
def spanUndoneUptoRow : OpenClaim := { program := "ytpnhdcjfhlcgoaa", sum := "07353081dbbe9f909e2e5aebedc2c15ef8d7833015e724527b92375573353951", func := "hinterland/hinterlandlaw05.SpanUndone", spec := "spanUndone", unfollowed := true, recurses := true, apart := false, narrowed := true }
def SpanUndoneUptoSaid : Prop := spanUndoneUptoRow.holds Try.pinned (OpenSpec.upto spanUndoneSpec)

end Rows
end Go.Proofs.Ytpnhdcjfhlcgoaa
