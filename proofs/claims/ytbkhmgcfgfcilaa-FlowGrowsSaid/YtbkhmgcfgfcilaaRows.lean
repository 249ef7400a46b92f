/-
  No cell of these rows narrows 'for every input' (looked for: loops, veiled, ifaces, maps, wideKeys, modest, calm, conditions, laid).
  DERIVED. THE GIVEN ROWS OF THIS SEAT. 4 by the template 'for every input the law returns true; each argument reads behind the call as it read before'; 0 by the template 'total and deterministic' (their statements: YtbkhmgcfgfcilaaTotals.lean).
  GIVEN WITH THE SEED: the statements are not yours to turn. If you find one false, say at which input.
  Laid BY PROGRAM, IN A SANDBOX (cutbox-rows.mjs): the forced cells as the released guide's own fill.sh prints them over the translation 7494cb147d872d78… (all of the seat's roots in one cut). By AI agents, Wed Nov 11 2026. No macro, syntax, notation, axiom, sorry.
-/
import Derived.Test.YtbkhmgcfgfcilaaChecked
import GoSem.Claim
import GoSem.ClaimJoined
import GoSem.ClaimMapViews
import Derived.JoinedTies
import Derived.KernelRfl
namespace Go.Proofs.Ytbkhmgcfgfcilaa
/- THE CELL 'sum', in the pinned program and in every row, IS THE sha256 OF THE DUMP (.gsa) THAT YtbkhmgcfgfcilaaProg.lean LOADS. Nothing in Lean hashes anything: it is a label: what it is worth is what the hold of that sum in a sandbox is worth. -/
noncomputable def Try.pinned : Pinned := { name := "ytbkhmgcfgfcilaa", sum := "7494cb147d872d78893a86f07e61f48e343f99469699cdcbf6d25912b55922f7", checked := Try.checked }
namespace Rows
def none {H : Type} : Left H := { results := [], args := [] }

/-- 'hinterlandlaw13.FlowDemands': WHATEVER THE INPUT: true; the input reads as it did. -/
def flowDemandsSpec : ChangeSpec := { name := "flowDemands", fn := fun _ => fun
  | [d] => { results := [.lit (.bool true)], args := [d] }
  | _ => none }
def flowDemandsRow : OpenClaim := { program := "ytbkhmgcfgfcilaa", sum := "7494cb147d872d78893a86f07e61f48e343f99469699cdcbf6d25912b55922f7", func := "hinterland/hinterlandlaw13.FlowDemands", spec := "flowDemands", unfollowed := true, recurses := true, apart := false }
def FlowDemandsSaid : Prop := flowDemandsRow.holds Try.pinned (OpenSpec.ofChange flowDemandsSpec)

/-- ITS FALSE NEIGHBOUR: 'it returns false'. Refute it at one input. -/
def flowDemandsWrong : ChangeSpec := { name := "flowDemands", fn := fun _ => fun
  | [d] => { results := [.lit (.bool false)], args := [d] }
  | _ => none }
def FlowDemandsWrongFalsely : Prop := flowDemandsRow.holds Try.pinned (OpenSpec.ofChange flowDemandsWrong)

/-- 'hinterlandlaw13.FlowFades': WHATEVER THE INPUT: true; the input reads as it did. -/
def flowFadesSpec : ChangeSpec := { name := "flowFades", fn := fun _ => fun
  | [d1, d2, d3] => { results := [.lit (.bool true)], args := [d1, d2, d3] }
  | _ => none }
def flowFadesRow : OpenClaim := { program := "ytbkhmgcfgfcilaa", sum := "7494cb147d872d78893a86f07e61f48e343f99469699cdcbf6d25912b55922f7", func := "hinterland/hinterlandlaw13.FlowFades", spec := "flowFades", unfollowed := true, recurses := true, apart := false }
def FlowFadesSaid : Prop := flowFadesRow.holds Try.pinned (OpenSpec.ofChange flowFadesSpec)

/-- ITS FALSE NEIGHBOUR: 'it returns false'. Refute it at one input. -/
def flowFadesWrong : ChangeSpec := { name := "flowFades", fn := fun _ => fun
  | [d1, d2, d3] => { results := [.lit (.bool false)], args := [d1, d2, d3] }
  | _ => none }
def FlowFadesWrongFalsely : Prop := flowFadesRow.holds Try.pinned (OpenSpec.ofChange flowFadesWrong)

/-- 'hinterlandlaw13.FlowGrows': WHATEVER THE INPUT: true; the input reads as it did. -/
def flowGrowsSpec : ChangeSpec := { name := "flowGrows", fn := fun _ => fun
  | [d1, d2, d3, d4, d5] => { results := [.lit (.bool true)], args := [d1, d2, d3, d4, d5] }
  | _ => none }
def flowGrowsRow : OpenClaim := { program := "ytbkhmgcfgfcilaa", sum := "7494cb147d872d78893a86f07e61f48e343f99469699cdcbf6d25912b55922f7", func := "hinterland/hinterlandlaw13.FlowGrows", spec := "flowGrows", inPlace := ["slices.overlaps[hinterland/api.Link]"], unfollowed := true, recurses := true, apart := false }
def FlowGrowsSaid : Prop := flowGrowsRow.holds Try.pinned (OpenSpec.ofChange flowGrowsSpec)

/-- ITS FALSE NEIGHBOUR: 'it returns false'. Refute it at one input. -/
def flowGrowsWrong : ChangeSpec := { name := "flowGrows", fn := fun _ => fun
  | [d1, d2, d3, d4, d5] => { results := [.lit (.bool false)], args := [d1, d2, d3, d4, d5] }
  | _ => none }
def FlowGrowsWrongFalsely : Prop := flowGrowsRow.holds Try.pinned (OpenSpec.ofChange flowGrowsWrong)

/-- 'hinterlandlaw13.FlowOrder': WHATEVER THE INPUT: true; the input reads as it did. -/
def flowOrderSpec : ChangeSpec := { name := "flowOrder", fn := fun _ => fun
  | [d1, d2, d3, d4] => { results := [.lit (.bool true)], args := [d1, d2, d3, d4] }
  | _ => none }
def flowOrderRow : OpenClaim := { program := "ytbkhmgcfgfcilaa", sum := "7494cb147d872d78893a86f07e61f48e343f99469699cdcbf6d25912b55922f7", func := "hinterland/hinterlandlaw13.FlowOrder", spec := "flowOrder", inPlace := ["slices.overlaps[hinterland/api.Link]"], unfollowed := true, recurses := true, apart := false }
def FlowOrderSaid : Prop := flowOrderRow.holds Try.pinned (OpenSpec.ofChange flowOrderSpec)

/-- ITS FALSE NEIGHBOUR: 'it returns false'. Refute it at one input. -/
def flowOrderWrong : ChangeSpec := { name := "flowOrder", fn := fun _ => fun
  | [d1, d2, d3, d4] => { results := [.lit (.bool false)], args := [d1, d2, d3, d4] }
  | _ => none }
def FlowOrderWrongFalsely : Prop := flowOrderRow.holds Try.pinned (OpenSpec.ofChange flowOrderWrong)

/- THE SECOND FORM. 'bulk': how many values and letters a reading holds, each counted each time it is reached (what is shared counts as often as it is met; a slice's spare places count too). A statement '..UptoSaid' is the law's where the arguments, and the package variables that the reading takes, are together of bulk at most 1048576: NARROWER than '..Said'. Prove '..Said' where nothing that the law and all that it calls make is longer than what came in: it says more and counts as full. Else prove '..UptoSaid'. A law counts once. -/
mutual
def uptoBulk {H : Type} : DataW H → Nat
  | .lit (.string bytes) => bytes.length + 1
  | .lit _ => 1
  | .nil => 1
  | .ptr d => uptoBulk d + 1
  | .slice elems spare => uptoBulkAll elems + uptoBulkAll spare + 1
  | .agg parts => uptoBulkAll parts + 1
  | .iface _ d => uptoBulk d + 1
  | .map entries => uptoBulkEntries entries + 1
  | .held _ => 1
def uptoBulkAll {H : Type} : List (DataW H) → Nat
  | [] => 0
  | d :: r => uptoBulk d + uptoBulkAll r
def uptoBulkEntries {H : Type} : List (Lit × DataW H) → Nat
  | [] => 0
  | x :: r => uptoBulkEntry x + uptoBulkEntries r
def uptoBulkEntry {H : Type} : Lit × DataW H → Nat
  | (.string bytes, d) => bytes.length + uptoBulk d + 1
  | (_, d) => uptoBulk d + 1
 end
def uptoSmall : (H : Type) → List (DataW H) → Bool := fun _ ds => decide (uptoBulkAll ds ≤ 1048576)
def OpenSpec.upto (s : _root_.Go.ChangeSpec) : _root_.Go.OpenSpec := { _root_.Go.OpenSpec.ofChange s with cond := some uptoSmall }

/-- 'hinterlandlaw13.FlowDemands', WHERE WHAT IT READS IS OF BULK AT MOST 1048576: true; the input reads as it did. -/
def flowDemandsUptoRow : OpenClaim := { program := "ytbkhmgcfgfcilaa", sum := "7494cb147d872d78893a86f07e61f48e343f99469699cdcbf6d25912b55922f7", func := "hinterland/hinterlandlaw13.FlowDemands", spec := "flowDemands", unfollowed := true, recurses := true, apart := false, narrowed := true }
def FlowDemandsUptoSaid : Prop := flowDemandsUptoRow.holds Try.pinned (OpenSpec.upto flowDemandsSpec)

/-- 'hinterlandlaw13.FlowFades', WHERE WHAT IT READS IS OF BULK AT MOST 1048576: true; the input reads as it did. -/
def flowFadesUptoRow : OpenClaim := { program := "ytbkhmgcfgfcilaa", sum := "7494cb147d872d78893a86f07e61f48e343f99469699cdcbf6d25912b55922f7", func := "hinterland/hinterlandlaw13.FlowFades", spec := "flowFades", unfollowed := true, recurses := true, apart := false, narrowed := true }
def FlowFadesUptoSaid : Prop := flowFadesUptoRow.holds Try.pinned (OpenSpec.upto flowFadesSpec)

/-- 'hinterlandlaw13.FlowGrows', WHERE WHAT IT READS IS OF BULK AT MOST 1048576: true; the input reads as it did. -/
def flowGrowsUptoRow : OpenClaim := { program := "ytbkhmgcfgfcilaa", sum := "7494cb147d872d78893a86f07e61f48e343f99469699cdcbf6d25912b55922f7", func := "hinterland/hinterlandlaw13.FlowGrows", spec := "flowGrows", inPlace := ["slices.overlaps[hinterland/api.Link]"], unfollowed := true, recurses := true, apart := false, narrowed := true }
def FlowGrowsUptoSaid : Prop := flowGrowsUptoRow.holds Try.pinned (OpenSpec.upto flowGrowsSpec)

/-- 'hinterlandlaw13.FlowOrder', WHERE WHAT IT READS IS OF BULK AT MOST 1048576: true; the input reads as it did. -/
def flowOrderUptoRow : OpenClaim := { program := "ytbkhmgcfgfcilaa", sum := "7494cb147d872d78893a86f07e61f48e343f99469699cdcbf6d25912b55922f7", func := "hinterland/hinterlandlaw13.FlowOrder", spec := "flowOrder", inPlace := ["slices.overlaps[hinterland/api.Link]"], unfollowed := true, recurses := true, apart := false, narrowed := true }
def FlowOrderUptoSaid : Prop := flowOrderUptoRow.holds Try.pinned (OpenSpec.upto flowOrderSpec)

end Rows
end Go.Proofs.Ytbkhmgcfgfcilaa
