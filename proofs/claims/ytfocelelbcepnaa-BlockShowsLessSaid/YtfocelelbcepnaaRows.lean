/-
  No cell of these rows narrows 'for every input' (looked for: loops, veiled, ifaces, maps, wideKeys, modest, calm, conditions, laid).
  DERIVED. THE GIVEN ROWS OF THIS SEAT. 13 by the template 'for every input the law returns true; each argument reads behind the call as it read before'; 0 by the template 'total and deterministic' (their statements: YtfocelelbcepnaaTotals.lean).
  GIVEN WITH THE SEED: the statements are not yours to turn. If you find one false, say at which input.
  Laid BY PROGRAM, IN A SANDBOX (cutbox-rows.mjs): the forced cells as the released guide's own fill.sh prints them over the translation fb2455a1fed627a8… (all of the seat's roots in one cut). By AI agents, Wed Nov 11 2026. No macro, syntax, notation, axiom, sorry.
-/
import Derived.Test.YtfocelelbcepnaaChecked
import GoSem.Claim
import GoSem.ClaimJoined
import GoSem.ClaimMapViews
import Derived.JoinedTies
import Derived.KernelRfl
namespace Go.Proofs.Ytfocelelbcepnaa
/- THE CELL 'sum', in the pinned program and in every row, IS THE sha256 OF THE DUMP (.gsa) THAT YtfocelelbcepnaaProg.lean LOADS. Nothing in Lean hashes anything: it is a label: what it is worth is what the hold of that sum in a sandbox is worth. -/
noncomputable def Try.pinned : Pinned := { name := "ytfocelelbcepnaa", sum := "fb2455a1fed627a8c3e790bac38f6b19f20ebf0308d3f7e53f9ed9257b97e309", checked := Try.checked }
namespace Rows
def none {H : Type} : Left H := { results := [], args := [] }

/-- 'hinterlandlaw07.BlockValidates': WHATEVER THE INPUT: true; the input reads as it did. -/
def blockValidatesSpec : ChangeSpec := { name := "blockValidates", fn := fun _ => fun
  | [d1, d2] => { results := [.lit (.bool true)], args := [d1, d2] }
  | _ => none }
def blockValidatesRow : OpenClaim := { program := "ytfocelelbcepnaa", sum := "fb2455a1fed627a8c3e790bac38f6b19f20ebf0308d3f7e53f9ed9257b97e309", func := "hinterland/hinterlandlaw07.BlockValidates", spec := "blockValidates", unfollowed := true, recurses := true, apart := false }
def BlockValidatesSaid : Prop := blockValidatesRow.holds Try.pinned (OpenSpec.ofChange blockValidatesSpec)

/-- ITS FALSE NEIGHBOUR: 'it returns false'. Refute it at one input. -/
def blockValidatesWrong : ChangeSpec := { name := "blockValidates", fn := fun _ => fun
  | [d1, d2] => { results := [.lit (.bool false)], args := [d1, d2] }
  | _ => none }
def BlockValidatesWrongFalsely : Prop := blockValidatesRow.holds Try.pinned (OpenSpec.ofChange blockValidatesWrong)

/-- 'hinterlandlaw07.BlockParts': WHATEVER THE INPUT: true; the input reads as it did. -/
def blockPartsSpec : ChangeSpec := { name := "blockParts", fn := fun _ => fun
  | [d1, d2] => { results := [.lit (.bool true)], args := [d1, d2] }
  | _ => none }
def blockPartsRow : OpenClaim := { program := "ytfocelelbcepnaa", sum := "fb2455a1fed627a8c3e790bac38f6b19f20ebf0308d3f7e53f9ed9257b97e309", func := "hinterland/hinterlandlaw07.BlockParts", spec := "blockParts", unfollowed := true, recurses := true, apart := false }
def BlockPartsSaid : Prop := blockPartsRow.holds Try.pinned (OpenSpec.ofChange blockPartsSpec)

/-- ITS FALSE NEIGHBOUR: 'it returns false'. Refute it at one input. -/
def blockPartsWrong : ChangeSpec := { name := "blockParts", fn := fun _ => fun
  | [d1, d2] => { results := [.lit (.bool false)], args := [d1, d2] }
  | _ => none }
def BlockPartsWrongFalsely : Prop := blockPartsRow.holds Try.pinned (OpenSpec.ofChange blockPartsWrong)

/-- 'hinterlandlaw07.BlockOf': WHATEVER THE INPUT: true; the input reads as it did. -/
def blockOfSpec : ChangeSpec := { name := "blockOf", fn := fun _ => fun
  | [d1, d2, d3, d4] => { results := [.lit (.bool true)], args := [d1, d2, d3, d4] }
  | _ => none }
def blockOfRow : OpenClaim := { program := "ytfocelelbcepnaa", sum := "fb2455a1fed627a8c3e790bac38f6b19f20ebf0308d3f7e53f9ed9257b97e309", func := "hinterland/hinterlandlaw07.BlockOf", spec := "blockOf", unfollowed := true, recurses := true, apart := false }
def BlockOfSaid : Prop := blockOfRow.holds Try.pinned (OpenSpec.ofChange blockOfSpec)

/-- ITS FALSE NEIGHBOUR: 'it returns false'. Refute it at one input. -/
def blockOfWrong : ChangeSpec := { name := "blockOf", fn := fun _ => fun
  | [d1, d2, d3, d4] => { results := [.lit (.bool false)], args := [d1, d2, d3, d4] }
  | _ => none }
def BlockOfWrongFalsely : Prop := blockOfRow.holds Try.pinned (OpenSpec.ofChange blockOfWrong)

/-- 'hinterlandlaw07.BlockWhole': WHATEVER THE INPUT: true; the input reads as it did. -/
def blockWholeSpec : ChangeSpec := { name := "blockWhole", fn := fun _ => fun
  | [d1, d2] => { results := [.lit (.bool true)], args := [d1, d2] }
  | _ => none }
def blockWholeRow : OpenClaim := { program := "ytfocelelbcepnaa", sum := "fb2455a1fed627a8c3e790bac38f6b19f20ebf0308d3f7e53f9ed9257b97e309", func := "hinterland/hinterlandlaw07.BlockWhole", spec := "blockWhole", unfollowed := true, recurses := true, apart := false }
def BlockWholeSaid : Prop := blockWholeRow.holds Try.pinned (OpenSpec.ofChange blockWholeSpec)

/-- ITS FALSE NEIGHBOUR: 'it returns false'. Refute it at one input. -/
def blockWholeWrong : ChangeSpec := { name := "blockWhole", fn := fun _ => fun
  | [d1, d2] => { results := [.lit (.bool false)], args := [d1, d2] }
  | _ => none }
def BlockWholeWrongFalsely : Prop := blockWholeRow.holds Try.pinned (OpenSpec.ofChange blockWholeWrong)

/-- 'hinterlandlaw07.BlockTakes': WHATEVER THE INPUT: true; the input reads as it did. -/
def blockTakesSpec : ChangeSpec := { name := "blockTakes", fn := fun _ => fun
  | [d1, d2, d3, d4, d5] => { results := [.lit (.bool true)], args := [d1, d2, d3, d4, d5] }
  | _ => none }
def blockTakesRow : OpenClaim := { program := "ytfocelelbcepnaa", sum := "fb2455a1fed627a8c3e790bac38f6b19f20ebf0308d3f7e53f9ed9257b97e309", func := "hinterland/hinterlandlaw07.BlockTakes", spec := "blockTakes", unfollowed := true, recurses := true, apart := false }
def BlockTakesSaid : Prop := blockTakesRow.holds Try.pinned (OpenSpec.ofChange blockTakesSpec)

/-- ITS FALSE NEIGHBOUR: 'it returns false'. Refute it at one input. -/
def blockTakesWrong : ChangeSpec := { name := "blockTakes", fn := fun _ => fun
  | [d1, d2, d3, d4, d5] => { results := [.lit (.bool false)], args := [d1, d2, d3, d4, d5] }
  | _ => none }
def BlockTakesWrongFalsely : Prop := blockTakesRow.holds Try.pinned (OpenSpec.ofChange blockTakesWrong)

/-- 'hinterlandlaw07.BlockMays': WHATEVER THE INPUT: true; the input reads as it did. -/
def blockMaysSpec : ChangeSpec := { name := "blockMays", fn := fun _ => fun
  | [d1, d2, d3, d4] => { results := [.lit (.bool true)], args := [d1, d2, d3, d4] }
  | _ => none }
def blockMaysRow : OpenClaim := { program := "ytfocelelbcepnaa", sum := "fb2455a1fed627a8c3e790bac38f6b19f20ebf0308d3f7e53f9ed9257b97e309", func := "hinterland/hinterlandlaw07.BlockMays", spec := "blockMays", unfollowed := true, recurses := true, apart := false }
def BlockMaysSaid : Prop := blockMaysRow.holds Try.pinned (OpenSpec.ofChange blockMaysSpec)

/-- ITS FALSE NEIGHBOUR: 'it returns false'. Refute it at one input. -/
def blockMaysWrong : ChangeSpec := { name := "blockMays", fn := fun _ => fun
  | [d1, d2, d3, d4] => { results := [.lit (.bool false)], args := [d1, d2, d3, d4] }
  | _ => none }
def BlockMaysWrongFalsely : Prop := blockMaysRow.holds Try.pinned (OpenSpec.ofChange blockMaysWrong)

/-- 'hinterlandlaw07.BlockPuts': WHATEVER THE INPUT: true; the input reads as it did. -/
def blockPutsSpec : ChangeSpec := { name := "blockPuts", fn := fun _ => fun
  | [d1, d2, d3] => { results := [.lit (.bool true)], args := [d1, d2, d3] }
  | _ => none }
def blockPutsRow : OpenClaim := { program := "ytfocelelbcepnaa", sum := "fb2455a1fed627a8c3e790bac38f6b19f20ebf0308d3f7e53f9ed9257b97e309", func := "hinterland/hinterlandlaw07.BlockPuts", spec := "blockPuts", inPlace := ["slices.overlaps[hinterland/api.Signal]"], unfollowed := true, recurses := true, apart := false }
def BlockPutsSaid : Prop := blockPutsRow.holds Try.pinned (OpenSpec.ofChange blockPutsSpec)

/-- ITS FALSE NEIGHBOUR: 'it returns false'. Refute it at one input. -/
def blockPutsWrong : ChangeSpec := { name := "blockPuts", fn := fun _ => fun
  | [d1, d2, d3] => { results := [.lit (.bool false)], args := [d1, d2, d3] }
  | _ => none }
def BlockPutsWrongFalsely : Prop := blockPutsRow.holds Try.pinned (OpenSpec.ofChange blockPutsWrong)

/-- 'hinterlandlaw07.BlockSplits': WHATEVER THE INPUT: true; the input reads as it did. -/
def blockSplitsSpec : ChangeSpec := { name := "blockSplits", fn := fun _ => fun
  | [d1, d2, d3] => { results := [.lit (.bool true)], args := [d1, d2, d3] }
  | _ => none }
def blockSplitsRow : OpenClaim := { program := "ytfocelelbcepnaa", sum := "fb2455a1fed627a8c3e790bac38f6b19f20ebf0308d3f7e53f9ed9257b97e309", func := "hinterland/hinterlandlaw07.BlockSplits", spec := "blockSplits", inPlace := ["slices.overlaps[hinterland/api.Signal]"], unfollowed := true, recurses := true, apart := false }
def BlockSplitsSaid : Prop := blockSplitsRow.holds Try.pinned (OpenSpec.ofChange blockSplitsSpec)

/-- ITS FALSE NEIGHBOUR: 'it returns false'. Refute it at one input. -/
def blockSplitsWrong : ChangeSpec := { name := "blockSplits", fn := fun _ => fun
  | [d1, d2, d3] => { results := [.lit (.bool false)], args := [d1, d2, d3] }
  | _ => none }
def BlockSplitsWrongFalsely : Prop := blockSplitsRow.holds Try.pinned (OpenSpec.ofChange blockSplitsWrong)

/-- 'hinterlandlaw07.BlockNil': WHATEVER THE INPUT: true; the input reads as it did. -/
def blockNilSpec : ChangeSpec := { name := "blockNil", fn := fun _ => fun
  | [d1, d2, d3, d4] => { results := [.lit (.bool true)], args := [d1, d2, d3, d4] }
  | _ => none }
def blockNilRow : OpenClaim := { program := "ytfocelelbcepnaa", sum := "fb2455a1fed627a8c3e790bac38f6b19f20ebf0308d3f7e53f9ed9257b97e309", func := "hinterland/hinterlandlaw07.BlockNil", spec := "blockNil", inPlace := ["slices.overlaps[hinterland/api.Signal]"], unfollowed := true, recurses := true, apart := false }
def BlockNilSaid : Prop := blockNilRow.holds Try.pinned (OpenSpec.ofChange blockNilSpec)

/-- ITS FALSE NEIGHBOUR: 'it returns false'. Refute it at one input. -/
def blockNilWrong : ChangeSpec := { name := "blockNil", fn := fun _ => fun
  | [d1, d2, d3, d4] => { results := [.lit (.bool false)], args := [d1, d2, d3, d4] }
  | _ => none }
def BlockNilWrongFalsely : Prop := blockNilRow.holds Try.pinned (OpenSpec.ofChange blockNilWrong)

/-- 'hinterlandlaw07.BlockMap': WHATEVER THE INPUT: true; the input reads as it did. -/
def blockMapSpec : ChangeSpec := { name := "blockMap", fn := fun _ => fun
  | [d1, d2, d3] => { results := [.lit (.bool true)], args := [d1, d2, d3] }
  | _ => none }
def blockMapRow : OpenClaim := { program := "ytfocelelbcepnaa", sum := "fb2455a1fed627a8c3e790bac38f6b19f20ebf0308d3f7e53f9ed9257b97e309", func := "hinterland/hinterlandlaw07.BlockMap", spec := "blockMap", inPlace := ["slices.overlaps[hinterland/api.Signal]"], unfollowed := true, recurses := true, apart := false }
def BlockMapSaid : Prop := blockMapRow.holds Try.pinned (OpenSpec.ofChange blockMapSpec)

/-- ITS FALSE NEIGHBOUR: 'it returns false'. Refute it at one input. -/
def blockMapWrong : ChangeSpec := { name := "blockMap", fn := fun _ => fun
  | [d1, d2, d3] => { results := [.lit (.bool false)], args := [d1, d2, d3] }
  | _ => none }
def BlockMapWrongFalsely : Prop := blockMapRow.holds Try.pinned (OpenSpec.ofChange blockMapWrong)

/-- 'hinterlandlaw07.BlockBeyond': WHATEVER THE INPUT: true; the input reads as it did. -/
def blockBeyondSpec : ChangeSpec := { name := "blockBeyond", fn := fun _ => fun
  | [d1, d2, d3] => { results := [.lit (.bool true)], args := [d1, d2, d3] }
  | _ => none }
def blockBeyondRow : OpenClaim := { program := "ytfocelelbcepnaa", sum := "fb2455a1fed627a8c3e790bac38f6b19f20ebf0308d3f7e53f9ed9257b97e309", func := "hinterland/hinterlandlaw07.BlockBeyond", spec := "blockBeyond", unfollowed := true, recurses := true, apart := false }
def BlockBeyondSaid : Prop := blockBeyondRow.holds Try.pinned (OpenSpec.ofChange blockBeyondSpec)

/-- ITS FALSE NEIGHBOUR: 'it returns false'. Refute it at one input. -/
def blockBeyondWrong : ChangeSpec := { name := "blockBeyond", fn := fun _ => fun
  | [d1, d2, d3] => { results := [.lit (.bool false)], args := [d1, d2, d3] }
  | _ => none }
def BlockBeyondWrongFalsely : Prop := blockBeyondRow.holds Try.pinned (OpenSpec.ofChange blockBeyondWrong)

/-- 'hinterlandlaw07.BlockShows': WHATEVER THE INPUT: true; the input reads as it did. -/
def blockShowsSpec : ChangeSpec := { name := "blockShows", fn := fun _ => fun
  | [d1, d2, d3] => { results := [.lit (.bool true)], args := [d1, d2, d3] }
  | _ => none }
def blockShowsRow : OpenClaim := { program := "ytfocelelbcepnaa", sum := "fb2455a1fed627a8c3e790bac38f6b19f20ebf0308d3f7e53f9ed9257b97e309", func := "hinterland/hinterlandlaw07.BlockShows", spec := "blockShows", unfollowed := true, recurses := true, apart := false }
def BlockShowsSaid : Prop := blockShowsRow.holds Try.pinned (OpenSpec.ofChange blockShowsSpec)

/-- ITS FALSE NEIGHBOUR: 'it returns false'. Refute it at one input. -/
def blockShowsWrong : ChangeSpec := { name := "blockShows", fn := fun _ => fun
  | [d1, d2, d3] => { results := [.lit (.bool false)], args := [d1, d2, d3] }
  | _ => none }
def BlockShowsWrongFalsely : Prop := blockShowsRow.holds Try.pinned (OpenSpec.ofChange blockShowsWrong)

/-- 'hinterlandlaw07.BlockShowsLess': WHATEVER THE INPUT: true; the input reads as it did. -/
def blockShowsLessSpec : ChangeSpec := { name := "blockShowsLess", fn := fun _ => fun
  | [d1, d2, d3, d4] => { results := [.lit (.bool true)], args := [d1, d2, d3, d4] }
  | _ => none }
def blockShowsLessRow : OpenClaim := { program := "ytfocelelbcepnaa", sum := "fb2455a1fed627a8c3e790bac38f6b19f20ebf0308d3f7e53f9ed9257b97e309", func := "hinterland/hinterlandlaw07.BlockShowsLess", spec := "blockShowsLess", unfollowed := true, recurses := true, apart := false }
def BlockShowsLessSaid : Prop := blockShowsLessRow.holds Try.pinned (OpenSpec.ofChange blockShowsLessSpec)

/-- ITS FALSE NEIGHBOUR: 'it returns false'. Refute it at one input. -/
def blockShowsLessWrong : ChangeSpec := { name := "blockShowsLess", fn := fun _ => fun
  | [d1, d2, d3, d4] => { results := [.lit (.bool false)], args := [d1, d2, d3, d4] }
  | _ => none }
def BlockShowsLessWrongFalsely : Prop := blockShowsLessRow.holds Try.pinned (OpenSpec.ofChange blockShowsLessWrong)

/- THE SECOND FORM. 'bulk': how many values and letters a reading holds, each counted each time it is reached (what is shared counts as often as it is met; a slice's spare places count too). A statement '..UptoSaid' is the law's where the arguments, and the package variables that the reading takes, are together of bulk at most 1048576: NARROWER than '..Said'. Prove '..Said' where nothing that the law and all that it calls make is longer than what came in: it says more and counts as full. Else prove '..UptoSaid'. A law counts once. -/
mutual
def uptoBulk {H : Type} : DataW H → Nat
  | .lit (.string bytes) => bytes.length + 1
  | .lit _ => 1
  | .nil => 1
  | .ptr d => uptoBulk d + 1
  | .slice elems spare => uptoBulkAll elems + uptoBulkAll spare + 1
  | .agg parts => uptoBulkAll parts + 1
  | .iface _ d => uptoBulk d + 1
  | .map entries => uptoBulkEntries entries + 1
  | .held _ => 1
def uptoBulkAll {H : Type} : List (DataW H) → Nat
  | [] => 0
  | d :: r => uptoBulk d + uptoBulkAll r
def uptoBulkEntries {H : Type} : List (Lit × DataW H) → Nat
  | [] => 0
  | x :: r => uptoBulkEntry x + uptoBulkEntries r
def uptoBulkEntry {H : Type} : Lit × DataW H → Nat
  | (.string bytes, d) => bytes.length + uptoBulk d + 1
  | (_, d) => uptoBulk d + 1
 end
def uptoSmall : (H : Type) → List (DataW H) → Bool := fun _ ds => decide (uptoBulkAll ds ≤ 1048576)
def OpenSpec.upto (s : _root_.Go.ChangeSpec) : _root_.Go.OpenSpec := { _root_.Go.OpenSpec.ofChange s with cond := some uptoSmall }

/-- 'hinterlandlaw07.BlockValidates', WHERE WHAT IT READS IS OF BULK AT MOST 1048576: true; the input reads as it did. -/
def blockValidatesUptoRow : OpenClaim := { program := "ytfocelelbcepnaa", sum := "fb2455a1fed627a8c3e790bac38f6b19f20ebf0308d3f7e53f9ed9257b97e309", func := "hinterland/hinterlandlaw07.BlockValidates", spec := "blockValidates", unfollowed := true, recurses := true, apart := false, narrowed := true }
def BlockValidatesUptoSaid : Prop := blockValidatesUptoRow.holds Try.pinned (OpenSpec.upto blockValidatesSpec)

/-- 'hinterlandlaw07.BlockParts', WHERE WHAT IT READS IS OF BULK AT MOST 1048576: true; the input reads as it did. -/
def blockPartsUptoRow : OpenClaim := { program := "ytfocelelbcepnaa", sum := "fb2455a1fed627a8c3e790bac38f6b19f20ebf0308d3f7e53f9ed9257b97e309", func := "hinterland/hinterlandlaw07.BlockParts", spec := "blockParts", unfollowed := true, recurses := true, apart := false, narrowed := true }
def BlockPartsUptoSaid : Prop := blockPartsUptoRow.holds Try.pinned (OpenSpec.upto blockPartsSpec)

/-- 'hinterlandlaw07.BlockOf', WHERE WHAT IT READS IS OF BULK AT MOST 1048576: true; the input reads as it did. -/
def blockOfUptoRow : OpenClaim := { program := "ytfocelelbcepnaa", sum := "fb2455a1fed627a8c3e790bac38f6b19f20ebf0308d3f7e53f9ed9257b97e309", func := "hinterland/hinterlandlaw07.BlockOf", spec := "blockOf", unfollowed := true, recurses := true, apart := false, narrowed := true }
def BlockOfUptoSaid : Prop := blockOfUptoRow.holds Try.pinned (OpenSpec.upto blockOfSpec)

/-- 'hinterlandlaw07.BlockWhole', WHERE WHAT IT READS IS OF BULK AT MOST 1048576: true; the input reads as it did. -/
def blockWholeUptoRow : OpenClaim := { program := "ytfocelelbcepnaa", sum := "fb2455a1fed627a8c3e790bac38f6b19f20ebf0308d3f7e53f9ed9257b97e309", func := "hinterland/hinterlandlaw07.BlockWhole", spec := "blockWhole", unfollowed := true, recurses := true, apart := false, narrowed := true }
def BlockWholeUptoSaid : Prop := blockWholeUptoRow.holds Try.pinned (OpenSpec.upto blockWholeSpec)

/-- 'hinterlandlaw07.BlockTakes', WHERE WHAT IT READS IS OF BULK AT MOST 1048576: true; the input reads as it did. -/
def blockTakesUptoRow : OpenClaim := { program := "ytfocelelbcepnaa", sum := "fb2455a1fed627a8c3e790bac38f6b19f20ebf0308d3f7e53f9ed9257b97e309", func := "hinterland/hinterlandlaw07.BlockTakes", spec := "blockTakes", unfollowed := true, recurses := true, apart := false, narrowed := true }
def BlockTakesUptoSaid : Prop := blockTakesUptoRow.holds Try.pinned (OpenSpec.upto blockTakesSpec)

/-- 'hinterlandlaw07.BlockMays', WHERE WHAT IT READS IS OF BULK AT MOST 1048576: true; the input reads as it did. -/
def blockMaysUptoRow : OpenClaim := { program := "ytfocelelbcepnaa", sum := "fb2455a1fed627a8c3e790bac38f6b19f20ebf0308d3f7e53f9ed9257b97e309", func := "hinterland/hinterlandlaw07.BlockMays", spec := "blockMays", unfollowed := true, recurses := true, apart := false, narrowed := true }
def BlockMaysUptoSaid : Prop := blockMaysUptoRow.holds Try.pinned (OpenSpec.upto blockMaysSpec)

/-- 'hinterlandlaw07.BlockPuts', WHERE WHAT IT READS IS OF BULK AT MOST 1048576: true; the input reads as it did. -/
def blockPutsUptoRow : OpenClaim := { program := "ytfocelelbcepnaa", sum := "fb2455a1fed627a8c3e790bac38f6b19f20ebf0308d3f7e53f9ed9257b97e309", func := "hinterland/hinterlandlaw07.BlockPuts", spec := "blockPuts", inPlace := ["slices.overlaps[hinterland/api.Signal]"], unfollowed := true, recurses := true, apart := false, narrowed := true }
def BlockPutsUptoSaid : Prop := blockPutsUptoRow.holds Try.pinned (OpenSpec.upto blockPutsSpec)

/-- 'hinterlandlaw07.BlockSplits', WHERE WHAT IT READS IS OF BULK AT MOST 1048576: true; the input reads as it did. -/
def blockSplitsUptoRow : OpenClaim := { program := "ytfocelelbcepnaa", sum := "fb2455a1fed627a8c3e790bac38f6b19f20ebf0308d3f7e53f9ed9257b97e309", func := "hinterland/hinterlandlaw07.BlockSplits", spec := "blockSplits", inPlace := ["slices.overlaps[hinterland/api.Signal]"], unfollowed := true, recurses := true, apart := false, narrowed := true }
def BlockSplitsUptoSaid : Prop := blockSplitsUptoRow.holds Try.pinned (OpenSpec.upto blockSplitsSpec)

/-- 'hinterlandlaw07.BlockNil', WHERE WHAT IT READS IS OF BULK AT MOST 1048576: true; the input reads as it did. -/
def blockNilUptoRow : OpenClaim := { program := "ytfocelelbcepnaa", sum := "fb2455a1fed627a8c3e790bac38f6b19f20ebf0308d3f7e53f9ed9257b97e309", func := "hinterland/hinterlandlaw07.BlockNil", spec := "blockNil", inPlace := ["slices.overlaps[hinterland/api.Signal]"], unfollowed := true, recurses := true, apart := false, narrowed := true }
def BlockNilUptoSaid : Prop := blockNilUptoRow.holds Try.pinned (OpenSpec.upto blockNilSpec)

/-- 'hinterlandlaw07.BlockMap', WHERE WHAT IT READS IS OF BULK AT MOST 1048576: true; the input reads as it did. -/
def blockMapUptoRow : OpenClaim := { program := "ytfocelelbcepnaa", sum := "fb2455a1fed627a8c3e790bac38f6b19f20ebf0308d3f7e53f9ed9257b97e309", func := "hinterland/hinterlandlaw07.BlockMap", spec := "blockMap", inPlace := ["slices.overlaps[hinterland/api.Signal]"], unfollowed := true, recurses := true, apart := false, narrowed := true }
def BlockMapUptoSaid : Prop := blockMapUptoRow.holds Try.pinned (OpenSpec.upto blockMapSpec)

/-- 'hinterlandlaw07.BlockBeyond', WHERE WHAT IT READS IS OF BULK AT MOST 1048576: true; the input reads as it did. -/
def blockBeyondUptoRow : OpenClaim := { program := "ytfocelelbcepnaa", sum := "fb2455a1fed627a8c3e790bac38f6b19f20ebf0308d3f7e53f9ed9257b97e309", func := "hinterland/hinterlandlaw07.BlockBeyond", spec := "blockBeyond", unfollowed := true, recurses := true, apart := false, narrowed := true }
def BlockBeyondUptoSaid : Prop := blockBeyondUptoRow.holds Try.pinned (OpenSpec.upto blockBeyondSpec)

/-- 'hinterlandlaw07.BlockShows', WHERE WHAT IT READS IS OF BULK AT MOST 1048576: true; the input reads as it did. -/
def blockShowsUptoRow : OpenClaim := { program := "ytfocelelbcepnaa", sum := "fb2455a1fed627a8c3e790bac38f6b19f20ebf0308d3f7e53f9ed9257b97e309", func := "hinterland/hinterlandlaw07.BlockShows", spec := "blockShows", unfollowed := true, recurses := true, apart := false, narrowed := true }
def BlockShowsUptoSaid : Prop := blockShowsUptoRow.holds Try.pinned (OpenSpec.upto blockShowsSpec)

/-- 'hinterlandlaw07.BlockShowsLess', WHERE WHAT IT READS IS OF BULK AT MOST 1048576: true; the input reads as it did. -/
def blockShowsLessUptoRow : OpenClaim := { program := "ytfocelelbcepnaa", sum := "fb2455a1fed627a8c3e790bac38f6b19f20ebf0308d3f7e53f9ed9257b97e309", func := "hinterland/hinterlandlaw07.BlockShowsLess", spec := "blockShowsLess", unfollowed := true, recurses := true, apart := false, narrowed := true }
def BlockShowsLessUptoSaid : Prop := blockShowsLessUptoRow.holds Try.pinned (OpenSpec.upto blockShowsLessSpec)

end Rows
end Go.Proofs.Ytfocelelbcepnaa
