/-
  No cell of these rows narrows 'for every input' (looked for: loops, veiled, ifaces, maps, wideKeys, modest, calm, conditions, laid).
  DERIVED. THE GIVEN ROWS OF THIS SEAT. 8 by the template 'for every input the law returns true; each argument reads behind the call as it read before'; 0 by the template 'total and deterministic' (their statements: YtkjnmjilkhigaaaTotals.lean).
  GIVEN WITH THE SEED: the statements are not yours to turn. If you find one false, say at which input.
  Laid BY PROGRAM, IN A SANDBOX (cutbox-rows.mjs): the forced cells as the released guide's own fill.sh prints them over the translation c820b50563c6bf26… (all of the seat's roots in one cut). By AI agents, Wed Nov 11 2026. No macro, syntax, notation, axiom, sorry.
-/
import Derived.Test.YtkjnmjilkhigaaaChecked
import GoSem.Claim
import GoSem.ClaimJoined
import GoSem.ClaimMapViews
import Derived.JoinedTies
import Derived.KernelRfl
namespace Go.Proofs.Ytkjnmjilkhigaaa
/- THE CELL 'sum', in the pinned program and in every row, IS THE sha256 OF THE DUMP (.gsa) THAT YtkjnmjilkhigaaaProg.lean LOADS. Nothing in Lean hashes anything: it is a label: what it is worth is what the hold of that sum in a sandbox is worth. -/
noncomputable def Try.pinned : Pinned := { name := "ytkjnmjilkhigaaa", sum := "c820b50563c6bf265c43c9c2482cd681974dcc17d906382adaf858efbe105e0a", checked := Try.checked }
namespace Rows
def none {H : Type} : Left H := { results := [], args := [] }

/-- 'outpostlaw18.FanodecDecodes': WHATEVER THE INPUT: true; the input reads as it did. -/
def fanodecDecodesSpec : ChangeSpec := { name := "fanodecDecodes", fn := fun _ => fun
  | [d1, d2, d3] => { results := [.lit (.bool true)], args := [d1, d2, d3] }
  | _ => none }
def fanodecDecodesRow : OpenClaim := { program := "ytkjnmjilkhigaaa", sum := "c820b50563c6bf265c43c9c2482cd681974dcc17d906382adaf858efbe105e0a", func := "outpost/outpostlaw18.FanodecDecodes", spec := "fanodecDecodes", unfollowed := true, recurses := true, apart := false }
def FanodecDecodesSaid : Prop := fanodecDecodesRow.holds Try.pinned (OpenSpec.ofChange fanodecDecodesSpec)

/-- ITS FALSE NEIGHBOUR: 'it returns false'. Refute it at one input. -/
def fanodecDecodesWrong : ChangeSpec := { name := "fanodecDecodes", fn := fun _ => fun
  | [d1, d2, d3] => { results := [.lit (.bool false)], args := [d1, d2, d3] }
  | _ => none }
def FanodecDecodesWrongFalsely : Prop := fanodecDecodesRow.holds Try.pinned (OpenSpec.ofChange fanodecDecodesWrong)

/-- 'outpostlaw18.FanodecGreatest': WHATEVER THE INPUT: true; the input reads as it did. -/
def fanodecGreatestSpec : ChangeSpec := { name := "fanodecGreatest", fn := fun _ => fun
  | [d] => { results := [.lit (.bool true)], args := [d] }
  | _ => none }
def fanodecGreatestRow : OpenClaim := { program := "ytkjnmjilkhigaaa", sum := "c820b50563c6bf265c43c9c2482cd681974dcc17d906382adaf858efbe105e0a", func := "outpost/outpostlaw18.FanodecGreatest", spec := "fanodecGreatest", unfollowed := true, recurses := true, apart := false }
def FanodecGreatestSaid : Prop := fanodecGreatestRow.holds Try.pinned (OpenSpec.ofChange fanodecGreatestSpec)

/-- ITS FALSE NEIGHBOUR: 'it returns false'. Refute it at one input. -/
def fanodecGreatestWrong : ChangeSpec := { name := "fanodecGreatest", fn := fun _ => fun
  | [d] => { results := [.lit (.bool false)], args := [d] }
  | _ => none }
def FanodecGreatestWrongFalsely : Prop := fanodecGreatestRow.holds Try.pinned (OpenSpec.ofChange fanodecGreatestWrong)

/-- 'outpostlaw18.FanodecClean': WHATEVER THE INPUT: true; the input reads as it did. -/
def fanodecCleanSpec : ChangeSpec := { name := "fanodecClean", fn := fun _ => fun
  | [d1, d2] => { results := [.lit (.bool true)], args := [d1, d2] }
  | _ => none }
def fanodecCleanRow : OpenClaim := { program := "ytkjnmjilkhigaaa", sum := "c820b50563c6bf265c43c9c2482cd681974dcc17d906382adaf858efbe105e0a", func := "outpost/outpostlaw18.FanodecClean", spec := "fanodecClean", unfollowed := true, recurses := true, apart := false }
def FanodecCleanSaid : Prop := fanodecCleanRow.holds Try.pinned (OpenSpec.ofChange fanodecCleanSpec)

/-- ITS FALSE NEIGHBOUR: 'it returns false'. Refute it at one input. -/
def fanodecCleanWrong : ChangeSpec := { name := "fanodecClean", fn := fun _ => fun
  | [d1, d2] => { results := [.lit (.bool false)], args := [d1, d2] }
  | _ => none }
def FanodecCleanWrongFalsely : Prop := fanodecCleanRow.holds Try.pinned (OpenSpec.ofChange fanodecCleanWrong)

/-- 'outpostlaw18.FanodecLow': WHATEVER THE INPUT: true; the input reads as it did. -/
def fanodecLowSpec : ChangeSpec := { name := "fanodecLow", fn := fun _ => fun
  | [d] => { results := [.lit (.bool true)], args := [d] }
  | _ => none }
def fanodecLowRow : OpenClaim := { program := "ytkjnmjilkhigaaa", sum := "c820b50563c6bf265c43c9c2482cd681974dcc17d906382adaf858efbe105e0a", func := "outpost/outpostlaw18.FanodecLow", spec := "fanodecLow", unfollowed := true, recurses := true, apart := false }
def FanodecLowSaid : Prop := fanodecLowRow.holds Try.pinned (OpenSpec.ofChange fanodecLowSpec)

/-- ITS FALSE NEIGHBOUR: 'it returns false'. Refute it at one input. -/
def fanodecLowWrong : ChangeSpec := { name := "fanodecLow", fn := fun _ => fun
  | [d] => { results := [.lit (.bool false)], args := [d] }
  | _ => none }
def FanodecLowWrongFalsely : Prop := fanodecLowRow.holds Try.pinned (OpenSpec.ofChange fanodecLowWrong)

/-- 'outpostlaw18.FanodecPlays': WHATEVER THE INPUT: true; the input reads as it did. -/
def fanodecPlaysSpec : ChangeSpec := { name := "fanodecPlays", fn := fun _ => fun
  | [d] => { results := [.lit (.bool true)], args := [d] }
  | _ => none }
def fanodecPlaysRow : OpenClaim := { program := "ytkjnmjilkhigaaa", sum := "c820b50563c6bf265c43c9c2482cd681974dcc17d906382adaf858efbe105e0a", func := "outpost/outpostlaw18.FanodecPlays", spec := "fanodecPlays", unfollowed := true, recurses := true, apart := false }
def FanodecPlaysSaid : Prop := fanodecPlaysRow.holds Try.pinned (OpenSpec.ofChange fanodecPlaysSpec)

/-- ITS FALSE NEIGHBOUR: 'it returns false'. Refute it at one input. -/
def fanodecPlaysWrong : ChangeSpec := { name := "fanodecPlays", fn := fun _ => fun
  | [d] => { results := [.lit (.bool false)], args := [d] }
  | _ => none }
def FanodecPlaysWrongFalsely : Prop := fanodecPlaysRow.holds Try.pinned (OpenSpec.ofChange fanodecPlaysWrong)

/-- 'outpostlaw18.FanodecStands': WHATEVER THE INPUT: true; the input reads as it did. -/
def fanodecStandsSpec : ChangeSpec := { name := "fanodecStands", fn := fun _ => fun
  | [d] => { results := [.lit (.bool true)], args := [d] }
  | _ => none }
def fanodecStandsRow : OpenClaim := { program := "ytkjnmjilkhigaaa", sum := "c820b50563c6bf265c43c9c2482cd681974dcc17d906382adaf858efbe105e0a", func := "outpost/outpostlaw18.FanodecStands", spec := "fanodecStands", unfollowed := true, recurses := true, apart := false }
def FanodecStandsSaid : Prop := fanodecStandsRow.holds Try.pinned (OpenSpec.ofChange fanodecStandsSpec)

/-- ITS FALSE NEIGHBOUR: 'it returns false'. Refute it at one input. -/
def fanodecStandsWrong : ChangeSpec := { name := "fanodecStands", fn := fun _ => fun
  | [d] => { results := [.lit (.bool false)], args := [d] }
  | _ => none }
def FanodecStandsWrongFalsely : Prop := fanodecStandsRow.holds Try.pinned (OpenSpec.ofChange fanodecStandsWrong)

/-- 'outpostlaw18.FanodecPieces': WHATEVER THE INPUT: true; the input reads as it did. -/
def fanodecPiecesSpec : ChangeSpec := { name := "fanodecPieces", fn := fun _ => fun
  | [d1, d2, d3] => { results := [.lit (.bool true)], args := [d1, d2, d3] }
  | _ => none }
def fanodecPiecesRow : OpenClaim := { program := "ytkjnmjilkhigaaa", sum := "c820b50563c6bf265c43c9c2482cd681974dcc17d906382adaf858efbe105e0a", func := "outpost/outpostlaw18.FanodecPieces", spec := "fanodecPieces", unfollowed := true, recurses := true, apart := false }
def FanodecPiecesSaid : Prop := fanodecPiecesRow.holds Try.pinned (OpenSpec.ofChange fanodecPiecesSpec)

/-- ITS FALSE NEIGHBOUR: 'it returns false'. Refute it at one input. -/
def fanodecPiecesWrong : ChangeSpec := { name := "fanodecPieces", fn := fun _ => fun
  | [d1, d2, d3] => { results := [.lit (.bool false)], args := [d1, d2, d3] }
  | _ => none }
def FanodecPiecesWrongFalsely : Prop := fanodecPiecesRow.holds Try.pinned (OpenSpec.ofChange fanodecPiecesWrong)

/-- 'outpostlaw18.FanodecNil': WHATEVER THE INPUT: true; the input reads as it did. -/
def fanodecNilSpec : ChangeSpec := { name := "fanodecNil", fn := fun _ => fun
  | [] => { results := [.lit (.bool true)], args := [] }
  | _ => none }
def fanodecNilRow : OpenClaim := { program := "ytkjnmjilkhigaaa", sum := "c820b50563c6bf265c43c9c2482cd681974dcc17d906382adaf858efbe105e0a", func := "outpost/outpostlaw18.FanodecNil", spec := "fanodecNil", unfollowed := true, recurses := true, apart := false }
def FanodecNilSaid : Prop := fanodecNilRow.holds Try.pinned (OpenSpec.ofChange fanodecNilSpec)

/-- ITS FALSE NEIGHBOUR: 'it returns false'. Refute it at one input. -/
def fanodecNilWrong : ChangeSpec := { name := "fanodecNil", fn := fun _ => fun
  | [] => { results := [.lit (.bool false)], args := [] }
  | _ => none }
def FanodecNilWrongFalsely : Prop := fanodecNilRow.holds Try.pinned (OpenSpec.ofChange fanodecNilWrong)

/- THE SECOND FORM. 'bulk': how many values and letters a reading holds, each counted each time it is reached (what is shared counts as often as it is met; a slice's spare places count too). A statement '..UptoSaid' is the law's where the arguments, and the package variables that the reading takes, are together of bulk at most 1048576: NARROWER than '..Said'. Prove '..Said' where nothing that the law and all that it calls make is longer than what came in: it says more and counts as full. Else prove '..UptoSaid'. A law counts once. -/
mutual
def uptoBulk {H : Type} : DataW H → Nat
  | .lit (.string bytes) => bytes.length + 1
  | .lit _ => 1
  | .nil => 1
  | .ptr d => uptoBulk d + 1
  | .slice elems spare => uptoBulkAll elems + uptoBulkAll spare + 1
  | .agg parts => uptoBulkAll parts + 1
  | .iface _ d => uptoBulk d + 1
  | .map entries => uptoBulkEntries entries + 1
  | .held _ => 1
def uptoBulkAll {H : Type} : List (DataW H) → Nat
  | [] => 0
  | d :: r => uptoBulk d + uptoBulkAll r
def uptoBulkEntries {H : Type} : List (Lit × DataW H) → Nat
  | [] => 0
  | x :: r => uptoBulkEntry x + uptoBulkEntries r
def uptoBulkEntry {H : Type} : Lit × DataW H → Nat
  | (.string bytes, d) => bytes.length + uptoBulk d + 1
  | (_, d) => uptoBulk d + 1
 end
def uptoSmall : (H : Type) → List (DataW H) → Bool := fun _ ds => decide (uptoBulkAll ds ≤ 1048576)
def OpenSpec.upto (s : _root_.Go.ChangeSpec) : _root_.Go.OpenSpec := { _root_.Go.OpenSpec.ofChange s with cond := some uptoSmall }

/-- 'outpostlaw18.FanodecDecodes', WHERE WHAT IT READS IS OF BULK AT MOST 1048576: true; the input reads as it did. -/
def fanodecDecodesUptoRow : OpenClaim := { program := "ytkjnmjilkhigaaa", sum := "c820b50563c6bf265c43c9c2482cd681974dcc17d906382adaf858efbe105e0a", func := "outpost/outpostlaw18.FanodecDecodes", spec := "fanodecDecodes", unfollowed := true, recurses := true, apart := false, narrowed := true }
def FanodecDecodesUptoSaid : Prop := fanodecDecodesUptoRow.holds Try.pinned (OpenSpec.upto fanodecDecodesSpec)

/-- 'outpostlaw18.FanodecGreatest', WHERE WHAT IT READS IS OF BULK AT MOST 1048576: true; the input reads as it did. -/
def fanodecGreatestUptoRow : OpenClaim := { program := "ytkjnmjilkhigaaa", sum := "c820b50563c6bf265c43c9c2482cd681974dcc17d906382adaf858efbe105e0a", func := "outpost/outpostlaw18.FanodecGreatest", spec := "fanodecGreatest", unfollowed := true, recurses := true, apart := false, narrowed := true }
def FanodecGreatestUptoSaid : Prop := fanodecGreatestUptoRow.holds Try.pinned (OpenSpec.upto fanodecGreatestSpec)

/-- 'outpostlaw18.FanodecClean', WHERE WHAT IT READS IS OF BULK AT MOST 1048576: true; the input reads as it did. -/
def fanodecCleanUptoRow : OpenClaim := { program := "ytkjnmjilkhigaaa", sum := "c820b50563c6bf265c43c9c2482cd681974dcc17d906382adaf858efbe105e0a", func := "outpost/outpostlaw18.FanodecClean", spec := "fanodecClean", unfollowed := true, recurses := true, apart := false, narrowed := true }
def FanodecCleanUptoSaid : Prop := fanodecCleanUptoRow.holds Try.pinned (OpenSpec.upto fanodecCleanSpec)

/-- 'outpostlaw18.FanodecLow', WHERE WHAT IT READS IS OF BULK AT MOST 1048576: true; the input reads as it did. -/
def fanodecLowUptoRow : OpenClaim := { program := "ytkjnmjilkhigaaa", sum := "c820b50563c6bf265c43c9c2482cd681974dcc17d906382adaf858efbe105e0a", func := "outpost/outpostlaw18.FanodecLow", spec := "fanodecLow", unfollowed := true, recurses := true, apart := false, narrowed := true }
def FanodecLowUptoSaid : Prop := fanodecLowUptoRow.holds Try.pinned (OpenSpec.upto fanodecLowSpec)

/-- 'outpostlaw18.FanodecPlays', WHERE WHAT IT READS IS OF BULK AT MOST 1048576: true; the input reads as it did. -/
def fanodecPlaysUptoRow : OpenClaim := { program := "ytkjnmjilkhigaaa", sum := "c820b50563c6bf265c43c9c2482cd681974dcc17d906382adaf858efbe105e0a", func := "outpost/outpostlaw18.FanodecPlays", spec := "fanodecPlays", unfollowed := true, recurses := true, apart := false, narrowed := true }
def FanodecPlaysUptoSaid : Prop := fanodecPlaysUptoRow.holds Try.pinned (OpenSpec.upto fanodecPlaysSpec)

/-- 'outpostlaw18.FanodecStands', WHERE WHAT IT READS IS OF BULK AT MOST 1048576: true; the input reads as it did. -/
def fanodecStandsUptoRow : OpenClaim := { program := "ytkjnmjilkhigaaa", sum := "c820b50563c6bf265c43c9c2482cd681974dcc17d906382adaf858efbe105e0a", func := "outpost/outpostlaw18.FanodecStands", spec := "fanodecStands", unfollowed := true, recurses := true, apart := false, narrowed := true }
def FanodecStandsUptoSaid : Prop := fanodecStandsUptoRow.holds Try.pinned (OpenSpec.upto fanodecStandsSpec)

/-- 'outpostlaw18.FanodecPieces', WHERE WHAT IT READS IS OF BULK AT MOST 1048576: true; the input reads as it did. -/
def fanodecPiecesUptoRow : OpenClaim := { program := "ytkjnmjilkhigaaa", sum := "c820b50563c6bf265c43c9c2482cd681974dcc17d906382adaf858efbe105e0a", func := "outpost/outpostlaw18.FanodecPieces", spec := "fanodecPieces", unfollowed := true, recurses := true, apart := false, narrowed := true }
def FanodecPiecesUptoSaid : Prop := fanodecPiecesUptoRow.holds Try.pinned (OpenSpec.upto fanodecPiecesSpec)

/-- 'outpostlaw18.FanodecNil', WHERE WHAT IT READS IS OF BULK AT MOST 1048576: true; the input reads as it did. -/
def fanodecNilUptoRow : OpenClaim := { program := "ytkjnmjilkhigaaa", sum := "c820b50563c6bf265c43c9c2482cd681974dcc17d906382adaf858efbe105e0a", func := "outpost/outpostlaw18.FanodecNil", spec := "fanodecNil", unfollowed := true, recurses := true, apart := false, narrowed := true }
def FanodecNilUptoSaid : Prop := fanodecNilUptoRow.holds Try.pinned (OpenSpec.upto fanodecNilSpec)

end Rows
end Go.Proofs.Ytkjnmjilkhigaaa
