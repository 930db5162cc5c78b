/-
  No cell of these rows narrows 'for every input' (looked for: loops, veiled, ifaces, maps, wideKeys, modest, calm, conditions, laid).
  DERIVED. THE GIVEN ROWS OF THIS SEAT. 8 by the template 'for every input the law returns true; each argument reads behind the call as it read before'; 0 by the template 'total and deterministic' (their statements: YtnjmplapjnnjdaaTotals.lean).
  GIVEN WITH THE SEED: the statements are not yours to turn. If you find one false, say at which input.
  Laid BY PROGRAM, IN A SANDBOX (cutbox-rows.mjs): the forced cells as the released guide's own fill.sh prints them over the translation 675a32d866f23055… (all of the seat's roots in one cut). By AI agents, Wed Nov 11 2026. No macro, syntax, notation, axiom, sorry.
-/
import Derived.Test.YtnjmplapjnnjdaaChecked
import GoSem.Claim
import GoSem.ClaimJoined
import GoSem.ClaimMapViews
import Derived.JoinedTies
import Derived.KernelRfl
namespace Go.Proofs.Ytnjmplapjnnjdaa
/- THE CELL 'sum', in the pinned program and in every row, IS THE sha256 OF THE DUMP (.gsa) THAT YtnjmplapjnnjdaaProg.lean LOADS. Nothing in Lean hashes anything: it is a label: what it is worth is what the hold of that sum in a sandbox is worth. -/
noncomputable def Try.pinned : Pinned := { name := "ytnjmplapjnnjdaa", sum := "675a32d866f230552c7d116beeb65adbc6bebaf9ebe34744cd576f6a54a900f5", checked := Try.checked }
namespace Rows
def none {H : Type} : Left H := { results := [], args := [] }

/-- 'outpostlaw17.BucketdecDecodes': WHATEVER THE INPUT: true; the input reads as it did. -/
def bucketdecDecodesSpec : ChangeSpec := { name := "bucketdecDecodes", fn := fun _ => fun
  | [d1, d2, d3, d4] => { results := [.lit (.bool true)], args := [d1, d2, d3, d4] }
  | _ => none }
def bucketdecDecodesRow : OpenClaim := { program := "ytnjmplapjnnjdaa", sum := "675a32d866f230552c7d116beeb65adbc6bebaf9ebe34744cd576f6a54a900f5", func := "outpost/outpostlaw17.BucketdecDecodes", spec := "bucketdecDecodes", unfollowed := true, recurses := true, apart := false }
def BucketdecDecodesSaid : Prop := bucketdecDecodesRow.holds Try.pinned (OpenSpec.ofChange bucketdecDecodesSpec)

/-- ITS FALSE NEIGHBOUR: 'it returns false'. Refute it at one input. -/
def bucketdecDecodesWrong : ChangeSpec := { name := "bucketdecDecodes", fn := fun _ => fun
  | [d1, d2, d3, d4] => { results := [.lit (.bool false)], args := [d1, d2, d3, d4] }
  | _ => none }
def BucketdecDecodesWrongFalsely : Prop := bucketdecDecodesRow.holds Try.pinned (OpenSpec.ofChange bucketdecDecodesWrong)

/-- 'outpostlaw17.BucketdecOwn': WHATEVER THE INPUT: true; the input reads as it did. -/
def bucketdecOwnSpec : ChangeSpec := { name := "bucketdecOwn", fn := fun _ => fun
  | [d1, d2] => { results := [.lit (.bool true)], args := [d1, d2] }
  | _ => none }
def bucketdecOwnRow : OpenClaim := { program := "ytnjmplapjnnjdaa", sum := "675a32d866f230552c7d116beeb65adbc6bebaf9ebe34744cd576f6a54a900f5", func := "outpost/outpostlaw17.BucketdecOwn", spec := "bucketdecOwn", unfollowed := true, recurses := true, apart := false }
def BucketdecOwnSaid : Prop := bucketdecOwnRow.holds Try.pinned (OpenSpec.ofChange bucketdecOwnSpec)

/-- ITS FALSE NEIGHBOUR: 'it returns false'. Refute it at one input. -/
def bucketdecOwnWrong : ChangeSpec := { name := "bucketdecOwn", fn := fun _ => fun
  | [d1, d2] => { results := [.lit (.bool false)], args := [d1, d2] }
  | _ => none }
def BucketdecOwnWrongFalsely : Prop := bucketdecOwnRow.holds Try.pinned (OpenSpec.ofChange bucketdecOwnWrong)

/-- 'outpostlaw17.BucketdecClean': WHATEVER THE INPUT: true; the input reads as it did. -/
def bucketdecCleanSpec : ChangeSpec := { name := "bucketdecClean", fn := fun _ => fun
  | [d1, d2, d3] => { results := [.lit (.bool true)], args := [d1, d2, d3] }
  | _ => none }
def bucketdecCleanRow : OpenClaim := { program := "ytnjmplapjnnjdaa", sum := "675a32d866f230552c7d116beeb65adbc6bebaf9ebe34744cd576f6a54a900f5", func := "outpost/outpostlaw17.BucketdecClean", spec := "bucketdecClean", unfollowed := true, recurses := true, apart := false }
def BucketdecCleanSaid : Prop := bucketdecCleanRow.holds Try.pinned (OpenSpec.ofChange bucketdecCleanSpec)

/-- ITS FALSE NEIGHBOUR: 'it returns false'. Refute it at one input. -/
def bucketdecCleanWrong : ChangeSpec := { name := "bucketdecClean", fn := fun _ => fun
  | [d1, d2, d3] => { results := [.lit (.bool false)], args := [d1, d2, d3] }
  | _ => none }
def BucketdecCleanWrongFalsely : Prop := bucketdecCleanRow.holds Try.pinned (OpenSpec.ofChange bucketdecCleanWrong)

/-- 'outpostlaw17.BucketdecTwo': WHATEVER THE INPUT: true; the input reads as it did. -/
def bucketdecTwoSpec : ChangeSpec := { name := "bucketdecTwo", fn := fun _ => fun
  | [d1, d2, d3, d4, d5] => { results := [.lit (.bool true)], args := [d1, d2, d3, d4, d5] }
  | _ => none }
def bucketdecTwoRow : OpenClaim := { program := "ytnjmplapjnnjdaa", sum := "675a32d866f230552c7d116beeb65adbc6bebaf9ebe34744cd576f6a54a900f5", func := "outpost/outpostlaw17.BucketdecTwo", spec := "bucketdecTwo", unfollowed := true, recurses := true, apart := false }
def BucketdecTwoSaid : Prop := bucketdecTwoRow.holds Try.pinned (OpenSpec.ofChange bucketdecTwoSpec)

/-- ITS FALSE NEIGHBOUR: 'it returns false'. Refute it at one input. -/
def bucketdecTwoWrong : ChangeSpec := { name := "bucketdecTwo", fn := fun _ => fun
  | [d1, d2, d3, d4, d5] => { results := [.lit (.bool false)], args := [d1, d2, d3, d4, d5] }
  | _ => none }
def BucketdecTwoWrongFalsely : Prop := bucketdecTwoRow.holds Try.pinned (OpenSpec.ofChange bucketdecTwoWrong)

/-- 'outpostlaw17.BucketdecNil': WHATEVER THE INPUT: true; the input reads as it did. -/
def bucketdecNilSpec : ChangeSpec := { name := "bucketdecNil", fn := fun _ => fun
  | [d] => { results := [.lit (.bool true)], args := [d] }
  | _ => none }
def bucketdecNilRow : OpenClaim := { program := "ytnjmplapjnnjdaa", sum := "675a32d866f230552c7d116beeb65adbc6bebaf9ebe34744cd576f6a54a900f5", func := "outpost/outpostlaw17.BucketdecNil", spec := "bucketdecNil", unfollowed := true, recurses := true, apart := false }
def BucketdecNilSaid : Prop := bucketdecNilRow.holds Try.pinned (OpenSpec.ofChange bucketdecNilSpec)

/-- ITS FALSE NEIGHBOUR: 'it returns false'. Refute it at one input. -/
def bucketdecNilWrong : ChangeSpec := { name := "bucketdecNil", fn := fun _ => fun
  | [d] => { results := [.lit (.bool false)], args := [d] }
  | _ => none }
def BucketdecNilWrongFalsely : Prop := bucketdecNilRow.holds Try.pinned (OpenSpec.ofChange bucketdecNilWrong)

/-- 'outpostlaw17.BucketdecPieces': WHATEVER THE INPUT: true; the input reads as it did. -/
def bucketdecPiecesSpec : ChangeSpec := { name := "bucketdecPieces", fn := fun _ => fun
  | [d1, d2, d3, d4, d5] => { results := [.lit (.bool true)], args := [d1, d2, d3, d4, d5] }
  | _ => none }
def bucketdecPiecesRow : OpenClaim := { program := "ytnjmplapjnnjdaa", sum := "675a32d866f230552c7d116beeb65adbc6bebaf9ebe34744cd576f6a54a900f5", func := "outpost/outpostlaw17.BucketdecPieces", spec := "bucketdecPieces", unfollowed := true, recurses := true, apart := false }
def BucketdecPiecesSaid : Prop := bucketdecPiecesRow.holds Try.pinned (OpenSpec.ofChange bucketdecPiecesSpec)

/-- ITS FALSE NEIGHBOUR: 'it returns false'. Refute it at one input. -/
def bucketdecPiecesWrong : ChangeSpec := { name := "bucketdecPieces", fn := fun _ => fun
  | [d1, d2, d3, d4, d5] => { results := [.lit (.bool false)], args := [d1, d2, d3, d4, d5] }
  | _ => none }
def BucketdecPiecesWrongFalsely : Prop := bucketdecPiecesRow.holds Try.pinned (OpenSpec.ofChange bucketdecPiecesWrong)

/-- 'outpostlaw17.BucketdecExact': WHATEVER THE INPUT: true; the input reads as it did. -/
def bucketdecExactSpec : ChangeSpec := { name := "bucketdecExact", fn := fun _ => fun
  | [d1, d2, d3, d4, d5] => { results := [.lit (.bool true)], args := [d1, d2, d3, d4, d5] }
  | _ => none }
def bucketdecExactRow : OpenClaim := { program := "ytnjmplapjnnjdaa", sum := "675a32d866f230552c7d116beeb65adbc6bebaf9ebe34744cd576f6a54a900f5", func := "outpost/outpostlaw17.BucketdecExact", spec := "bucketdecExact", unfollowed := true, recurses := true, apart := false }
def BucketdecExactSaid : Prop := bucketdecExactRow.holds Try.pinned (OpenSpec.ofChange bucketdecExactSpec)

/-- ITS FALSE NEIGHBOUR: 'it returns false'. Refute it at one input. -/
def bucketdecExactWrong : ChangeSpec := { name := "bucketdecExact", fn := fun _ => fun
  | [d1, d2, d3, d4, d5] => { results := [.lit (.bool false)], args := [d1, d2, d3, d4, d5] }
  | _ => none }
def BucketdecExactWrongFalsely : Prop := bucketdecExactRow.holds Try.pinned (OpenSpec.ofChange bucketdecExactWrong)

/-- 'outpostlaw17.BucketdecErased': WHATEVER THE INPUT: true; the input reads as it did. -/
def bucketdecErasedSpec : ChangeSpec := { name := "bucketdecErased", fn := fun _ => fun
  | [d1, d2, d3, d4] => { results := [.lit (.bool true)], args := [d1, d2, d3, d4] }
  | _ => none }
def bucketdecErasedRow : OpenClaim := { program := "ytnjmplapjnnjdaa", sum := "675a32d866f230552c7d116beeb65adbc6bebaf9ebe34744cd576f6a54a900f5", func := "outpost/outpostlaw17.BucketdecErased", spec := "bucketdecErased", unfollowed := true, recurses := true, apart := false }
def BucketdecErasedSaid : Prop := bucketdecErasedRow.holds Try.pinned (OpenSpec.ofChange bucketdecErasedSpec)

/-- ITS FALSE NEIGHBOUR: 'it returns false'. Refute it at one input. -/
def bucketdecErasedWrong : ChangeSpec := { name := "bucketdecErased", fn := fun _ => fun
  | [d1, d2, d3, d4] => { results := [.lit (.bool false)], args := [d1, d2, d3, d4] }
  | _ => none }
def BucketdecErasedWrongFalsely : Prop := bucketdecErasedRow.holds Try.pinned (OpenSpec.ofChange bucketdecErasedWrong)

/- THE SECOND FORM. 'bulk': how many values and letters a reading holds, each counted each time it is reached (what is shared counts as often as it is met; a slice's spare places count too). A statement '..UptoSaid' is the law's where the arguments, and the package variables that the reading takes, are together of bulk at most 1048576: NARROWER than '..Said'. Prove '..Said' where nothing that the law and all that it calls make is longer than what came in: it says more and counts as full. Else prove '..UptoSaid'. A law counts once. -/
mutual
def uptoBulk {H : Type} : DataW H → Nat
  | .lit (.string bytes) => bytes.length + 1
  | .lit _ => 1
  | .nil => 1
  | .ptr d => uptoBulk d + 1
  | .slice elems spare => uptoBulkAll elems + uptoBulkAll spare + 1
  | .agg parts => uptoBulkAll parts + 1
  | .iface _ d => uptoBulk d + 1
  | .map entries => uptoBulkEntries entries + 1
  | .held _ => 1
def uptoBulkAll {H : Type} : List (DataW H) → Nat
  | [] => 0
  | d :: r => uptoBulk d + uptoBulkAll r
def uptoBulkEntries {H : Type} : List (Lit × DataW H) → Nat
  | [] => 0
  | x :: r => uptoBulkEntry x + uptoBulkEntries r
def uptoBulkEntry {H : Type} : Lit × DataW H → Nat
  | (.string bytes, d) => bytes.length + uptoBulk d + 1
  | (_, d) => uptoBulk d + 1
 end
def uptoSmall : (H : Type) → List (DataW H) → Bool := fun _ ds => decide (uptoBulkAll ds ≤ 1048576)
def OpenSpec.upto (s : _root_.Go.ChangeSpec) : _root_.Go.OpenSpec := { _root_.Go.OpenSpec.ofChange s with cond := some uptoSmall }

/-- 'outpostlaw17.BucketdecDecodes', WHERE WHAT IT READS IS OF BULK AT MOST 1048576: true; the input reads as it did. -/
def bucketdecDecodesUptoRow : OpenClaim := { program := "ytnjmplapjnnjdaa", sum := "675a32d866f230552c7d116beeb65adbc6bebaf9ebe34744cd576f6a54a900f5", func := "outpost/outpostlaw17.BucketdecDecodes", spec := "bucketdecDecodes", unfollowed := true, recurses := true, apart := false, narrowed := true }
def BucketdecDecodesUptoSaid : Prop := bucketdecDecodesUptoRow.holds Try.pinned (OpenSpec.upto bucketdecDecodesSpec)

/-- 'outpostlaw17.BucketdecOwn', WHERE WHAT IT READS IS OF BULK AT MOST 1048576: true; the input reads as it did. -/
def bucketdecOwnUptoRow : OpenClaim := { program := "ytnjmplapjnnjdaa", sum := "675a32d866f230552c7d116beeb65adbc6bebaf9ebe34744cd576f6a54a900f5", func := "outpost/outpostlaw17.BucketdecOwn", spec := "bucketdecOwn", unfollowed := true, recurses := true, apart := false, narrowed := true }
def BucketdecOwnUptoSaid : Prop := bucketdecOwnUptoRow.holds Try.pinned (OpenSpec.upto bucketdecOwnSpec)

/-- 'outpostlaw17.BucketdecClean', WHERE WHAT IT READS IS OF BULK AT MOST 1048576: true; the input reads as it did. -/
def bucketdecCleanUptoRow : OpenClaim := { program := "ytnjmplapjnnjdaa", sum := "675a32d866f230552c7d116beeb65adbc6bebaf9ebe34744cd576f6a54a900f5", func := "outpost/outpostlaw17.BucketdecClean", spec := "bucketdecClean", unfollowed := true, recurses := true, apart := false, narrowed := true }
def BucketdecCleanUptoSaid : Prop := bucketdecCleanUptoRow.holds Try.pinned (OpenSpec.upto bucketdecCleanSpec)

/-- 'outpostlaw17.BucketdecTwo', WHERE WHAT IT READS IS OF BULK AT MOST 1048576: true; the input reads as it did. -/
def bucketdecTwoUptoRow : OpenClaim := { program := "ytnjmplapjnnjdaa", sum := "675a32d866f230552c7d116beeb65adbc6bebaf9ebe34744cd576f6a54a900f5", func := "outpost/outpostlaw17.BucketdecTwo", spec := "bucketdecTwo", unfollowed := true, recurses := true, apart := false, narrowed := true }
def BucketdecTwoUptoSaid : Prop := bucketdecTwoUptoRow.holds Try.pinned (OpenSpec.upto bucketdecTwoSpec)

/-- 'outpostlaw17.BucketdecNil', WHERE WHAT IT READS IS OF BULK AT MOST 1048576: true; the input reads as it did. -/
def bucketdecNilUptoRow : OpenClaim := { program := "ytnjmplapjnnjdaa", sum := "675a32d866f230552c7d116beeb65adbc6bebaf9ebe34744cd576f6a54a900f5", func := "outpost/outpostlaw17.BucketdecNil", spec := "bucketdecNil", unfollowed := true, recurses := true, apart := false, narrowed := true }
def BucketdecNilUptoSaid : Prop := bucketdecNilUptoRow.holds Try.pinned (OpenSpec.upto bucketdecNilSpec)

/-- 'outpostlaw17.BucketdecPieces', WHERE WHAT IT READS IS OF BULK AT MOST 1048576: true; the input reads as it did. -/
def bucketdecPiecesUptoRow : OpenClaim := { program := "ytnjmplapjnnjdaa", sum := "675a32d866f230552c7d116beeb65adbc6bebaf9ebe34744cd576f6a54a900f5", func := "outpost/outpostlaw17.BucketdecPieces", spec := "bucketdecPieces", unfollowed := true, recurses := true, apart := false, narrowed := true }
def BucketdecPiecesUptoSaid : Prop := bucketdecPiecesUptoRow.holds Try.pinned (OpenSpec.upto bucketdecPiecesSpec)

/-- 'outpostlaw17.BucketdecExact', WHERE WHAT IT READS IS OF BULK AT MOST 1048576: true; the input reads as it did. -/
def bucketdecExactUptoRow : OpenClaim := { program := "ytnjmplapjnnjdaa", sum := "675a32d866f230552c7d116beeb65adbc6bebaf9ebe34744cd576f6a54a900f5", func := "outpost/outpostlaw17.BucketdecExact", spec := "bucketdecExact", unfollowed := true, recurses := true, apart := false, narrowed := true }
def BucketdecExactUptoSaid : Prop := bucketdecExactUptoRow.holds Try.pinned (OpenSpec.upto bucketdecExactSpec)

/-- 'outpostlaw17.BucketdecErased', WHERE WHAT IT READS IS OF BULK AT MOST 1048576: true; the input reads as it did. -/
def bucketdecErasedUptoRow : OpenClaim := { program := "ytnjmplapjnnjdaa", sum := "675a32d866f230552c7d116beeb65adbc6bebaf9ebe34744cd576f6a54a900f5", func := "outpost/outpostlaw17.BucketdecErased", spec := "bucketdecErased", unfollowed := true, recurses := true, apart := false, narrowed := true }
def BucketdecErasedUptoSaid : Prop := bucketdecErasedUptoRow.holds Try.pinned (OpenSpec.upto bucketdecErasedSpec)

end Rows
end Go.Proofs.Ytnjmplapjnnjdaa
