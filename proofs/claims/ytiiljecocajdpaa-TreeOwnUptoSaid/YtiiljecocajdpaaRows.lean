/-
  No cell of these rows narrows 'for every input' (looked for: loops, veiled, ifaces, maps, wideKeys, modest, calm, conditions, laid).
  DERIVED. THE GIVEN ROWS OF THIS SEAT. 14 by the template 'for every input the law returns true; each argument reads behind the call as it read before'; 0 by the template 'total and deterministic' (their statements: YtiiljecocajdpaaTotals.lean).
  GIVEN WITH THE SEED: the statements are not yours to turn. If you find one false, say at which input.
  Laid BY PROGRAM, IN A SANDBOX (cutbox-rows.mjs): the forced cells as the released guide's own fill.sh prints them over the translation 92ab483f389ceb1d… (all of the seat's roots in one cut). By AI agents, Wed Nov 11 2026. No macro, syntax, notation, axiom, sorry.
-/
import Derived.Test.YtiiljecocajdpaaChecked
import GoSem.Claim
import GoSem.ClaimJoined
import GoSem.ClaimMapViews
import Derived.JoinedTies
import Derived.KernelRfl
namespace Go.Proofs.Ytiiljecocajdpaa
/- THE CELL 'sum', in the pinned program and in every row, IS THE sha256 OF THE DUMP (.gsa) THAT YtiiljecocajdpaaProg.lean LOADS. Nothing in Lean hashes anything: it is a label: what it is worth is what the hold of that sum in a sandbox is worth. -/
noncomputable def Try.pinned : Pinned := { name := "ytiiljecocajdpaa", sum := "92ab483f389ceb1dc4cf3a74a89eb734c99b4966c6c50da0d6f0661808caa852", checked := Try.checked }
namespace Rows
def none {H : Type} : Left H := { results := [], args := [] }

/-- 'outpostlaw15.TreeTail': WHATEVER THE INPUT: true; the input reads as it did. -/
def treeTailSpec : ChangeSpec := { name := "treeTail", fn := fun _ => fun
  | [d1, d2] => { results := [.lit (.bool true)], args := [d1, d2] }
  | _ => none }
def treeTailRow : OpenClaim := { program := "ytiiljecocajdpaa", sum := "92ab483f389ceb1dc4cf3a74a89eb734c99b4966c6c50da0d6f0661808caa852", func := "outpost/outpostlaw15.TreeTail", spec := "treeTail", unfollowed := true, recurses := true, apart := false }
def TreeTailSaid : Prop := treeTailRow.holds Try.pinned (OpenSpec.ofChange treeTailSpec)

/-- ITS FALSE NEIGHBOUR: 'it returns false'. Refute it at one input. -/
def treeTailWrong : ChangeSpec := { name := "treeTail", fn := fun _ => fun
  | [d1, d2] => { results := [.lit (.bool false)], args := [d1, d2] }
  | _ => none }
def TreeTailWrongFalsely : Prop := treeTailRow.holds Try.pinned (OpenSpec.ofChange treeTailWrong)

/-- 'outpostlaw15.TreeOwn': WHATEVER THE INPUT: true; the input reads as it did. -/
def treeOwnSpec : ChangeSpec := { name := "treeOwn", fn := fun _ => fun
  | [d1, d2] => { results := [.lit (.bool true)], args := [d1, d2] }
  | _ => none }
def treeOwnRow : OpenClaim := { program := "ytiiljecocajdpaa", sum := "92ab483f389ceb1dc4cf3a74a89eb734c99b4966c6c50da0d6f0661808caa852", func := "outpost/outpostlaw15.TreeOwn", spec := "treeOwn", unfollowed := true, recurses := true, apart := false }
def TreeOwnSaid : Prop := treeOwnRow.holds Try.pinned (OpenSpec.ofChange treeOwnSpec)

/-- ITS FALSE NEIGHBOUR: 'it returns false'. Refute it at one input. -/
def treeOwnWrong : ChangeSpec := { name := "treeOwn", fn := fun _ => fun
  | [d1, d2] => { results := [.lit (.bool false)], args := [d1, d2] }
  | _ => none }
def TreeOwnWrongFalsely : Prop := treeOwnRow.holds Try.pinned (OpenSpec.ofChange treeOwnWrong)

/-- 'outpostlaw11.ScoreChecks': WHATEVER THE INPUT: true; the input reads as it did. -/
def scoreChecksSpec : ChangeSpec := { name := "scoreChecks", fn := fun _ => fun
  | [d] => { results := [.lit (.bool true)], args := [d] }
  | _ => none }
def scoreChecksRow : OpenClaim := { program := "ytiiljecocajdpaa", sum := "92ab483f389ceb1dc4cf3a74a89eb734c99b4966c6c50da0d6f0661808caa852", func := "outpost/outpostlaw11.ScoreChecks", spec := "scoreChecks", unfollowed := true, recurses := true, apart := false }
def ScoreChecksSaid : Prop := scoreChecksRow.holds Try.pinned (OpenSpec.ofChange scoreChecksSpec)

/-- ITS FALSE NEIGHBOUR: 'it returns false'. Refute it at one input. -/
def scoreChecksWrong : ChangeSpec := { name := "scoreChecks", fn := fun _ => fun
  | [d] => { results := [.lit (.bool false)], args := [d] }
  | _ => none }
def ScoreChecksWrongFalsely : Prop := scoreChecksRow.holds Try.pinned (OpenSpec.ofChange scoreChecksWrong)

/-- 'outpostlaw15.TreeKids': WHATEVER THE INPUT: true; the input reads as it did. -/
def treeKidsSpec : ChangeSpec := { name := "treeKids", fn := fun _ => fun
  | [d1, d2] => { results := [.lit (.bool true)], args := [d1, d2] }
  | _ => none }
def treeKidsRow : OpenClaim := { program := "ytiiljecocajdpaa", sum := "92ab483f389ceb1dc4cf3a74a89eb734c99b4966c6c50da0d6f0661808caa852", func := "outpost/outpostlaw15.TreeKids", spec := "treeKids", unfollowed := true, recurses := true, apart := false }
def TreeKidsSaid : Prop := treeKidsRow.holds Try.pinned (OpenSpec.ofChange treeKidsSpec)

/-- ITS FALSE NEIGHBOUR: 'it returns false'. Refute it at one input. -/
def treeKidsWrong : ChangeSpec := { name := "treeKids", fn := fun _ => fun
  | [d1, d2] => { results := [.lit (.bool false)], args := [d1, d2] }
  | _ => none }
def TreeKidsWrongFalsely : Prop := treeKidsRow.holds Try.pinned (OpenSpec.ofChange treeKidsWrong)

/-- 'outpostlaw11.ScoreFloors': WHATEVER THE INPUT: true; the input reads as it did. -/
def scoreFloorsSpec : ChangeSpec := { name := "scoreFloors", fn := fun _ => fun
  | [d1, d2] => { results := [.lit (.bool true)], args := [d1, d2] }
  | _ => none }
def scoreFloorsRow : OpenClaim := { program := "ytiiljecocajdpaa", sum := "92ab483f389ceb1dc4cf3a74a89eb734c99b4966c6c50da0d6f0661808caa852", func := "outpost/outpostlaw11.ScoreFloors", spec := "scoreFloors", unfollowed := true, recurses := true, apart := false }
def ScoreFloorsSaid : Prop := scoreFloorsRow.holds Try.pinned (OpenSpec.ofChange scoreFloorsSpec)

/-- ITS FALSE NEIGHBOUR: 'it returns false'. Refute it at one input. -/
def scoreFloorsWrong : ChangeSpec := { name := "scoreFloors", fn := fun _ => fun
  | [d1, d2] => { results := [.lit (.bool false)], args := [d1, d2] }
  | _ => none }
def ScoreFloorsWrongFalsely : Prop := scoreFloorsRow.holds Try.pinned (OpenSpec.ofChange scoreFloorsWrong)

/-- 'outpostlaw11.ScoreOrder': WHATEVER THE INPUT: true; the input reads as it did. -/
def scoreOrderSpec : ChangeSpec := { name := "scoreOrder", fn := fun _ => fun
  | [d1, d2, d3, d4] => { results := [.lit (.bool true)], args := [d1, d2, d3, d4] }
  | _ => none }
def scoreOrderRow : OpenClaim := { program := "ytiiljecocajdpaa", sum := "92ab483f389ceb1dc4cf3a74a89eb734c99b4966c6c50da0d6f0661808caa852", func := "outpost/outpostlaw11.ScoreOrder", spec := "scoreOrder", unfollowed := true, recurses := true, apart := false }
def ScoreOrderSaid : Prop := scoreOrderRow.holds Try.pinned (OpenSpec.ofChange scoreOrderSpec)

/-- ITS FALSE NEIGHBOUR: 'it returns false'. Refute it at one input. -/
def scoreOrderWrong : ChangeSpec := { name := "scoreOrder", fn := fun _ => fun
  | [d1, d2, d3, d4] => { results := [.lit (.bool false)], args := [d1, d2, d3, d4] }
  | _ => none }
def ScoreOrderWrongFalsely : Prop := scoreOrderRow.holds Try.pinned (OpenSpec.ofChange scoreOrderWrong)

/-- 'outpostlaw11.ScoreOneLevel': WHATEVER THE INPUT: true; the input reads as it did. -/
def scoreOneLevelSpec : ChangeSpec := { name := "scoreOneLevel", fn := fun _ => fun
  | [d1, d2, d3, d4] => { results := [.lit (.bool true)], args := [d1, d2, d3, d4] }
  | _ => none }
def scoreOneLevelRow : OpenClaim := { program := "ytiiljecocajdpaa", sum := "92ab483f389ceb1dc4cf3a74a89eb734c99b4966c6c50da0d6f0661808caa852", func := "outpost/outpostlaw11.ScoreOneLevel", spec := "scoreOneLevel", unfollowed := true, recurses := true, apart := false }
def ScoreOneLevelSaid : Prop := scoreOneLevelRow.holds Try.pinned (OpenSpec.ofChange scoreOneLevelSpec)

/-- ITS FALSE NEIGHBOUR: 'it returns false'. Refute it at one input. -/
def scoreOneLevelWrong : ChangeSpec := { name := "scoreOneLevel", fn := fun _ => fun
  | [d1, d2, d3, d4] => { results := [.lit (.bool false)], args := [d1, d2, d3, d4] }
  | _ => none }
def ScoreOneLevelWrongFalsely : Prop := scoreOneLevelRow.holds Try.pinned (OpenSpec.ofChange scoreOneLevelWrong)

/-- 'outpostlaw11.ScoreOwn': WHATEVER THE INPUT: true; the input reads as it did. -/
def scoreOwnSpec : ChangeSpec := { name := "scoreOwn", fn := fun _ => fun
  | [d1, d2] => { results := [.lit (.bool true)], args := [d1, d2] }
  | _ => none }
def scoreOwnRow : OpenClaim := { program := "ytiiljecocajdpaa", sum := "92ab483f389ceb1dc4cf3a74a89eb734c99b4966c6c50da0d6f0661808caa852", func := "outpost/outpostlaw11.ScoreOwn", spec := "scoreOwn", unfollowed := true, recurses := true, apart := false }
def ScoreOwnSaid : Prop := scoreOwnRow.holds Try.pinned (OpenSpec.ofChange scoreOwnSpec)

/-- ITS FALSE NEIGHBOUR: 'it returns false'. Refute it at one input. -/
def scoreOwnWrong : ChangeSpec := { name := "scoreOwn", fn := fun _ => fun
  | [d1, d2] => { results := [.lit (.bool false)], args := [d1, d2] }
  | _ => none }
def ScoreOwnWrongFalsely : Prop := scoreOwnRow.holds Try.pinned (OpenSpec.ofChange scoreOwnWrong)

/-- 'outpostlaw15.TreeCounts': WHATEVER THE INPUT: true; the input reads as it did. -/
def treeCountsSpec : ChangeSpec := { name := "treeCounts", fn := fun _ => fun
  | [d1, d2, d3] => { results := [.lit (.bool true)], args := [d1, d2, d3] }
  | _ => none }
def treeCountsRow : OpenClaim := { program := "ytiiljecocajdpaa", sum := "92ab483f389ceb1dc4cf3a74a89eb734c99b4966c6c50da0d6f0661808caa852", func := "outpost/outpostlaw15.TreeCounts", spec := "treeCounts", unfollowed := true, recurses := true, apart := false }
def TreeCountsSaid : Prop := treeCountsRow.holds Try.pinned (OpenSpec.ofChange treeCountsSpec)

/-- ITS FALSE NEIGHBOUR: 'it returns false'. Refute it at one input. -/
def treeCountsWrong : ChangeSpec := { name := "treeCounts", fn := fun _ => fun
  | [d1, d2, d3] => { results := [.lit (.bool false)], args := [d1, d2, d3] }
  | _ => none }
def TreeCountsWrongFalsely : Prop := treeCountsRow.holds Try.pinned (OpenSpec.ofChange treeCountsWrong)

/-- 'outpostlaw15.TreeRises': WHATEVER THE INPUT: true; the input reads as it did. -/
def treeRisesSpec : ChangeSpec := { name := "treeRises", fn := fun _ => fun
  | [d1, d2, d3, d4] => { results := [.lit (.bool true)], args := [d1, d2, d3, d4] }
  | _ => none }
def treeRisesRow : OpenClaim := { program := "ytiiljecocajdpaa", sum := "92ab483f389ceb1dc4cf3a74a89eb734c99b4966c6c50da0d6f0661808caa852", func := "outpost/outpostlaw15.TreeRises", spec := "treeRises", unfollowed := true, recurses := true, apart := false }
def TreeRisesSaid : Prop := treeRisesRow.holds Try.pinned (OpenSpec.ofChange treeRisesSpec)

/-- ITS FALSE NEIGHBOUR: 'it returns false'. Refute it at one input. -/
def treeRisesWrong : ChangeSpec := { name := "treeRises", fn := fun _ => fun
  | [d1, d2, d3, d4] => { results := [.lit (.bool false)], args := [d1, d2, d3, d4] }
  | _ => none }
def TreeRisesWrongFalsely : Prop := treeRisesRow.holds Try.pinned (OpenSpec.ofChange treeRisesWrong)

/-- 'outpostlaw15.TreeNil': WHATEVER THE INPUT: true; the input reads as it did. -/
def treeNilSpec : ChangeSpec := { name := "treeNil", fn := fun _ => fun
  | [d1, d2, d3] => { results := [.lit (.bool true)], args := [d1, d2, d3] }
  | _ => none }
def treeNilRow : OpenClaim := { program := "ytiiljecocajdpaa", sum := "92ab483f389ceb1dc4cf3a74a89eb734c99b4966c6c50da0d6f0661808caa852", func := "outpost/outpostlaw15.TreeNil", spec := "treeNil", unfollowed := true, recurses := true, apart := false }
def TreeNilSaid : Prop := treeNilRow.holds Try.pinned (OpenSpec.ofChange treeNilSpec)

/-- ITS FALSE NEIGHBOUR: 'it returns false'. Refute it at one input. -/
def treeNilWrong : ChangeSpec := { name := "treeNil", fn := fun _ => fun
  | [d1, d2, d3] => { results := [.lit (.bool false)], args := [d1, d2, d3] }
  | _ => none }
def TreeNilWrongFalsely : Prop := treeNilRow.holds Try.pinned (OpenSpec.ofChange treeNilWrong)

/-- 'outpostlaw11.ScorePaths': WHATEVER THE INPUT: true; the input reads as it did. -/
def scorePathsSpec : ChangeSpec := { name := "scorePaths", fn := fun _ => fun
  | [d1, d2] => { results := [.lit (.bool true)], args := [d1, d2] }
  | _ => none }
def scorePathsRow : OpenClaim := { program := "ytiiljecocajdpaa", sum := "92ab483f389ceb1dc4cf3a74a89eb734c99b4966c6c50da0d6f0661808caa852", func := "outpost/outpostlaw11.ScorePaths", spec := "scorePaths", unfollowed := true, recurses := true, apart := false }
def ScorePathsSaid : Prop := scorePathsRow.holds Try.pinned (OpenSpec.ofChange scorePathsSpec)

/-- ITS FALSE NEIGHBOUR: 'it returns false'. Refute it at one input. -/
def scorePathsWrong : ChangeSpec := { name := "scorePaths", fn := fun _ => fun
  | [d1, d2] => { results := [.lit (.bool false)], args := [d1, d2] }
  | _ => none }
def ScorePathsWrongFalsely : Prop := scorePathsRow.holds Try.pinned (OpenSpec.ofChange scorePathsWrong)

/-- 'outpostlaw15.TreeClean': WHATEVER THE INPUT: true; the input reads as it did. -/
def treeCleanSpec : ChangeSpec := { name := "treeClean", fn := fun _ => fun
  | [d] => { results := [.lit (.bool true)], args := [d] }
  | _ => none }
def treeCleanRow : OpenClaim := { program := "ytiiljecocajdpaa", sum := "92ab483f389ceb1dc4cf3a74a89eb734c99b4966c6c50da0d6f0661808caa852", func := "outpost/outpostlaw15.TreeClean", spec := "treeClean", unfollowed := true, recurses := true, apart := false }
def TreeCleanSaid : Prop := treeCleanRow.holds Try.pinned (OpenSpec.ofChange treeCleanSpec)

/-- ITS FALSE NEIGHBOUR: 'it returns false'. Refute it at one input. -/
def treeCleanWrong : ChangeSpec := { name := "treeClean", fn := fun _ => fun
  | [d] => { results := [.lit (.bool false)], args := [d] }
  | _ => none }
def TreeCleanWrongFalsely : Prop := treeCleanRow.holds Try.pinned (OpenSpec.ofChange treeCleanWrong)

/-- 'outpostlaw15.TreeWays': WHATEVER THE INPUT: true; the input reads as it did. -/
def treeWaysSpec : ChangeSpec := { name := "treeWays", fn := fun _ => fun
  | [d1, d2] => { results := [.lit (.bool true)], args := [d1, d2] }
  | _ => none }
def treeWaysRow : OpenClaim := { program := "ytiiljecocajdpaa", sum := "92ab483f389ceb1dc4cf3a74a89eb734c99b4966c6c50da0d6f0661808caa852", func := "outpost/outpostlaw15.TreeWays", spec := "treeWays", unfollowed := true, recurses := true, apart := false }
def TreeWaysSaid : Prop := treeWaysRow.holds Try.pinned (OpenSpec.ofChange treeWaysSpec)

/-- ITS FALSE NEIGHBOUR: 'it returns false'. Refute it at one input. -/
def treeWaysWrong : ChangeSpec := { name := "treeWays", fn := fun _ => fun
  | [d1, d2] => { results := [.lit (.bool false)], args := [d1, d2] }
  | _ => none }
def TreeWaysWrongFalsely : Prop := treeWaysRow.holds Try.pinned (OpenSpec.ofChange treeWaysWrong)

/- THE SECOND FORM. 'bulk': how many values and letters a reading holds, each counted each time it is reached (what is shared counts as often as it is met; a slice's spare places count too). A statement '..UptoSaid' is the law's where the arguments, and the package variables that the reading takes, are together of bulk at most 1048576: NARROWER than '..Said'. Prove '..Said' where nothing that the law and all that it calls make is longer than what came in: it says more and counts as full. Else prove '..UptoSaid'. A law counts once. -/
mutual
def uptoBulk {H : Type} : DataW H → Nat
  | .lit (.string bytes) => bytes.length + 1
  | .lit _ => 1
  | .nil => 1
  | .ptr d => uptoBulk d + 1
  | .slice elems spare => uptoBulkAll elems + uptoBulkAll spare + 1
  | .agg parts => uptoBulkAll parts + 1
  | .iface _ d => uptoBulk d + 1
  | .map entries => uptoBulkEntries entries + 1
  | .held _ => 1
def uptoBulkAll {H : Type} : List (DataW H) → Nat
  | [] => 0
  | d :: r => uptoBulk d + uptoBulkAll r
def uptoBulkEntries {H : Type} : List (Lit × DataW H) → Nat
  | [] => 0
  | x :: r => uptoBulkEntry x + uptoBulkEntries r
def uptoBulkEntry {H : Type} : Lit × DataW H → Nat
  | (.string bytes, d) => bytes.length + uptoBulk d + 1
  | (_, d) => uptoBulk d + 1
 end
def uptoSmall : (H : Type) → List (DataW H) → Bool := fun _ ds => decide (uptoBulkAll ds ≤ 1048576)
def OpenSpec.upto (s : _root_.Go.ChangeSpec) : _root_.Go.OpenSpec := { _root_.Go.OpenSpec.ofChange s with cond := some uptoSmall }

/-- 'outpostlaw15.TreeTail', WHERE WHAT IT READS IS OF BULK AT MOST 1048576: true; the input reads as it did. -/
def treeTailUptoRow : OpenClaim := { program := "ytiiljecocajdpaa", sum := "92ab483f389ceb1dc4cf3a74a89eb734c99b4966c6c50da0d6f0661808caa852", func := "outpost/outpostlaw15.TreeTail", spec := "treeTail", unfollowed := true, recurses := true, apart := false, narrowed := true }
def TreeTailUptoSaid : Prop := treeTailUptoRow.holds Try.pinned (OpenSpec.upto treeTailSpec)

/-- 'outpostlaw15.TreeOwn', WHERE WHAT IT READS IS OF BULK AT MOST 1048576: true; the input reads as it did. -/
def treeOwnUptoRow : OpenClaim := { program := "ytiiljecocajdpaa", sum := "92ab483f389ceb1dc4cf3a74a89eb734c99b4966c6c50da0d6f0661808caa852", func := "outpost/outpostlaw15.TreeOwn", spec := "treeOwn", unfollowed := true, recurses := true, apart := false, narrowed := true }
def TreeOwnUptoSaid : Prop := treeOwnUptoRow.holds Try.pinned (OpenSpec.upto treeOwnSpec)

/-- 'outpostlaw11.ScoreChecks', WHERE WHAT IT READS IS OF BULK AT MOST 1048576: true; the input reads as it did. -/
def scoreChecksUptoRow : OpenClaim := { program := "ytiiljecocajdpaa", sum := "92ab483f389ceb1dc4cf3a74a89eb734c99b4966c6c50da0d6f0661808caa852", func := "outpost/outpostlaw11.ScoreChecks", spec := "scoreChecks", unfollowed := true, recurses := true, apart := false, narrowed := true }
def ScoreChecksUptoSaid : Prop := scoreChecksUptoRow.holds Try.pinned (OpenSpec.upto scoreChecksSpec)

/-- 'outpostlaw15.TreeKids', WHERE WHAT IT READS IS OF BULK AT MOST 1048576: true; the input reads as it did. -/
def treeKidsUptoRow : OpenClaim := { program := "ytiiljecocajdpaa", sum := "92ab483f389ceb1dc4cf3a74a89eb734c99b4966c6c50da0d6f0661808caa852", func := "outpost/outpostlaw15.TreeKids", spec := "treeKids", unfollowed := true, recurses := true, apart := false, narrowed := true }
def TreeKidsUptoSaid : Prop := treeKidsUptoRow.holds Try.pinned (OpenSpec.upto treeKidsSpec)

/-- 'outpostlaw11.ScoreFloors', WHERE WHAT IT READS IS OF BULK AT MOST 1048576: true; the input reads as it did. -/
def scoreFloorsUptoRow : OpenClaim := { program := "ytiiljecocajdpaa", sum := "92ab483f389ceb1dc4cf3a74a89eb734c99b4966c6c50da0d6f0661808caa852", func := "outpost/outpostlaw11.ScoreFloors", spec := "scoreFloors", unfollowed := true, recurses := true, apart := false, narrowed := true }
def ScoreFloorsUptoSaid : Prop := scoreFloorsUptoRow.holds Try.pinned (OpenSpec.upto scoreFloorsSpec)

/-- 'outpostlaw11.ScoreOrder', WHERE WHAT IT READS IS OF BULK AT MOST 1048576: true; the input reads as it did. -/
def scoreOrderUptoRow : OpenClaim := { program := "ytiiljecocajdpaa", sum := "92ab483f389ceb1dc4cf3a74a89eb734c99b4966c6c50da0d6f0661808caa852", func := "outpost/outpostlaw11.ScoreOrder", spec := "scoreOrder", unfollowed := true, recurses := true, apart := false, narrowed := true }
def ScoreOrderUptoSaid : Prop := scoreOrderUptoRow.holds Try.pinned (OpenSpec.upto scoreOrderSpec)

/-- 'outpostlaw11.ScoreOneLevel', WHERE WHAT IT READS IS OF BULK AT MOST 1048576: true; the input reads as it did. -/
def scoreOneLevelUptoRow : OpenClaim := { program := "ytiiljecocajdpaa", sum := "92ab483f389ceb1dc4cf3a74a89eb734c99b4966c6c50da0d6f0661808caa852", func := "outpost/outpostlaw11.ScoreOneLevel", spec := "scoreOneLevel", unfollowed := true, recurses := true, apart := false, narrowed := true }
def ScoreOneLevelUptoSaid : Prop := scoreOneLevelUptoRow.holds Try.pinned (OpenSpec.upto scoreOneLevelSpec)

/-- 'outpostlaw11.ScoreOwn', WHERE WHAT IT READS IS OF BULK AT MOST 1048576: true; the input reads as it did. -/
def scoreOwnUptoRow : OpenClaim := { program := "ytiiljecocajdpaa", sum := "92ab483f389ceb1dc4cf3a74a89eb734c99b4966c6c50da0d6f0661808caa852", func := "outpost/outpostlaw11.ScoreOwn", spec := "scoreOwn", unfollowed := true, recurses := true, apart := false, narrowed := true }
def ScoreOwnUptoSaid : Prop := scoreOwnUptoRow.holds Try.pinned (OpenSpec.upto scoreOwnSpec)

/-- 'outpostlaw15.TreeCounts', WHERE WHAT IT READS IS OF BULK AT MOST 1048576: true; the input reads as it did. -/
def treeCountsUptoRow : OpenClaim := { program := "ytiiljecocajdpaa", sum := "92ab483f389ceb1dc4cf3a74a89eb734c99b4966c6c50da0d6f0661808caa852", func := "outpost/outpostlaw15.TreeCounts", spec := "treeCounts", unfollowed := true, recurses := true, apart := false, narrowed := true }
def TreeCountsUptoSaid : Prop := treeCountsUptoRow.holds Try.pinned (OpenSpec.upto treeCountsSpec)

/-- 'outpostlaw15.TreeRises', WHERE WHAT IT READS IS OF BULK AT MOST 1048576: true; the input reads as it did. -/
def treeRisesUptoRow : OpenClaim := { program := "ytiiljecocajdpaa", sum := "92ab483f389ceb1dc4cf3a74a89eb734c99b4966c6c50da0d6f0661808caa852", func := "outpost/outpostlaw15.TreeRises", spec := "treeRises", unfollowed := true, recurses := true, apart := false, narrowed := true }
def TreeRisesUptoSaid : Prop := treeRisesUptoRow.holds Try.pinned (OpenSpec.upto treeRisesSpec)

/-- 'outpostlaw15.TreeNil', WHERE WHAT IT READS IS OF BULK AT MOST 1048576: true; the input reads as it did. -/
def treeNilUptoRow : OpenClaim := { program := "ytiiljecocajdpaa", sum := "92ab483f389ceb1dc4cf3a74a89eb734c99b4966c6c50da0d6f0661808caa852", func := "outpost/outpostlaw15.TreeNil", spec := "treeNil", unfollowed := true, recurses := true, apart := false, narrowed := true }
def TreeNilUptoSaid : Prop := treeNilUptoRow.holds Try.pinned (OpenSpec.upto treeNilSpec)

/-- 'outpostlaw11.ScorePaths', WHERE WHAT IT READS IS OF BULK AT MOST 1048576: true; the input reads as it did. -/
def scorePathsUptoRow : OpenClaim := { program := "ytiiljecocajdpaa", sum := "92ab483f389ceb1dc4cf3a74a89eb734c99b4966c6c50da0d6f0661808caa852", func := "outpost/outpostlaw11.ScorePaths", spec := "scorePaths", unfollowed := true, recurses := true, apart := false, narrowed := true }
def ScorePathsUptoSaid : Prop := scorePathsUptoRow.holds Try.pinned (OpenSpec.upto scorePathsSpec)

/-- 'outpostlaw15.TreeClean', WHERE WHAT IT READS IS OF BULK AT MOST 1048576: true; the input reads as it did. -/
def treeCleanUptoRow : OpenClaim := { program := "ytiiljecocajdpaa", sum := "92ab483f389ceb1dc4cf3a74a89eb734c99b4966c6c50da0d6f0661808caa852", func := "outpost/outpostlaw15.TreeClean", spec := "treeClean", unfollowed := true, recurses := true, apart := false, narrowed := true }
def TreeCleanUptoSaid : Prop := treeCleanUptoRow.holds Try.pinned (OpenSpec.upto treeCleanSpec)

/-- 'outpostlaw15.TreeWays', WHERE WHAT IT READS IS OF BULK AT MOST 1048576: true; the input reads as it did. -/
def treeWaysUptoRow : OpenClaim := { program := "ytiiljecocajdpaa", sum := "92ab483f389ceb1dc4cf3a74a89eb734c99b4966c6c50da0d6f0661808caa852", func := "outpost/outpostlaw15.TreeWays", spec := "treeWays", unfollowed := true, recurses := true, apart := false, narrowed := true }
def TreeWaysUptoSaid : Prop := treeWaysUptoRow.holds Try.pinned (OpenSpec.upto treeWaysSpec)

end Rows
end Go.Proofs.Ytiiljecocajdpaa
