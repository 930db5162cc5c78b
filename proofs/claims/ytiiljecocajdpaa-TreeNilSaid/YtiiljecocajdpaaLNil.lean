/- The walk of the statement on no tree. -/
import Derived.Test.YtiiljecocajdpaaQuietG
namespace Go.Proofs.Ytiiljecocajdpaa
open Go.RowKit

set_option maxRecDepth 5000 in
set_option maxHeartbeats 2000000 in
theorem law15_TreeNil (n : Nd) (_hn : n.Ok) (dip : Int) (_d0 : -9223372036854775808 ≤ dip) (_d1 : dip ≤ 9223372036854775807) (most : Int) (_m0 : -9223372036854775808 ≤ most) (_m1 : most ≤ 9223372036854775807) (w : World) :
    Pure Try.prog 13 #[.agg n.cells, .int .i64 dip, .int .i64 most] w (.bool true) := by
  go_enter Try.func13, Try.ntmps13
  go_upto_region 1 with (fail)
  refine name1 ?_
  intro w0 b3 B0
  have gN := b3.load (off := 0) (n := 3) (cs' := n.cells) (Nat.le_refl _) (Array.extract_eq_self_of_le (Nat.le_refl _))
  go_upto_region 3 with (fail)
  refine nameAny (fun W => Box W w0.heap.size rawTree ∧ Below w0.heap.size w0 W) ⟨Box.new _ _ _, (Below.refl _ _).alloc (Nat.le_refl _) _⟩ ?_
  rintro w1 ⟨br, B1⟩
  have gN := (b3.kept B1).load (off := 0) (n := 3) (cs' := n.cells) (Nat.le_refl _) (Array.extract_eq_self_of_le (Nat.le_refl _))
  have B10 := bOn B0 B1
  have T0 : ∀ w, NoTree w (.pointer none) := fun w => .inl rfl
  have T1 : NoTree w1 (.pointer (some ⟨w0.heap.size, 0, none⟩)) := .inr ⟨_, rfl, br⟩
  go_wp2_with ((with_reducible apply ld); rfl; (with_reducible assumption); (simp only [List.set_cons_zero, List.set_cons_succ]; rfl))
  refine (noTree_Kids _ n _ (T0 _)).mono ?_
  rintro e w2 ⟨rfl, B2⟩
  have T2 := T1.kept B2
  have B20 := bOn B10 B2
  have gN := ((b3.kept B1).kept B2).load (off := 0) (n := 3) (cs' := n.cells) (Nat.le_refl _) (Array.extract_eq_self_of_le (Nat.le_refl _))
  go_wp2_with ((with_reducible apply ld); rfl; (with_reducible assumption); (simp only [List.set_cons_zero, List.set_cons_succ]; rfl))
  refine (noTree_Kids _ n _ T2).mono ?_
  rintro e w3 ⟨rfl, B3⟩
  have T3 := T2.kept B3
  have B30 := bOn B20 B3
  go_wp2_with fail
  refine (noTree_Range _ _ (T0 _)).mono ?_
  rintro e w4 ⟨rfl, B4⟩
  have T4 := T3.kept B4
  have B40 := bOn B30 B4
  go_wp2_with fail
  refine (noTree_Range _ _ T4).mono ?_
  rintro e w5 ⟨rfl, B5⟩
  have T5 := T4.kept B5
  have B50 := bOn B40 B5
  go_wp2_with fail
  refine (noTree_Steps _ _ (T0 _)).mono ?_
  rintro e w6 ⟨rfl, B6⟩
  have T6 := T5.kept B6
  have B60 := bOn B50 B6
  go_wp2_with fail
  refine (noTree_Steps _ _ T6).mono ?_
  rintro e w7 ⟨rfl, B7⟩
  have T7 := T6.kept B7
  have B70 := bOn B60 B7
  have b37 := ((((((b3.kept B1).kept B2).kept B3).kept B4).kept B5).kept B6).kept B7
  have bz := Box.new w7 #[.int .u32 0, .int .i64 0, .int .i64 0] 34
  go_upto_region 10 with (first | ((with_reducible apply ld); rfl; (with_reducible assumption); (simp only [List.set_cons_zero, List.set_cons_succ]; rfl)) | ((with_reducible apply stO); rfl; rfl; exact bz; rfl; rfl; exact nodeCells_flat 0 0 0; intro w8 b8 B8 ho8 hs8))
  have B87 := ((Below.refl _ w7).alloc (Nat.le_refl _) (.cells #[.int .u32 0, .int .i64 0, .int .i64 0] 34)).trans B8
  have b38 := b37.kept B87
  have T8 := T7.kept B87
  have B80 := bOn B70 B87
  have g3 := b38.load (off := 0) (n := 3) (cs' := n.cells) (Nat.le_refl _) (Array.extract_eq_self_of_le (Nat.le_refl _))
  have g8 := b8.load (off := 0) (n := 3) (cs' := (Nd.mk 0 0 0).cells) (Nat.le_refl _) rfl
  have he := eqlNode ⟨0, 0, 0⟩ ⟨0, 0, 0⟩
  rw [show (Nd.mk 0 0 0).same ⟨0, 0, 0⟩ = true from rfl] at he
  clear bz ho8 hs8 b37 b38 b8
  (refine wp_region_kept_tail 39 (by kernel_rfl) (by kernel_rfl) ?_; simp only [List.take_succ_cons, List.take_zero, List.drop_succ_cons, List.drop_zero])
  repeat first
    | go_big_quiet_skip
    | ((with_reducible apply q_ldG); rfl; rfl; (with_reducible assumption); (simp only [List.set_cons_zero, List.set_cons_succ]; rfl))
    | go_big_quiet_step (first | exact Calls.kept (tree_Root _ _) | exact Calls.kept (noTree_Leaf _ n _ (T0 _)) | exact Calls.kept (noTree_Leaf _ n _ (T8.kept (Subtype.property _))) | exact Calls.kept (noTree_Count _ ⟨fun _ h => (by cases h), fun _ h => (by cases h)⟩ dip most _ (T0 _)) | exact Calls.kept (noTree_Count _ ⟨fun _ h => (by cases h), fun _ h => (by cases h)⟩ dip most _ (T8.kept (Subtype.property _))) | exact Calls.kept (law15_knows _))
  refine wpQuiet_nil ?_
  intro w9 B9
  go_wp2
  go_ret
  exact ⟨rfl, bOn B80 B9⟩
end Go.Proofs.Ytiiljecocajdpaa
