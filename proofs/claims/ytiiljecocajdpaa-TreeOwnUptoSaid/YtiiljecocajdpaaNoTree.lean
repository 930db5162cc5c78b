/- The walks of a tree's looks at no tree, and at one that nobody made. -/
import Derived.Test.YtiiljecocajdpaaMore
namespace Go.Proofs.Ytiiljecocajdpaa
open Go.RowKit

theorem neq_nilFunc0 {P : Program} {t : TypeId} {d : TypeDesc} (hu : P.underlying t = some d) (hd : (match d with | .func .. => true | _ => false) = true) (w : World) : (binOp .neq t .nilFunc .nilFunc).run P w = .ok (.bool false) w := by
  cases d <;> simp at hd
  simp only [binOp, Op.equal]
  rw [Sem.run_bind, show Op.maxDepth = 9999 + 1 from rfl, Op.equalIn, Sem.run_bind, run_underlying hu]
  simp [Sem.run_pure]
/-- A tree that nobody made. -/
def rawTree : Array Value := #[.int .i64 0, .int .u64 0, .nilFunc, .int .i64 0, .int .i64 0, .int .i64 0]
/-- No tree, or one that nobody made. -/
def NoTree (w : World) (v : Value) : Prop := v = .pointer none ∨ ∃ tb, v = .pointer (some ⟨tb, 0, none⟩) ∧ Box w tb rawTree
theorem NoTree.kept {w w' : World} {v : Value} (h : NoTree w v) (hB : Below w.heap.size w w') : NoTree w' v := by
  rcases h with h | ⟨tb, h, hb⟩
  · exact .inl h
  · exact .inr ⟨tb, h, hb.kept hB⟩
theorem noTree_good (v : Value) (w : World) (hT : NoTree w v) : Pure Try.prog 62 #[v] w (.bool false) := by
  rcases hT with rfl | ⟨tb, rfl, hb⟩
  · go_enter Try.func62, Try.ntmps62
    go_wp2
    go_ret
    exact ⟨rfl, Below.refl _ _⟩
  · have t2 := hb.cell 2
    simp only [rawTree, List.getElem?_toArray, List.getElem?_cons_zero, List.getElem?_cons_succ] at t2
    have hne := neq_nilFunc0 (P := Try.prog) Try.underlying85 rfl
    go_enter Try.func62, Try.ntmps62
    go_wp2
    go_ret
    exact ⟨rfl, Below.refl _ _⟩
theorem noTree_Steps (v : Value) (w : World) (hT : NoTree w v) : Pure Try.prog 20 #[v] w (.int .i64 0) := by
  go_enter Try.func20, Try.ntmps20
  go_wp2_with fail
  refine (noTree_good v _ hT).mono ?_
  rintro e w1 ⟨rfl, B1⟩
  go_wp2
  go_ret
  exact ⟨rfl, B1⟩
theorem noTree_Range (v : Value) (w : World) (hT : NoTree w v) : Pure Try.prog 35 #[v] w (.tuple #[.int .i64 0, .int .i64 0]) := by
  go_enter Try.func35, Try.ntmps35
  go_wp2_with fail
  refine (noTree_good v _ hT).mono ?_
  rintro e w1 ⟨rfl, B1⟩
  go_wp2
  go_ret2
  exact ⟨rfl, B1⟩
theorem noTree_Leaf (v : Value) (n : Nd) (w : World) (hT : NoTree w v) : Pure Try.prog 40 #[v, .agg n.cells] w (.bool false) := by
  go_enter Try.func40, Try.ntmps40
  go_upto_region 1 with (fail)
  refine name1 ?_
  intro w0 b3 B0
  have hT0 := hT.kept B0
  (refine wp_region_kept_tail 11 (by kernel_rfl) (by kernel_rfl) ?_; simp only [List.take_succ_cons, List.take_zero, List.drop_succ_cons, List.drop_zero])
  repeat first
    | go_big_quiet_skip
    | go_big_quiet_step (exact Calls.kept (noTree_good v _ (hT0.kept (Subtype.property _))))
  refine wpQuiet_nil ?_
  intro w1 B1
  go_wp2
  go_ret
  exact ⟨rfl, bOn B0 B1⟩
theorem noTree_Kids (v : Value) (n : Nd) (w : World) (hT : NoTree w v) : Pure Try.prog 21 #[v, .agg n.cells] w (.tuple #[.slice none 0 0, .slice none 0 0]) := by
  go_enter Try.func21, Try.ntmps21
  go_upto_region 1 with (fail)
  refine name1 ?_
  intro w0 b3 B0
  have hT0 := hT.kept B0
  refine wp_region_kept (by kernel_rfl) (by kernel_rfl) ?_
  repeat first
    | go_big_quiet_skip
    | go_big_quiet_step (exact Calls.kept (noTree_good v _ (hT0.kept (Subtype.property _))))
  refine wpQuiet_nil ?_
  intro w1 B1
  go_wp2
  go_ret2
  exact ⟨rfl, bOn B0 B1⟩
theorem noTree_Count (v : Value) (hv : (∀ xs, v ≠ .agg xs) ∧ (∀ xs, v ≠ .tuple xs)) (dip most : Int) (w : World) (hT : NoTree w v) : Pure Try.prog 49 #[v, .int .i64 dip, .int .i64 most] w (.int .i64 0) := by
  go_enter Try.func49, Try.ntmps49
  go_upto_region 1 with (fail)
  refine name3 ?_
  intro w0 b3 b4 b5 B0
  have t0 := b3.cell 0
  simp only [List.getElem?_toArray, List.getElem?_cons_zero] at t0
  go_wp2_with fail
  refine (noTree_good v _ (hT.kept B0)).mono ?_
  rintro e w1 ⟨rfl, B1⟩
  go_wp2
  go_ret
  exact ⟨rfl, bOn B0 B1⟩
end Go.Proofs.Ytiiljecocajdpaa
