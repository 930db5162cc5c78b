/- The walks of a tree's looks: the program's. -/
import Derived.Test.YtiiljecocajdpaaKids
namespace Go.Proofs.Ytiiljecocajdpaa
open Go.RowKit

theorem neq_nilFunc {P : Program} {t : TypeId} {d : TypeDesc} (hu : P.underlying t = some d) (hd : (match d with | .func .. => true | _ => false) = true) (f : Fn) (a b : Array Value) (w : World) : (binOp .neq t (.func f a b) .nilFunc).run P w = .ok (.bool true) w := by
  cases d <;> simp at hd
  simp only [binOp, Op.equal]
  rw [Sem.run_bind, show Op.maxDepth = 9999 + 1 from rfl, Op.equalIn, Sem.run_bind, run_underlying hu]
  simp [Sem.run_pure]
set_option maxRecDepth 5000 in
theorem tree_good (p : Pb) {tb pb rb g c : Nat} (w : World) (hT : TreeIn w p tb pb rb g c) : Pure Try.prog 62 #[.pointer (some ⟨tb, 0, none⟩)] w (.bool true) := by
  have t2 := hT.tree.cell 2
  simp only [treeCells, List.getElem?_toArray, List.getElem?_cons_zero, List.getElem?_cons_succ] at t2
  have hne := neq_nilFunc (P := Try.prog) Try.underlying85 rfl (.func 58) #[] #[.pointer (some ⟨pb, 0, none⟩), .pointer (some ⟨rb, 0, none⟩)]
  go_enter Try.func62, Try.ntmps62
  go_wp2
  go_ret
  exact ⟨rfl, Below.refl _ _⟩
theorem tree_Steps (p : Pb) {tb pb rb g c : Nat} (w : World) (hT : TreeIn w p tb pb rb g c) : Pure Try.prog 20 #[.pointer (some ⟨tb, 0, none⟩)] w (.int .i64 p.N) := by
  go_enter Try.func20, Try.ntmps20
  go_wp2_with fail
  refine (tree_good p _ hT).mono ?_
  rintro e w1 ⟨rfl, B1⟩
  have t0 := (hT.kept B1).tree.cell 0
  simp only [treeCells, List.getElem?_toArray, List.getElem?_cons_zero, List.getElem?_cons_succ] at t0
  go_wp2
  go_ret
  exact ⟨rfl, B1⟩
theorem tree_Range (p : Pb) {tb pb rb g c : Nat} (w : World) (hT : TreeIn w p tb pb rb g c) : Pure Try.prog 35 #[.pointer (some ⟨tb, 0, none⟩)] w (.tuple #[.int .i64 (min (p.C.R * p.N * p.T.lo) 0), .int .i64 (max (p.C.R * p.N * p.T.hi) 0)]) := by
  go_enter Try.func35, Try.ntmps35
  go_wp2_with fail
  refine (tree_good p _ hT).mono ?_
  rintro e w1 ⟨rfl, B1⟩
  have t3 := (hT.kept B1).tree.cell 3
  have t4 := (hT.kept B1).tree.cell 4
  simp only [treeCells, List.getElem?_toArray, List.getElem?_cons_zero, List.getElem?_cons_succ] at t3 t4
  go_wp2_with fail
  refine wp_region_kept (by kernel_rfl) (by kernel_rfl) ?_
  have q3 := KeptW.cell t3
  have q4 := KeptW.cell t4
  repeat go_big_quiet_step (fail)
  refine wpQuiet_nil ?_
  intro w2 B2
  go_wp2
  go_ret2
  exact ⟨rfl, B1.trans (B2.mono B1.size)⟩
theorem tree_Leaf (p : Pb) {tb pb rb g c : Nat} (n : Nd) (w : World) (hT : TreeIn w p tb pb rb g c) : Pure Try.prog 40 #[.pointer (some ⟨tb, 0, none⟩), .agg n.cells] w (.bool (n.d == p.N)) := by
  go_enter Try.func40, Try.ntmps40
  go_upto_region 1 with (fail)
  refine name1 ?_
  intro w0 b3 B0
  have hT0 := hT.kept B0
  have t0 := hT0.tree.cell 0
  have m1 := b3.cell 1
  simp only [treeCells, Nd.cells, nodeCells, List.getElem?_toArray, List.getElem?_cons_zero, List.getElem?_cons_succ] at t0 m1
  refine wp_region_det (by kernel_rfl) (by kernel_rfl) ?_
  have q0 := KeptW.cell t0
  have q1 := KeptW.cell m1
  clear t0 m1
  repeat first
    | ((with_reducible apply det_nilG); rfl; rfl; (simp only [List.set_cons_zero, List.set_cons_succ]; rfl))
    | ((with_reducible apply det_call); rfl; infer_instance; rfl; (intro w1 B1; exact tree_good p _ (hT0.kept B1)); (simp only [List.set_cons_zero, List.set_cons_succ]; rfl))
    | ((refine det_plain rfl ?_); (go_big_quiet_step (fail)); (refine wpQuiet_nil ?_))
  refine wpDet_nil ?_
  intro w1 B1
  go_wp2
  go_ret
  exact ⟨rfl, B0.trans (B1.mono B0.size)⟩
end Go.Proofs.Ytiiljecocajdpaa
