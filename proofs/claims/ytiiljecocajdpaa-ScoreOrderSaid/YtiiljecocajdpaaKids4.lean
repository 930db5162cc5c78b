/- The walk of a tree's Kids at a node that has none: the program's. -/
import Derived.Test.YtiiljecocajdpaaKids3
namespace Go.Proofs.Ytiiljecocajdpaa
open Go.RowKit

set_option maxRecDepth 5000 in
set_option maxHeartbeats 2000000 in
theorem tree_Kids_bare (p : Pb) (h : probChk p = 0) {tb pb rb g c : Nat} (n : Nd) (s0 : 0 ≤ n.s) (s1 : n.s < 4294967296) (hn : p.bare n) (w : World) (hT : TreeIn w p tb pb rb g c) :
    Pure Try.prog 21 #[.pointer (some ⟨tb, 0, none⟩), .agg n.cells] w (.tuple #[.slice none 0 0, .slice none 0 0]) := by
  go_enter Try.func21, Try.ntmps21
  go_upto_region 1 with (fail)
  refine name1 ?_
  intro w0 b3 B0
  have hT0 := hT.kept B0
  have t0 := hT0.tree.cell 0
  have t1 := hT0.tree.cell 1
  have m0 := b3.cell 0
  have m1 := b3.cell 1
  simp only [treeCells, Nd.cells, nodeCells, List.getElem?_toArray, List.getElem?_cons_zero, List.getElem?_cons_succ] at t0 t1 m0 m1
  have hws : IntKind.u64.wrap n.s = n.s := by
    simp only [IntKind.wrap, IntKind.bits, IntKind.signed]
    simp
    omega
  by_cases c1 : n.d < 0
  · have g1 : decide (n.d < 0) = true := by simp; omega
    refine wp_region_kept (by kernel_rfl) (by kernel_rfl) ?_
    have q0 := KeptW.cell t0
    have q1 := KeptW.cell t1
    have r0 := KeptW.cell m0
    have r1 := KeptW.cell m1
    clear t0 t1 m0 m1
    repeat first
      | go_big_quiet_skip
      | ((with_reducible apply q_ld); rfl; (with_reducible assumption); (simp only [List.set_cons_zero, List.set_cons_succ]; rfl))
      | go_big_quiet_step (exact Calls.kept (tree_good p _ (hT0.kept (Subtype.property _))))
    refine wpQuiet_nil ?_
    intro w1 B1
    clear q0 q1 r0 r1 hws
    go_wp2
    go_ret2
    exact ⟨rfl, B0.trans (B1.mono B0.size)⟩
  have g1 : decide (n.d < 0) = false := by simp; omega
  by_cases c2 : p.N ≤ n.d
  · have g2 : decide (p.N ≤ n.d) = true := by simp; omega
    refine wp_region_kept (by kernel_rfl) (by kernel_rfl) ?_
    have q0 := KeptW.cell t0
    have q1 := KeptW.cell t1
    have r0 := KeptW.cell m0
    have r1 := KeptW.cell m1
    clear t0 t1 m0 m1
    repeat first
      | go_big_quiet_skip
      | ((with_reducible apply q_ld); rfl; (with_reducible assumption); (simp only [List.set_cons_zero, List.set_cons_succ]; rfl))
      | go_big_quiet_step (exact Calls.kept (tree_good p _ (hT0.kept (Subtype.property _))))
    refine wpQuiet_nil ?_
    intro w1 B1
    clear q0 q1 r0 r1 hws
    go_wp2
    go_ret2
    exact ⟨rfl, B0.trans (B1.mono B0.size)⟩
  have g2 : decide (p.N ≤ n.d) = false := by simp; omega
  have g3 : decide (2 ^ (p.C.K.toNat - 1) ≤ n.s) = true := by rcases hn with h | h | h <;> simp <;> omega
  refine wp_region_kept (by kernel_rfl) (by kernel_rfl) ?_
  have q0 := KeptW.cell t0
  have q1 := KeptW.cell t1
  have r0 := KeptW.cell m0
  have r1 := KeptW.cell m1
  clear t0 t1 m0 m1
  repeat first
    | go_big_quiet_skip
    | ((with_reducible apply q_ld); rfl; (with_reducible assumption); (simp only [List.set_cons_zero, List.set_cons_succ]; rfl))
    | go_big_quiet_step (exact Calls.kept (tree_good p _ (hT0.kept (Subtype.property _))))
  refine wpQuiet_nil ?_
  intro w1 B1
  clear q0 q1 r0 r1 hws
  go_wp2
  go_ret2
  exact ⟨rfl, B0.trans (B1.mono B0.size)⟩
end Go.Proofs.Ytiiljecocajdpaa
