/- The walk of a tree's Kids: the program's. -/
import Derived.Test.YtiiljecocajdpaaKids2
namespace Go.Proofs.Ytiiljecocajdpaa
open Go.RowKit

/-- A node that has no kids. -/
def Pb.bare (p : Pb) (n : Nd) : Prop := n.d < 0 ∨ p.N ≤ n.d ∨ 2 ^ (p.C.K.toNat - 1) ≤ n.s
def Pb.kids (p : Pb) (n : Nd) : List Nd := if p.L ≤ n.d then [p.kid n 0] else p.twoK n
def Pb.kidBits (p : Pb) (n : Nd) : List Nat := if p.L ≤ n.d then [0] else p.twoB n

set_option maxRecDepth 5000 in
theorem tree_Kids (p : Pb) (hp : p.Ok) (h : probChk p = 0) {tb pb rb g c : Nat} (n : Nd) (hn : p.In n) (w : World) (hT : TreeIn w p tb pb rb g c) :
    Calls Try.prog 21 #[.pointer (some ⟨tb, 0, none⟩), .agg n.cells] w (KidsPost (p.kids n) (p.kidBits n) w) := by
  obtain ⟨s0, s1, d0, d1⟩ := hn
  have hn : p.In n := ⟨s0, s1, d0, d1⟩
  go_enter Try.func21, Try.ntmps21
  go_upto_region 1 with (fail)
  refine name1 ?_
  intro w0 b3 B0
  have hT0 := hT.kept B0
  have t0 := hT0.tree.cell 0
  have t1 := hT0.tree.cell 1
  have t5 := hT0.tree.cell 5
  have m0 := b3.cell 0
  have m1 := b3.cell 1
  simp only [treeCells, Nd.cells, nodeCells, List.getElem?_toArray, List.getElem?_cons_zero, List.getElem?_cons_succ] at t0 t1 t5 m0 m1
  have g1 : decide (n.d < 0) = false := by simp; omega
  have g2 : decide (p.N ≤ n.d) = false := by simp; omega
  have g3 : decide (2 ^ (p.C.K.toNat - 1) ≤ n.s) = false := by simp; omega
  have hp31 : (2 : Int) ^ (p.C.K.toNat - 1) ≤ 2147483648 := by
    obtain ⟨⟨k1, k2⟩, _⟩ := probChk_ok h
    exact pow31 (by omega)
  have hws : IntKind.u64.wrap n.s = n.s := by
    simp only [IntKind.wrap, IntKind.bits, IntKind.signed]
    simp
    omega
  clear hp31
  refine wp_region_det (by kernel_rfl) (by kernel_rfl) ?_
  have q0 := KeptW.cell t0
  have q1 := KeptW.cell t1
  have r0 := KeptW.cell m0
  have r1 := KeptW.cell m1
  clear t0 t1 m0 m1
  repeat first
    | ((with_reducible apply det_nilG); rfl; rfl; (simp only [List.set_cons_zero, List.set_cons_succ]; rfl))
    | ((with_reducible apply det_call); rfl; infer_instance; rfl; (intro w1 B1; exact tree_good p _ (hT0.kept B1)); (simp only [List.set_cons_zero, List.set_cons_succ]; rfl))
    | ((refine det_plain rfl ?_); (go_big_quiet_step (fail)); (refine wpQuiet_nil ?_))
  refine wpDet_nil ?_
  intro w1 B1
  clear q0 q1 r0 r1 hws t5
  have b31 := b3.kept B1
  have hT1 := hT0.kept B1
  have B10 := B0.trans (B1.mono B0.size)
  go_upto_region 4 with (fail)
  have t5 := hT1.tree.cell 5
  have m1 := b31.cell 1
  simp only [treeCells, Nd.cells, nodeCells, List.getElem?_toArray, List.getElem?_cons_zero, List.getElem?_cons_succ] at t5 m1
  refine wp_region_det (by kernel_rfl) (by kernel_rfl) ?_
  have q0 := KeptW.cell t5
  have q1 := KeptW.cell m1
  clear t5 m1
  repeat first
    | ((with_reducible apply det_nilG); rfl; rfl; (simp only [List.set_cons_zero, List.set_cons_succ]; rfl))
    | ((refine det_plain rfl ?_); (go_big_quiet_step (fail)); (refine wpQuiet_nil ?_))
  refine wpDet_nil ?_
  intro w2 B2
  clear q0 q1
  have b32 := b31.kept B2
  have hT2 := hT1.kept B2
  have B20 := B10.trans (B2.mono B10.size)
  have gN := b32.load (off := 0) (n := 3) (cs' := n.cells) (Nat.le_refl _) (Array.extract_eq_self_of_le (Nat.le_refl _))
  by_cases hL : p.L ≤ n.d
  · have gL : decide (p.L ≤ n.d) = true := by simp; omega
    have e1 : p.kids n = [p.kid n 0] := by unfold Pb.kids; rw [if_pos hL]
    have e2 : p.kidBits n = [0] := by unfold Pb.kidBits; rw [if_pos hL]
    have E1 := Lib.hid e1
    have E2 := Lib.hid e2
    clear e1 e2
    go_wp2_with ((with_reducible apply ld); rfl; (with_reducible assumption); (simp only [List.set_cons_zero, List.set_cons_succ]; rfl))
    refine (tree_one p hp h n hn _ hT2).mono ?_
    rintro e w3 ⟨⟨nb, bb, rfl, x1, x2, x3, x4, x5⟩, B3⟩
    go_wp2
    go_ret2
    rw [E1.out, E2.out]
    exact (show KidsPost _ _ _ _ _ from ⟨⟨nb, bb, rfl, x1, x2, x3, Nat.le_trans B20.size x4, Nat.le_trans B20.size x5⟩, B20.trans (B3.mono B20.size)⟩)
  · have gL : decide (p.L ≤ n.d) = false := by simp; omega
    have e1 : p.kids n = p.twoK n := by unfold Pb.kids; rw [if_neg hL]
    have e2 : p.kidBits n = p.twoB n := by unfold Pb.kidBits; rw [if_neg hL]
    have E1 := Lib.hid e1
    have E2 := Lib.hid e2
    clear e1 e2
    go_wp2_with ((with_reducible apply ld); rfl; (with_reducible assumption); (simp only [List.set_cons_zero, List.set_cons_succ]; rfl))
    refine (tree_two p hp h n hn _ hT2).mono ?_
    rintro e w3 ⟨⟨nb, bb, rfl, x1, x2, x3, x4, x5⟩, B3⟩
    go_wp2
    go_ret2
    rw [E1.out, E2.out]
    exact (show KidsPost _ _ _ _ _ from ⟨⟨nb, bb, rfl, x1, x2, x3, Nat.le_trans B20.size x4, Nat.le_trans B20.size x5⟩, B20.trans (B3.mono B20.size)⟩)
end Go.Proofs.Ytiiljecocajdpaa
