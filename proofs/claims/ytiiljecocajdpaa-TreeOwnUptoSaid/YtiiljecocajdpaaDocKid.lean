/- The walks of the document's kids. -/
import Derived.Test.YtiiljecocajdpaaDoc
import Derived.Test.YtiiljecocajdpaaRBranch
import Derived.Test.YtiiljecocajdpaaRRange
namespace Go.Proofs.Ytiiljecocajdpaa
open Go.RowKit

set_option maxRecDepth 5000 in
set_option maxHeartbeats 1000000 in
theorem doc_kid (p : Pb) (hp : p.Ok) (h : probChk p = 0) {tb g c : Nat} (n : Nd) (hn : p.In n) (b : Int) (b0 : 0 ≤ b) (b1 : b < 2) (w : World) (hT : DocIn w p tb g c) :
    Pure Try.prog 74 #[.pointer (some ⟨tb, 0, none⟩), .agg n.cells, .int .u8 b] w (.agg (p.kid n b).cells) := by
  obtain ⟨⟨k1, k2⟩, l1, l2, cr, hwin, ⟨v1, v2⟩, hlev, hcc, htt⟩ := probChk_ok h
  obtain ⟨s, d, m⟩ := n
  obtain ⟨s0, s1, d0, d1⟩ := hn
  obtain ⟨k, rfl⟩ := Int.eq_ofNat_of_zero_le d0
  simp only at s0 s1 d1
  have HWIN := Lib.hid hwin; clear hwin
  have HCR := Lib.hid cr; clear cr
  go_enter Try.func74, Try.ntmps74
  go_upto_region 1 with (fail)
  refine name2 ?_
  intro w0 b4 b6 B0
  have hT0 := hT.kept B0
  obtain ⟨fk, fr, flev, fl, fwin, fcode, ftable, fall⟩ := hT0.tree.prob hp
  clear fk fr flev fl fwin ftable
  have n0 := b4.cell 0
  simp only [Nd.cells, nodeCells, List.getElem?_toArray, List.getElem?_cons_zero, List.getElem?_cons_succ] at n0
  refine wp_region_free_tail 12 2 (by kernel_rfl) (by kernel_rfl) ?_
  simp only [List.take_succ_cons, List.take_zero, List.drop_succ_cons, List.drop_zero]
  have q0 := KeptW.cell n0
  repeat first
    | ((refine det_plain rfl ?_); ((with_reducible apply q_ld); rfl; (with_reducible assumption); (simp only [List.set_cons_zero, List.set_cons_succ]; rfl)); (refine wpQuiet_nil ?_))
    | ((with_reducible apply det_nilG); rfl; rfl; (simp only [List.set_cons_zero, List.set_cons_succ]; rfl))
    | ((with_reducible apply det_call); rfl; infer_instance; rfl; (intro w1 B1; exact ref07_Next p.C hp.c k1 k2 HCR.out s b s0 s1 b0 b1 _); (simp only [List.set_cons_zero, List.set_cons_succ]; rfl))
    | ((refine det_plain rfl ?_); (go_big_quiet_step (fail)); (refine wpQuiet_nil ?_))
  refine wpDet_nil ?_
  clear q0 fcode fall n0
  have hv0 : 0 ≤ 2 * s + b := by omega
  obtain ⟨v, hv⟩ : ∃ v : Nat, v = (2 * s + b).toNat := ⟨_, rfl⟩
  rw [← hv]
  have HV := Lib.hid hv; clear hv
  have hsz : (p.C.yv v).size = 3 := rfl
  have hfl := p.C.ys_flat v p.C.R.toNat
  refine free_alloc anti_list (cs := #[.int .u8 0, .int .u8 0, .int .u8 0]) (by intro w1; go_simp) ?_
  intro b8 h8
  simp only [List.set_cons_zero, List.set_cons_succ]
  ((with_reducible apply free_assignT); exact anti_list; rfl; (simp only [List.set_cons_zero, List.set_cons_succ]; rfl))
  intro w1 B1 hS
  obtain ⟨_, x8⟩ := hS
  refine stO rfl rfl x8 rfl hsz hfl ?_
  intro w2 y8 B2 o2 s2
  have B20 : Below w0.heap.size w0 w2 := B1.trans (B2.mono h8)
  have hT2 := hT0.kept B20
  have b42 := b4.kept B20
  have b62 := b6.kept B20
  clear o2 s2 x8
  obtain ⟨fk, fr, flev, fl, fwin, fcode, ftable, fall⟩ := hT2.tree.prob hp
  clear fk fr flev fl fwin fcode ftable
  have n1 := b42.cell 1
  have n2 := b42.cell 2
  simp only [Nd.cells, nodeCells, List.getElem?_toArray, List.getElem?_cons_zero, List.getElem?_cons_succ] at n1 n2
  have gY := y8.load (off := 0) (n := 3) (cs' := p.C.yv v) (by rw [hsz]; omega) (Array.extract_eq_self_of_le (by rw [hsz]; omega))
  have hNb : p.N ≤ 1055 := by unfold Pb.N; omega
  have hk1 : wrap64 ((k : Int) + 1) = (k : Int) + 1 := by unfold wrap64; omega
  go_upto_region 2 with (fail)
  (refine wp_region_kept_tail 16 (by kernel_rfl) (by kernel_rfl) ?_; simp only [List.take_succ_cons, List.take_zero, List.drop_succ_cons, List.drop_zero])
  have q1 := KeptW.cell n1
  have q2 := KeptW.cell n2
  clear n1 n2
  repeat first
    | ((with_reducible apply q_ld); rfl; (with_reducible assumption); (simp only [List.set_cons_zero, List.set_cons_succ]; rfl))
    | go_big_quiet_step (exact Calls.kept (ref11_Branch p _ _ hp h k d1 v _ (hT2.win.kept (Subtype.property _))))
  refine wpQuiet_nil ?_
  intro w3 B3
  have b63 := b62.kept B3
  have B30 : Below w.heap.size w w3 := bOn (B0.trans (B20.mono B0.size)) B3
  go_wp2_with ((with_reducible apply st); rfl; rfl; exact b63; rfl; rfl; exact nodeCells_flat _ _ _; intro w4 b64 B4)
  refine bodyPost_ret (results_cellAgg rfl rfl (b64.load (off := 0) (n := 3) (Nat.le_refl _) (Array.extract_eq_self_of_le (Nat.le_refl _)))) rfl ?_
  refine ⟨?_, B30.trans (B4.mono (by omega))⟩
  rw [HV.out]; rfl
end Go.Proofs.Ytiiljecocajdpaa
