/- A tree's Kids once more, and the kind of block that its bits lie in. -/
import Derived.Test.YtiiljecocajdpaaKidsG
namespace Go.Proofs.Ytiiljecocajdpaa
open Go.RowKit

def BoxT (w : World) (b : Nat) (cs : Array Value) (t : TypeId) : Prop := w.heap[b]? = some (.cells cs t (0, 0))
theorem BoxT.box {w : World} {b : Nat} {cs : Array Value} {t : TypeId} (h : BoxT w b cs t) : Box w b cs := ⟨t, h⟩
theorem BoxT.new (w : World) (cs : Array Value) (t : TypeId) : BoxT (w.alloc (.cells cs t)) w.heap.size cs t := heap_alloc_new _ _
theorem BoxT.kept {w w' : World} {b : Nat} {cs : Array Value} {t : TypeId} (h : BoxT w b cs t) (hB : Below w.heap.size w w') : BoxT w' b cs t := (hB.block b (Box.lt ⟨t, h⟩)).trans h
/-- Kids and their bits, in new memory, the bits' kind of block told. -/
def KidsPostT (l : List Nd) (bs : List Nat) (w : World) (e : Ending) (w' : World) : Prop :=
  (∃ nb bb, e = .returned (.tuple #[.slice (some ⟨nb, 0, none⟩) l.length l.length, .slice (some ⟨bb, 0, none⟩) bs.length bs.length]) ∧ Box w' nb (ndCells l) ∧ BoxT w' bb (u8s bs).toArray 5 ∧ nb ≠ bb ∧ w.heap.size ≤ nb ∧ w.heap.size ≤ bb) ∧ Below w.heap.size w w'
section
variable {P : Program} {ops : Array Oper} {w0 : World}
theorem free_sliceT {rest : List Oper} {l : List Value} {ds : List Deferred} {S : World → Prop} {Q : Act → (World → Prop) → Prop} {d n : Nat} {t e : TypeId} {parts : Array (Nat × Operand)} {cs : Array Value} {ty : TypeId} {ps : String} {af : Array Edge}
    (hQ : Anti Q) (hr : ∀ w, (Instr.buildSlice t n (parts.map fun (i, x) => (i, (Act.mk l.toArray ds).eval x))).run P w = .ok (.slice (some ⟨w.heap.size, 0, none⟩) n n) (w.alloc (.cells cs e)))
    (hn : ∀ b, w0.heap.size ≤ b → wpFree P false ops w0 Q rest ⟨(l.set d (.slice (some ⟨b, 0, none⟩) n n)).toArray, ds⟩ (fun w => S w ∧ BoxT w b cs e)) :
    wpFree P false ops w0 Q (⟨some d, .buildSlice t n parts, ty, ps, af, none⟩ :: rest) ⟨l.toArray, ds⟩ S := by
  refine free_value rfl (fun v w => ∃ b, v = .slice (some ⟨b, 0, none⟩) n n ∧ w0.heap.size ≤ b ∧ BoxT w b cs e) (fun v x y hx ⟨b, h1, h2, h3⟩ => ⟨b, h1, h2, h3.kept hx⟩) (fun w hw => ⟨_, _, ?_, (Below.refl _ w).alloc (Nat.le_refl _) _, ⟨w.heap.size, rfl, hw.size, BoxT.new w cs e⟩⟩) ?_
  · unfold execOp
    simp only [Sem.run_bind, hr w, Result.andThen_ok, Sem.run_pure]
  · rintro v ⟨_, _, b, rfl, hb, _⟩
    rw [put_list]
    refine wpFree_anti hQ _ _ _ _ (fun w h => ⟨h.1, ?_⟩) (hn b hb)
    obtain ⟨b', h1, _, h3⟩ := h.2
    obtain rfl : b = b' := by simpa using h1
    exact h3
end

set_option maxRecDepth 5000 in
theorem tree_oneT (p : Pb) (hp : p.Ok) (h : probChk p = 0) {tb pb rb g c : Nat} (n : Nd) (hn : p.In n) (w : World) (hT : TreeIn w p tb pb rb g c) :
    Calls Try.prog 64 #[.pointer (some ⟨tb, 0, none⟩), .agg n.cells] w (KidsPostT [p.kid n 0] [0] w) := by
  go_enter Try.func64, Try.ntmps64
  go_upto_region 1 with (fail)
  refine name1 ?_
  intro w0 b3 B0
  have hT0 := hT.kept B0
  have t2 := hT0.tree.cell 2
  simp only [treeCells, List.getElem?_toArray, List.getElem?_cons_zero, List.getElem?_cons_succ] at t2
  have gN := b3.load (off := 0) (n := 3) (cs' := n.cells) (Nat.le_refl _) (Array.extract_eq_self_of_le (Nat.le_refl _))
  have hks : (p.kid n 0).cells.size = 3 := rfl
  (refine wp_region_free 6 (by kernel_rfl) (by kernel_rfl) ?_; simp only [List.take_succ_cons, List.take_zero, List.drop_succ_cons, List.drop_zero])
  have q2 := KeptW.cell t2
  repeat first
    | ((refine det_plain rfl ?_); ((with_reducible apply q_ld); rfl; (with_reducible assumption); (simp only [List.set_cons_zero, List.set_cons_succ]; rfl)); (refine wpQuiet_nil ?_))
    | ((with_reducible apply det_nilG); rfl; rfl; (simp only [List.set_cons_zero, List.set_cons_succ]; rfl))
    | ((with_reducible apply det_call); rfl; infer_instance; rfl; (intro w1 B1; exact tree_kid' p hp h n hn 0 (by omega) (by omega) _ (hT0.kept B1)); (simp only [List.set_cons_zero, List.set_cons_succ]; rfl))
    | ((refine det_plain rfl ?_); (go_big_quiet_step (fail)); (refine wpQuiet_nil ?_))
  refine wpDet_nil ?_
  refine free_slice anti_region (cs := ndCells [p.kid n 0]) (e := 34) ?_ ?_
  · intro w1
    go_simp
    rfl
  intro nb hnb
  simp only [List.set_cons_zero, List.set_cons_succ]
  refine free_sliceT anti_region (cs := #[.int .u8 0]) (e := 5) ?_ ?_
  · intro w1
    go_simp
  intro bb hbb
  simp only [List.set_cons_zero, List.set_cons_succ]
  ((with_reducible apply free_assignT); exact anti_region; rfl; (simp only [List.set_cons_zero, List.set_cons_succ]; rfl))
  ((with_reducible apply free_assignT); exact anti_region; rfl; (simp only [List.set_cons_zero, List.set_cons_succ]; rfl))
  intro w2 B2 hS
  obtain ⟨⟨_, h1⟩, h2⟩ := hS
  go_wp2
  go_ret2
  refine (show KidsPostT _ _ _ _ _ from ⟨⟨nb, bb, rfl, h1, h2, h1.ne (BoxT.box h2) (by simp [ndCells, Nd.cells, nodeCells]), by have := B0.size; omega, by have := B0.size; omega⟩, B0.trans (B2.mono B0.size)⟩)
set_option maxRecDepth 5000 in
theorem tree_twoT (p : Pb) (hp : p.Ok) (h : probChk p = 0) {tb pb rb g c : Nat} (n : Nd) (hn : p.In n) (w : World) (hT : TreeIn w p tb pb rb g c) :
    Calls Try.prog 63 #[.pointer (some ⟨tb, 0, none⟩), .agg n.cells] w (KidsPostT (p.twoK n) (p.twoB n) w) := by
  go_enter Try.func63, Try.ntmps63
  go_upto_region 1 with (fail)
  refine name1 ?_
  intro w0 b3 B0
  have hT0 := hT.kept B0
  have t2 := hT0.tree.cell 2
  simp only [treeCells, List.getElem?_toArray, List.getElem?_cons_zero, List.getElem?_cons_succ] at t2
  have gN := b3.load (off := 0) (n := 3) (cs' := n.cells) (Nat.le_refl _) (Array.extract_eq_self_of_le (Nat.le_refl _))
  obtain ⟨k0, hk0⟩ : ∃ k, k = p.kid n 0 := ⟨_, rfl⟩
  obtain ⟨k1, hk1⟩ : ∃ k, k = p.kid n 1 := ⟨_, rfl⟩
  have c0 : ∀ w1, Ext w0 w1 → Pure Try.prog 58 #[.agg n.cells, .int .u8 0, .pointer (some ⟨pb, 0, none⟩), .pointer (some ⟨rb, 0, none⟩)] w1 (.agg k0.cells) := fun w1 B1 => hk0 ▸ tree_kid' p hp h n hn 0 (by omega) (by omega) _ (hT0.kept B1)
  have c1 : ∀ w1, Ext w0 w1 → Pure Try.prog 58 #[.agg n.cells, .int .u8 1, .pointer (some ⟨pb, 0, none⟩), .pointer (some ⟨rb, 0, none⟩)] w1 (.agg k1.cells) := fun w1 B1 => hk1 ▸ tree_kid' p hp h n hn 1 (by omega) (by omega) _ (hT0.kept B1)
  have HK0 := Lib.hid hk0; clear hk0
  have HK1 := Lib.hid hk1; clear hk1
  refine wp_region_known 12 2 (by kernel_rfl) (by kernel_rfl) ?_
  simp only [List.take_succ_cons, List.take_zero, List.drop_succ_cons, List.drop_zero]
  have q2 := KeptW.cell t2
  repeat first
    | ((refine det_plain rfl ?_); ((with_reducible apply q_ld); rfl; (with_reducible assumption); (simp only [List.set_cons_zero, List.set_cons_succ]; rfl)); (refine wpQuiet_nil ?_))
    | ((with_reducible apply det_nilG); rfl; rfl; (simp only [List.set_cons_zero, List.set_cons_succ]; rfl))
    | ((with_reducible apply det_call (x := .tmp 11)); rfl; infer_instance; rfl; exact c0; (simp only [List.set_cons_zero, List.set_cons_succ]; rfl))
    | ((with_reducible apply det_call (x := .tmp 17)); rfl; infer_instance; rfl; exact c1; (simp only [List.set_cons_zero, List.set_cons_succ]; rfl))
    | ((refine det_plain rfl ?_); (go_big_quiet_step (fail)); (refine wpQuiet_nil ?_))
  refine wpDet_nil ?_
  clear q2 gN t2 c0 c1
  refine two_allocs 12 13 (by kernel_rfl) (by omega) (by omega) (by kernel_rfl) (by kernel_rfl) (by kernel_rfl) (by omega) rfl rfl (by omega) (cs1 := #[.int .u32 0, .int .i64 0, .int .i64 0]) (cs2 := #[.int .u32 0, .int .i64 0, .int .i64 0]) (by intro w1; go_simp) (by intro w1; go_simp) ?_
  intro b6 b7 w1 h6 h7 hne B1 x6 x7
  simp only [List.set_cons_zero, List.set_cons_succ]
  have f0 : Flat k0.cells := nodeCells_flat _ _ _
  have f1 : Flat k1.cells := nodeCells_flat _ _ _
  refine stO rfl rfl x6 rfl rfl f0 ?_
  intro w2 y6 B2 o2 s2
  have y7 : Box w2 b7 #[.int .u32 0, .int .i64 0, .int .i64 0] := by
    obtain ⟨t, ht⟩ := x7
    exact ⟨t, (o2 b7 (Ne.symm hne)).trans ht⟩
  refine stO rfl rfl y7 rfl rfl f1 ?_
  intro w3 z7 B3 o3 s3
  have z6 : Box w3 b6 k0.cells := by
    obtain ⟨t, ht⟩ := y6
    exact ⟨t, (o3 b6 hne).trans ht⟩
  have B30 : Below w.heap.size w w3 := (B0.trans (B1.mono B0.size)).trans ((B2.mono (Nat.le_trans B0.size h6)).trans (B3.mono (Nat.le_trans B0.size h7)))
  clear s2 s3 o2 o3 y6 y7 x6 x7
  have g6 := z6.load (off := 0) (n := 3) (cs' := k0.cells) (Nat.le_refl _) (Array.extract_eq_self_of_le (Nat.le_refl _))
  have g7 := z7.load (off := 0) (n := 3) (cs' := k1.cells) (Nat.le_refl _) (Array.extract_eq_self_of_le (Nat.le_refl _))
  by_cases hlt : k0.m < k1.m
  · have m6 := z6.cell 2
    have m7 := z7.cell 2
    simp only [Nd.cells, nodeCells, List.getElem?_toArray, List.getElem?_cons_zero, List.getElem?_cons_succ] at m6 m7
    go_upto_region 3 with (fail)
    clear m6 m7
    go_wp2_with (first | ((with_reducible apply ld); rfl; (with_reducible assumption); (simp only [List.set_cons_zero, List.set_cons_succ]; rfl)) | ((with_reducible apply w_slice (d := 27) (cs := ndCells [k0, k1]) (e := 34)); ((simp only [List.map_toArray, List.map_cons, List.map_nil]); exact build_two k0 k1 _)))
    go_ret2
    have e1 : p.twoK n = [k0, k1] := by rw [HK0.out, HK1.out] at hlt ⊢; unfold Pb.twoK; rw [if_pos hlt]
    have e2 : p.twoB n = [0, 1] := by rw [HK0.out, HK1.out] at hlt; unfold Pb.twoB; rw [if_pos hlt]
    rw [e1, e2]
    have fin1 := (Box.new w3 (ndCells [k0, k1]) 34).alloc (.cells #[.int .u8 0, .int .u8 1] 5)
    have fin2 : BoxT ((w3.alloc (.cells (ndCells [k0, k1]) 34)).alloc (.cells #[.int .u8 0, .int .u8 1] 5)) (w3.heap.size + 1) #[.int .u8 0, .int .u8 1] 5 := by simpa using BoxT.new (w3.alloc (.cells (ndCells [k0, k1]) 34)) #[.int .u8 0, .int .u8 1] 5
    have hsz := B30.size
    refine (show KidsPostT _ _ _ _ _ from ⟨⟨w3.heap.size, w3.heap.size + 1, rfl, fin1, fin2, by omega, hsz, by omega⟩, B30.trans (((Below.refl _ _).alloc hsz _).alloc (by simp; omega) _)⟩)
  · have m6 := z6.cell 2
    have m7 := z7.cell 2
    simp only [Nd.cells, nodeCells, List.getElem?_toArray, List.getElem?_cons_zero, List.getElem?_cons_succ] at m6 m7
    go_upto_region 4 with (fail)
    clear m6 m7
    go_wp2_with (first | ((with_reducible apply ld); rfl; (with_reducible assumption); (simp only [List.set_cons_zero, List.set_cons_succ]; rfl)) | ((with_reducible apply w_slice (d := 31) (cs := ndCells [k1, k0]) (e := 34)); ((simp only [List.map_toArray, List.map_cons, List.map_nil]); exact build_two k1 k0 _)))
    go_ret2
    have e1 : p.twoK n = [k1, k0] := by rw [HK0.out, HK1.out] at hlt ⊢; unfold Pb.twoK; rw [if_neg (by omega)]
    have e2 : p.twoB n = [1, 0] := by rw [HK0.out, HK1.out] at hlt; unfold Pb.twoB; rw [if_neg (by omega)]
    rw [e1, e2]
    have fin1 := (Box.new w3 (ndCells [k1, k0]) 34).alloc (.cells #[.int .u8 1, .int .u8 0] 5)
    have fin2 : BoxT ((w3.alloc (.cells (ndCells [k1, k0]) 34)).alloc (.cells #[.int .u8 1, .int .u8 0] 5)) (w3.heap.size + 1) #[.int .u8 1, .int .u8 0] 5 := by simpa using BoxT.new (w3.alloc (.cells (ndCells [k1, k0]) 34)) #[.int .u8 1, .int .u8 0] 5
    have hsz := B30.size
    refine (show KidsPostT _ _ _ _ _ from ⟨⟨w3.heap.size, w3.heap.size + 1, rfl, fin1, fin2, by omega, hsz, by omega⟩, B30.trans (((Below.refl _ _).alloc hsz _).alloc (by simp; omega) _)⟩)
set_option maxRecDepth 5000 in
theorem tree_KidsT (p : Pb) (hp : p.Ok) (h : probChk p = 0) {tb pb rb g c : Nat} (n : Nd) (hn : p.In n) (w : World) (hT : TreeIn w p tb pb rb g c) :
    Calls Try.prog 21 #[.pointer (some ⟨tb, 0, none⟩), .agg n.cells] w (KidsPostT (p.kids n) (p.kidBits n) w) := by
  obtain ⟨s0, s1, d0, d1⟩ := hn
  have hn : p.In n := ⟨s0, s1, d0, d1⟩
  go_enter Try.func21, Try.ntmps21
  go_upto_region 1 with (fail)
  refine name1 ?_
  intro w0 b3 B0
  have hT0 := hT.kept B0
  have t0 := hT0.tree.cell 0
  have t1 := hT0.tree.cell 1
  have t5 := hT0.tree.cell 5
  have m0 := b3.cell 0
  have m1 := b3.cell 1
  simp only [treeCells, Nd.cells, nodeCells, List.getElem?_toArray, List.getElem?_cons_zero, List.getElem?_cons_succ] at t0 t1 t5 m0 m1
  have g1 : decide (n.d < 0) = false := by simp; omega
  have g2 : decide (p.N ≤ n.d) = false := by simp; omega
  have g3 : decide (2 ^ (p.C.K.toNat - 1) ≤ n.s) = false := by simp; omega
  have hp31 : (2 : Int) ^ (p.C.K.toNat - 1) ≤ 2147483648 := by
    obtain ⟨⟨k1, k2⟩, _⟩ := probChk_ok h
    exact pow31 (by omega)
  have hws : IntKind.u64.wrap n.s = n.s := by
    simp only [IntKind.wrap, IntKind.bits, IntKind.signed]
    simp
    omega
  clear hp31
  refine wp_region_det (by kernel_rfl) (by kernel_rfl) ?_
  have q0 := KeptW.cell t0
  have q1 := KeptW.cell t1
  have r0 := KeptW.cell m0
  have r1 := KeptW.cell m1
  clear t0 t1 m0 m1
  repeat first
    | ((with_reducible apply det_nilG); rfl; rfl; (simp only [List.set_cons_zero, List.set_cons_succ]; rfl))
    | ((with_reducible apply det_call); rfl; infer_instance; rfl; (intro w1 B1; exact tree_good p _ (hT0.kept B1)); (simp only [List.set_cons_zero, List.set_cons_succ]; rfl))
    | ((refine det_plain rfl ?_); (go_big_quiet_step (fail)); (refine wpQuiet_nil ?_))
  refine wpDet_nil ?_
  intro w1 B1
  clear q0 q1 r0 r1 hws t5
  have b31 := b3.kept B1
  have hT1 := hT0.kept B1
  have B10 := B0.trans (B1.mono B0.size)
  go_upto_region 4 with (fail)
  have t5 := hT1.tree.cell 5
  have m1 := b31.cell 1
  simp only [treeCells, Nd.cells, nodeCells, List.getElem?_toArray, List.getElem?_cons_zero, List.getElem?_cons_succ] at t5 m1
  refine wp_region_det (by kernel_rfl) (by kernel_rfl) ?_
  have q0 := KeptW.cell t5
  have q1 := KeptW.cell m1
  clear t5 m1
  repeat first
    | ((with_reducible apply det_nilG); rfl; rfl; (simp only [List.set_cons_zero, List.set_cons_succ]; rfl))
    | ((refine det_plain rfl ?_); (go_big_quiet_step (fail)); (refine wpQuiet_nil ?_))
  refine wpDet_nil ?_
  intro w2 B2
  clear q0 q1
  have b32 := b31.kept B2
  have hT2 := hT1.kept B2
  have B20 := B10.trans (B2.mono B10.size)
  have gN := b32.load (off := 0) (n := 3) (cs' := n.cells) (Nat.le_refl _) (Array.extract_eq_self_of_le (Nat.le_refl _))
  by_cases hL : p.L ≤ n.d
  · have gL : decide (p.L ≤ n.d) = true := by simp; omega
    have e1 : p.kids n = [p.kid n 0] := by unfold Pb.kids; rw [if_pos hL]
    have e2 : p.kidBits n = [0] := by unfold Pb.kidBits; rw [if_pos hL]
    have E1 := Lib.hid e1
    have E2 := Lib.hid e2
    clear e1 e2
    go_wp2_with ((with_reducible apply ld); rfl; (with_reducible assumption); (simp only [List.set_cons_zero, List.set_cons_succ]; rfl))
    refine (tree_oneT p hp h n hn _ hT2).mono ?_
    rintro e w3 ⟨⟨nb, bb, rfl, x1, x2, x3, x4, x5⟩, B3⟩
    go_wp2
    go_ret2
    rw [E1.out, E2.out]
    exact (show KidsPostT _ _ _ _ _ from ⟨⟨nb, bb, rfl, x1, x2, x3, Nat.le_trans B20.size x4, Nat.le_trans B20.size x5⟩, B20.trans (B3.mono B20.size)⟩)
  · have gL : decide (p.L ≤ n.d) = false := by simp; omega
    have e1 : p.kids n = p.twoK n := by unfold Pb.kids; rw [if_neg hL]
    have e2 : p.kidBits n = p.twoB n := by unfold Pb.kidBits; rw [if_neg hL]
    have E1 := Lib.hid e1
    have E2 := Lib.hid e2
    clear e1 e2
    go_wp2_with ((with_reducible apply ld); rfl; (with_reducible assumption); (simp only [List.set_cons_zero, List.set_cons_succ]; rfl))
    refine (tree_twoT p hp h n hn _ hT2).mono ?_
    rintro e w3 ⟨⟨nb, bb, rfl, x1, x2, x3, x4, x5⟩, B3⟩
    go_wp2
    go_ret2
    rw [E1.out, E2.out]
    exact (show KidsPostT _ _ _ _ _ from ⟨⟨nb, bb, rfl, x1, x2, x3, Nat.le_trans B20.size x4, Nat.le_trans B20.size x5⟩, B20.trans (B3.mono B20.size)⟩)
end Go.Proofs.Ytiiljecocajdpaa
