import Derived.Test.YtkjnmjilkhigaaaKidsG
import Derived.Test.YtkjnmjilkhigaaaFanoL
set_option linter.unusedSimpArgs false
set_option linter.unusedVariables false
set_option linter.unnecessarySimpa false
/- A tree's Kids once more, and the kind of block that its bits lie in. -/
namespace Go.Proofs.Ytkjnmjilkhigaaa
open Go.RowKit

def BoxT (w : World) (b : Nat) (cs : Array Value) (t : TypeId) : Prop := w.heap[b]? = some (.cells cs t (0, 0))
theorem BoxT.box {w : World} {b : Nat} {cs : Array Value} {t : TypeId} (h : BoxT w b cs t) : Box w b cs := ⟨t, h⟩
theorem BoxT.new (w : World) (cs : Array Value) (t : TypeId) : BoxT (w.alloc (.cells cs t)) w.heap.size cs t := heap_alloc_new _ _
theorem BoxT.kept {w w' : World} {b : Nat} {cs : Array Value} {t : TypeId} (h : BoxT w b cs t) (hB : Below w.heap.size w w') : BoxT w' b cs t := (hB.block b (Box.lt ⟨t, h⟩)).trans h
/-- Kids and their bits, in new memory, the bits' kind of block told. -/
def KidsPostT (l : List Nd) (bs : List Nat) (w : World) (e : Ending) (w' : World) : Prop :=
  (∃ nb bb, e = .returned (.tuple #[.slice (some ⟨nb, 0, none⟩) l.length l.length, .slice (some ⟨bb, 0, none⟩) bs.length bs.length]) ∧ Box w' nb (ndCells l) ∧ BoxT w' bb (u8s bs).toArray 5 ∧ nb ≠ bb ∧ w.heap.size ≤ nb ∧ w.heap.size ≤ bb) ∧ Below w.heap.size w w'
section
variable {P : Program} {ops : Array Oper} {w0 : World}
theorem free_sliceT {rest : List Oper} {l : List Value} {ds : List Deferred} {S : World → Prop} {Q : Act → (World → Prop) → Prop} {d n : Nat} {t e : TypeId} {parts : Array (Nat × Operand)} {cs : Array Value} {ty : TypeId} {ps : String} {af : Array Edge}
    (hQ : Anti Q) (hr : ∀ w, (Instr.buildSlice t n (parts.map fun (i, x) => (i, (Act.mk l.toArray ds).eval x))).run P w = .ok (.slice (some ⟨w.heap.size, 0, none⟩) n n) (w.alloc (.cells cs e)))
    (hn : ∀ b, w0.heap.size ≤ b → wpFree P false ops w0 Q rest ⟨(l.set d (.slice (some ⟨b, 0, none⟩) n n)).toArray, ds⟩ (fun w => S w ∧ BoxT w b cs e)) :
    wpFree P false ops w0 Q (⟨some d, .buildSlice t n parts, ty, ps, af, none⟩ :: rest) ⟨l.toArray, ds⟩ S := by
  refine free_value rfl (fun v w => ∃ b, v = .slice (some ⟨b, 0, none⟩) n n ∧ w0.heap.size ≤ b ∧ BoxT w b cs e) (fun v x y hx ⟨b, h1, h2, h3⟩ => ⟨b, h1, h2, h3.kept hx⟩) (fun w hw => ⟨_, _, ?_, (Below.refl _ w).alloc (Nat.le_refl _) _, ⟨w.heap.size, rfl, hw.size, BoxT.new w cs e⟩⟩) ?_
  · unfold execOp
    simp only [Sem.run_bind, hr w, Result.andThen_ok, Sem.run_pure]
  · rintro v ⟨_, _, b, rfl, hb, _⟩
    rw [put_list]
    refine wpFree_anti hQ _ _ _ _ (fun w h => ⟨h.1, ?_⟩) (hn b hb)
    obtain ⟨b', h1, _, h3⟩ := h.2
    obtain rfl : b = b' := by simpa using h1
    exact h3
end

set_option maxRecDepth 5000 in
theorem tree_oneT (p : Pb) (hp : p.Ok) (h : probChk p = 0) {tb pb rb g c : Nat} (n : Nd) (hn : p.In n) (w : World) (hT : TreeIn w p tb pb rb g c) :
    Calls Try.prog 96 #[.pointer (some ⟨tb, 0, none⟩), .agg n.cells] w (KidsPostT [p.kid n 0] [0] w) := by
  go_enter Try.func96, Try.ntmps96
  go_upto_region 1 with (fail)
  refine name1 ?_
  intro w0 b3 B0
  have hT0 := hT.kept B0
  have t2 := hT0.tree.cell 2
  simp only [treeCells, List.getElem?_toArray, List.getElem?_cons_zero, List.getElem?_cons_succ] at t2
  have gN := b3.load (off := 0) (n := 3) (cs' := n.cells) (Nat.le_refl _) (Array.extract_eq_self_of_le (Nat.le_refl _))
  have hks : (p.kid n 0).cells.size = 3 := rfl
  (refine wp_region_free 6 (by kernel_rfl) (by kernel_rfl) ?_; simp only [List.take_succ_cons, List.take_zero, List.drop_succ_cons, List.drop_zero])
  have q2 := KeptW.cell t2
  repeat first
    | ((refine det_plain rfl ?_); ((with_reducible apply q_ld); rfl; (with_reducible assumption); (simp only [List.set_cons_zero, List.set_cons_succ]; rfl)); (refine wpQuiet_nil ?_))
    | ((with_reducible apply det_nilG); rfl; rfl; (simp only [List.set_cons_zero, List.set_cons_succ]; rfl))
    | ((with_reducible apply det_call); rfl; infer_instance; rfl; (intro w1 B1; exact tree_kid' p hp h n hn 0 (by omega) (by omega) _ (hT0.kept B1)); (simp only [List.set_cons_zero, List.set_cons_succ]; rfl))
    | ((refine det_plain rfl ?_); (go_big_quiet_step (fail)); (refine wpQuiet_nil ?_))
  refine wpDet_nil ?_
  refine free_slice anti_region (cs := ndCells [p.kid n 0]) (e := 80) ?_ ?_
  · intro w1
    go_simp
    rfl
  intro nb hnb
  simp only [List.set_cons_zero, List.set_cons_succ]
  refine free_sliceT anti_region (cs := #[.int .u8 0]) (e := 5) ?_ ?_
  · intro w1
    go_simp
  intro bb hbb
  simp only [List.set_cons_zero, List.set_cons_succ]
  ((with_reducible apply free_assignT); exact anti_region; rfl; (simp only [List.set_cons_zero, List.set_cons_succ]; rfl))
  ((with_reducible apply free_assignT); exact anti_region; rfl; (simp only [List.set_cons_zero, List.set_cons_succ]; rfl))
  intro w2 B2 hS
  obtain ⟨⟨_, h1⟩, h2⟩ := hS
  go_wp2
  go_ret2
  refine (show KidsPostT _ _ _ _ _ from ⟨⟨nb, bb, rfl, h1, h2, h1.ne (BoxT.box h2) (by simp [ndCells, Nd.cells, nodeCells]), by have := B0.size; omega, by have := B0.size; omega⟩, B0.trans (B2.mono B0.size)⟩)
set_option maxRecDepth 5000 in
theorem tree_twoT (p : Pb) (hp : p.Ok) (h : probChk p = 0) {tb pb rb g c : Nat} (n : Nd) (hn : p.In n) (w : World) (hT : TreeIn w p tb pb rb g c) :
    Calls Try.prog 95 #[.pointer (some ⟨tb, 0, none⟩), .agg n.cells] w (KidsPostT (p.twoK n) (p.twoB n) w) := by
  go_enter Try.func95, Try.ntmps95
  go_upto_region 1 with (fail)
  refine name1 ?_
  intro w0 b3 B0
  have hT0 := hT.kept B0
  have t2 := hT0.tree.cell 2
  simp only [treeCells, List.getElem?_toArray, List.getElem?_cons_zero, List.getElem?_cons_succ] at t2
  have gN := b3.load (off := 0) (n := 3) (cs' := n.cells) (Nat.le_refl _) (Array.extract_eq_self_of_le (Nat.le_refl _))
  obtain ⟨k0, hk0⟩ : ∃ k, k = p.kid n 0 := ⟨_, rfl⟩
  obtain ⟨k1, hk1⟩ : ∃ k, k = p.kid n 1 := ⟨_, rfl⟩
  have c0 : ∀ w1, Ext w0 w1 → Pure Try.prog 72 #[.agg n.cells, .int .u8 0, .pointer (some ⟨pb, 0, none⟩), .pointer (some ⟨rb, 0, none⟩)] w1 (.agg k0.cells) := fun w1 B1 => hk0 ▸ tree_kid' p hp h n hn 0 (by omega) (by omega) _ (hT0.kept B1)
  have c1 : ∀ w1, Ext w0 w1 → Pure Try.prog 72 #[.agg n.cells, .int .u8 1, .pointer (some ⟨pb, 0, none⟩), .pointer (some ⟨rb, 0, none⟩)] w1 (.agg k1.cells) := fun w1 B1 => hk1 ▸ tree_kid' p hp h n hn 1 (by omega) (by omega) _ (hT0.kept B1)
  have HK0 := Lib.hid hk0; clear hk0
  have HK1 := Lib.hid hk1; clear hk1
  refine wp_region_known 12 2 (by kernel_rfl) (by kernel_rfl) ?_
  simp only [List.take_succ_cons, List.take_zero, List.drop_succ_cons, List.drop_zero]
  have q2 := KeptW.cell t2
  repeat first
    | ((refine det_plain rfl ?_); ((with_reducible apply q_ld); rfl; (with_reducible assumption); (simp only [List.set_cons_zero, List.set_cons_succ]; rfl)); (refine wpQuiet_nil ?_))
    | ((with_reducible apply det_nilG); rfl; rfl; (simp only [List.set_cons_zero, List.set_cons_succ]; rfl))
    | ((with_reducible apply det_call (x := .tmp 11)); rfl; infer_instance; rfl; exact c0; (simp only [List.set_cons_zero, List.set_cons_succ]; rfl))
    | ((with_reducible apply det_call (x := .tmp 17)); rfl; infer_instance; rfl; exact c1; (simp only [List.set_cons_zero, List.set_cons_succ]; rfl))
    | ((refine det_plain rfl ?_); (go_big_quiet_step (fail)); (refine wpQuiet_nil ?_))
  refine wpDet_nil ?_
  clear q2 gN t2 c0 c1
  refine two_allocs 12 13 (by kernel_rfl) (by omega) (by omega) (by kernel_rfl) (by kernel_rfl) (by kernel_rfl) (by omega) rfl rfl (by omega) (cs1 := #[.int .u32 0, .int .i64 0, .int .i64 0]) (cs2 := #[.int .u32 0, .int .i64 0, .int .i64 0]) (by intro w1; go_simp) (by intro w1; go_simp) ?_
  intro b6 b7 w1 h6 h7 hne B1 x6 x7
  simp only [List.set_cons_zero, List.set_cons_succ]
  have f0 : Flat k0.cells := nodeCells_flat _ _ _
  have f1 : Flat k1.cells := nodeCells_flat _ _ _
  refine stO rfl rfl x6 rfl rfl f0 ?_
  intro w2 y6 B2 o2 s2
  have y7 : Box w2 b7 #[.int .u32 0, .int .i64 0, .int .i64 0] := by
    obtain ⟨t, ht⟩ := x7
    exact ⟨t, (o2 b7 (Ne.symm hne)).trans ht⟩
  refine stO rfl rfl y7 rfl rfl f1 ?_
  intro w3 z7 B3 o3 s3
  have z6 : Box w3 b6 k0.cells := by
    obtain ⟨t, ht⟩ := y6
    exact ⟨t, (o3 b6 hne).trans ht⟩
  have B30 : Below w.heap.size w w3 := (B0.trans (B1.mono B0.size)).trans ((B2.mono (Nat.le_trans B0.size h6)).trans (B3.mono (Nat.le_trans B0.size h7)))
  clear s2 s3 o2 o3 y6 y7 x6 x7
  have g6 := z6.load (off := 0) (n := 3) (cs' := k0.cells) (Nat.le_refl _) (Array.extract_eq_self_of_le (Nat.le_refl _))
  have g7 := z7.load (off := 0) (n := 3) (cs' := k1.cells) (Nat.le_refl _) (Array.extract_eq_self_of_le (Nat.le_refl _))
  by_cases hlt : k0.m < k1.m
  · have m6 := z6.cell 2
    have m7 := z7.cell 2
    simp only [Nd.cells, nodeCells, List.getElem?_toArray, List.getElem?_cons_zero, List.getElem?_cons_succ] at m6 m7
    go_upto_region 3 with (fail)
    clear m6 m7
    go_wp2_with (first | ((with_reducible apply ld); rfl; (with_reducible assumption); (simp only [List.set_cons_zero, List.set_cons_succ]; rfl)) | ((with_reducible apply w_slice (d := 27) (cs := ndCells [k0, k1]) (e := 80)); ((simp only [List.map_toArray, List.map_cons, List.map_nil]); exact build_two k0 k1 _)))
    go_ret2
    have e1 : p.twoK n = [k0, k1] := by rw [HK0.out, HK1.out] at hlt ⊢; unfold Pb.twoK; rw [if_pos hlt]
    have e2 : p.twoB n = [0, 1] := by rw [HK0.out, HK1.out] at hlt; unfold Pb.twoB; rw [if_pos hlt]
    rw [e1, e2]
    have fin1 := (Box.new w3 (ndCells [k0, k1]) 80).alloc (.cells #[.int .u8 0, .int .u8 1] 5)
    have fin2 : BoxT ((w3.alloc (.cells (ndCells [k0, k1]) 80)).alloc (.cells #[.int .u8 0, .int .u8 1] 5)) (w3.heap.size + 1) #[.int .u8 0, .int .u8 1] 5 := by simpa using BoxT.new (w3.alloc (.cells (ndCells [k0, k1]) 80)) #[.int .u8 0, .int .u8 1] 5
    have hsz := B30.size
    refine (show KidsPostT _ _ _ _ _ from ⟨⟨w3.heap.size, w3.heap.size + 1, rfl, fin1, fin2, by omega, hsz, by omega⟩, B30.trans (((Below.refl _ _).alloc hsz _).alloc (by simp; omega) _)⟩)
  · have m6 := z6.cell 2
    have m7 := z7.cell 2
    simp only [Nd.cells, nodeCells, List.getElem?_toArray, List.getElem?_cons_zero, List.getElem?_cons_succ] at m6 m7
    go_upto_region 4 with (fail)
    clear m6 m7
    go_wp2_with (first | ((with_reducible apply ld); rfl; (with_reducible assumption); (simp only [List.set_cons_zero, List.set_cons_succ]; rfl)) | ((with_reducible apply w_slice (d := 31) (cs := ndCells [k1, k0]) (e := 80)); ((simp only [List.map_toArray, List.map_cons, List.map_nil]); exact build_two k1 k0 _)))
    go_ret2
    have e1 : p.twoK n = [k1, k0] := by rw [HK0.out, HK1.out] at hlt ⊢; unfold Pb.twoK; rw [if_neg (by omega)]
    have e2 : p.twoB n = [1, 0] := by rw [HK0.out, HK1.out] at hlt; unfold Pb.twoB; rw [if_neg (by omega)]
    rw [e1, e2]
    have fin1 := (Box.new w3 (ndCells [k1, k0]) 80).alloc (.cells #[.int .u8 1, .int .u8 0] 5)
    have fin2 : BoxT ((w3.alloc (.cells (ndCells [k1, k0]) 80)).alloc (.cells #[.int .u8 1, .int .u8 0] 5)) (w3.heap.size + 1) #[.int .u8 1, .int .u8 0] 5 := by simpa using BoxT.new (w3.alloc (.cells (ndCells [k1, k0]) 80)) #[.int .u8 1, .int .u8 0] 5
    have hsz := B30.size
    refine (show KidsPostT _ _ _ _ _ from ⟨⟨w3.heap.size, w3.heap.size + 1, rfl, fin1, fin2, by omega, hsz, by omega⟩, B30.trans (((Below.refl _ _).alloc hsz _).alloc (by simp; omega) _)⟩)
set_option maxRecDepth 5000 in
theorem tree_KidsT (p : Pb) (hp : p.Ok) (h : probChk p = 0) {tb pb rb g c : Nat} (n : Nd) (hn : p.In n) (w : World) (hT : TreeIn w p tb pb rb g c) :
    Calls Try.prog 75 #[.pointer (some ⟨tb, 0, none⟩), .agg n.cells] w (KidsPostT (p.kids n) (p.kidBits n) w) := by
  obtain ⟨s0, s1, d0, d1⟩ := hn
  have hn : p.In n := ⟨s0, s1, d0, d1⟩
  go_enter Try.func75, Try.ntmps75
  go_upto_region 1 with (fail)
  refine name1 ?_
  intro w0 b3 B0
  have hT0 := hT.kept B0
  have t0 := hT0.tree.cell 0
  have t1 := hT0.tree.cell 1
  have t5 := hT0.tree.cell 5
  have m0 := b3.cell 0
  have m1 := b3.cell 1
  simp only [treeCells, Nd.cells, nodeCells, List.getElem?_toArray, List.getElem?_cons_zero, List.getElem?_cons_succ] at t0 t1 t5 m0 m1
  have g1 : decide (n.d < 0) = false := by simp; omega
  have g2 : decide (p.N ≤ n.d) = false := by simp; omega
  have g3 : decide (2 ^ (p.C.K.toNat - 1) ≤ n.s) = false := by simp; omega
  have hp31 : (2 : Int) ^ (p.C.K.toNat - 1) ≤ 2147483648 := by
    obtain ⟨⟨k1, k2⟩, _⟩ := probChk_ok h
    exact pow31 (by omega)
  have hws : IntKind.u64.wrap n.s = n.s := by
    simp only [IntKind.wrap, IntKind.bits, IntKind.signed]
    simp
    omega
  clear hp31
  refine wp_region_det (by kernel_rfl) (by kernel_rfl) ?_
  have q0 := KeptW.cell t0
  have q1 := KeptW.cell t1
  have r0 := KeptW.cell m0
  have r1 := KeptW.cell m1
  clear t0 t1 m0 m1
  repeat first
    | ((with_reducible apply det_nilG); rfl; rfl; (simp only [List.set_cons_zero, List.set_cons_succ]; rfl))
    | ((with_reducible apply det_call); rfl; infer_instance; rfl; (intro w1 B1; exact tree_good p _ (hT0.kept B1)); (simp only [List.set_cons_zero, List.set_cons_succ]; rfl))
    | ((refine det_plain rfl ?_); (go_big_quiet_step (fail)); (refine wpQuiet_nil ?_))
  refine wpDet_nil ?_
  intro w1 B1
  clear q0 q1 r0 r1 hws t5
  have b31 := b3.kept B1
  have hT1 := hT0.kept B1
  have B10 := B0.trans (B1.mono B0.size)
  go_upto_region 4 with (fail)
  have t5 := hT1.tree.cell 5
  have m1 := b31.cell 1
  simp only [treeCells, Nd.cells, nodeCells, List.getElem?_toArray, List.getElem?_cons_zero, List.getElem?_cons_succ] at t5 m1
  refine wp_region_det (by kernel_rfl) (by kernel_rfl) ?_
  have q0 := KeptW.cell t5
  have q1 := KeptW.cell m1
  clear t5 m1
  repeat first
    | ((with_reducible apply det_nilG); rfl; rfl; (simp only [List.set_cons_zero, List.set_cons_succ]; rfl))
    | ((refine det_plain rfl ?_); (go_big_quiet_step (fail)); (refine wpQuiet_nil ?_))
  refine wpDet_nil ?_
  intro w2 B2
  clear q0 q1
  have b32 := b31.kept B2
  have hT2 := hT1.kept B2
  have B20 := B10.trans (B2.mono B10.size)
  have gN := b32.load (off := 0) (n := 3) (cs' := n.cells) (Nat.le_refl _) (Array.extract_eq_self_of_le (Nat.le_refl _))
  by_cases hL : p.L ≤ n.d
  · have gL : decide (p.L ≤ n.d) = true := by simp; omega
    have e1 : p.kids n = [p.kid n 0] := by unfold Pb.kids; rw [if_pos hL]
    have e2 : p.kidBits n = [0] := by unfold Pb.kidBits; rw [if_pos hL]
    have E1 := Lib.hid e1
    have E2 := Lib.hid e2
    clear e1 e2
    go_wp2_with ((with_reducible apply ld); rfl; (with_reducible assumption); (simp only [List.set_cons_zero, List.set_cons_succ]; rfl))
    refine (tree_oneT p hp h n hn _ hT2).mono ?_
    rintro e w3 ⟨⟨nb, bb, rfl, x1, x2, x3, x4, x5⟩, B3⟩
    go_wp2
    go_ret2
    rw [E1.out, E2.out]
    exact (show KidsPostT _ _ _ _ _ from ⟨⟨nb, bb, rfl, x1, x2, x3, Nat.le_trans B20.size x4, Nat.le_trans B20.size x5⟩, B20.trans (B3.mono B20.size)⟩)
  · have gL : decide (p.L ≤ n.d) = false := by simp; omega
    have e1 : p.kids n = p.twoK n := by unfold Pb.kids; rw [if_neg hL]
    have e2 : p.kidBits n = p.twoB n := by unfold Pb.kidBits; rw [if_neg hL]
    have E1 := Lib.hid e1
    have E2 := Lib.hid e2
    clear e1 e2
    go_wp2_with ((with_reducible apply ld); rfl; (with_reducible assumption); (simp only [List.set_cons_zero, List.set_cons_succ]; rfl))
    refine (tree_twoT p hp h n hn _ hT2).mono ?_
    rintro e w3 ⟨⟨nb, bb, rfl, x1, x2, x3, x4, x5⟩, B3⟩
    go_wp2
    go_ret2
    rw [E1.out, E2.out]
    exact (show KidsPostT _ _ _ _ _ from ⟨⟨nb, bb, rfl, x1, x2, x3, Nat.le_trans B20.size x4, Nat.le_trans B20.size x5⟩, B20.trans (B3.mono B20.size)⟩)
end Go.Proofs.Ytkjnmjilkhigaaa

/- Fano's machine, the program's: Path, Result, Run, the looks. -/
namespace Go.Proofs.Ytkjnmjilkhigaaa
open Go.RowKit

/-- THE ARM for 'make([]T, n)', the kind of block told. -/
theorem mkT {P : Program} {ops : Array Oper} {rest : List Oper} {l l' : List Value} {ds : List Deferred} {w : World} {Q : Exit → Act → World → Prop} {t e d size bytes : Nat} {n : Int} {kl kc : IntKind} {s x : Operand} {z : Value} {ty : TypeId} {ps : String} {af : Array Edge}
    [S : SlTy P t e] [E : ElTy P e z size bytes] (hs : (Act.mk l.toArray ds).eval s = .int kl n) (hx : (Act.mk l.toArray ds).eval x = .int kc n) (h0 : 0 ≤ n) (hb : (bytes : Int) * n ≤ 281474976710656) (h63 : n ≤ 9223372036854775807)
    (hl : l.set d (.slice (some ⟨w.heap.size, 0, none⟩) n.toNat n.toNat) = l')
    (h : ∀ w', BoxT w' w.heap.size (madeCells z.cells (n.toNat * size)) e → Below w.heap.size w w' → w'.heap.size = w.heap.size + 1 → wpList P ops Q rest ⟨l'.toArray, ds⟩ w') :
    wpList P ops Q (⟨some d, .makeSlice t s x, ty, ps, af, none⟩ :: rest) ⟨l.toArray, ds⟩ w := by
  obtain ⟨i, hi, hz0, hz1, hz2, hz3⟩ := E.out
  have hr := run_make (P := P) w t e i z S.out hi hz0 kl kc n n h0 (Int.le_refl _) (by rw [hz2]; exact hb) h63
  refine wpList_plain rfl fun K hK => ?_
  unfold Oper.wp execOp
  simp only [hs, hx, Sem.run_bind, hr, Result.andThen_ok, Sem.run_pure]
  rw [Oper.upon_value, put_list, hl]
  exact hK _ _ (h (w.alloc (.cells (madeCells z.cells (n.toNat * i.size)) e)) (by rw [← hz1]; exact heap_alloc_new w _) ((Below.refl _ w).alloc (Nat.le_refl _) _) (by simp))
theorem BoxT.setCell {w : World} {b i : Nat} {cs : Array Value} {t : TypeId} (h : BoxT w b cs t) (v : Value) : BoxT (w.setCell ⟨b, i, none⟩ v) b (cs.setIfInBounds i v) t := setCell_block w b i v cs t _ h
theorem BoxT.below {B : Nat} {w w' : World} {b : Nat} {cs : Array Value} {t : TypeId} (h : BoxT w b cs t) (hB : Below B w w') (hb : b < B) : BoxT w' b cs t := (hB.block b hb).trans h
theorem BoxT.owns {w : World} {b n : Nat} {cs : Array Value} {t : TypeId} (h : BoxT w b cs t) (hn : cs.size = n) (hm : n ≤ maxLen) (B : Nat) (hB : B ≤ b) : w.ownsRow B t 1 (.slice (some ⟨b, 0, none⟩) n n) n cs.toList :=
  ⟨by rw [Array.length_toList, hn, Nat.mul_one], .inr ⟨b, n, cs, rfl, hB, h, Nat.le_refl _, hm, by rw [hn, Nat.mul_one], by rw [Nat.mul_one, ← hn, ← Array.length_toList, List.take_length]⟩⟩
def fillTo (l : List Nat) (k : Nat) : List Nat := l.take k ++ List.replicate (l.length - k) 0
theorem fillTo_len (l : List Nat) {k : Nat} (h : k ≤ l.length) : (fillTo l k).length = l.length := by simp [fillTo]; omega
theorem fillTo_all (l : List Nat) : fillTo l l.length = l := by simp [fillTo]
theorem fillTo_zero (l : List Nat) : (u8s (fillTo l 0)).toArray = madeCells (Value.int .u8 0).cells l.length := by
  have e : fillTo l 0 = bitsTo l l.length 0 := by
    apply List.ext_getElem
    · simp [fillTo, bitsTo]
    · intro i h1 h2
      simp [fillTo, bitsTo]
  rw [e, bitsTo_zero]
theorem fillTo_get (l : List Nat) {k : Nat} (h : k < l.length) : (u8s (fillTo l k)).toArray[k]? = some (Value.int .u8 0) := by
  unfold u8s fillTo
  have e : (List.map (fun x : Nat => Value.int .u8 (x : Int)) (List.take k l)).length = k := by simp; omega
  rw [List.getElem?_toArray, List.map_append, List.getElem?_append_right (by omega), e, Nat.sub_self, List.map_replicate, List.getElem?_replicate]
  rw [if_pos (by omega)]
  rfl
theorem fillTo_set (l : List Nat) {k : Nat} (h : k < l.length) : (u8s (fillTo l k)).toArray.setIfInBounds k (.int .u8 (l[k] : Nat)) = (u8s (fillTo l (k + 1))).toArray := by
  apply Array.ext'
  simp only [Array.toList_setIfInBounds]
  unfold u8s fillTo
  rw [List.map_append, List.set_append_right _ _ (by simp; omega), List.take_succ_eq_append_getElem h, List.map_append, List.map_append, List.append_assoc]
  congr 1
  have e : (List.map (fun x => Value.int .u8 (x : Nat)) (List.take k l)).length = k := by simp; omega
  have e2 : l.length - k = (l.length - (k + 1)) + 1 := by omega
  rw [e, Nat.sub_self, e2, List.replicate_succ]
  rfl
theorem ownsN_load {w : World} {B : Nat} {e sz n c g : Nat} {xs : List Value} (h : w.ownsRow B e sz (.slice (some ⟨g, 0, none⟩) n c) n xs) {j m : Nat} (hj : j + m ≤ xs.length) : loadAgg w g j m = .ok (.agg ((xs.drop j).take m).toArray) w := by
  have hl := h.1
  rcases h.2 with ⟨h', _⟩ | ⟨g', cap, cur, hv, hb, hg, hnc, hcm, hcs, htake⟩
  · cases h'
  obtain ⟨rfl, rfl⟩ : g = g' ∧ c = cap := by simpa using hv
  have hle : n * sz ≤ c * sz := Nat.mul_le_mul_right _ hnc
  rw [loadAgg_block hg (by omega)]
  congr 2
  apply Array.ext'
  rw [Array.toList_extract, List.extract_eq_take_drop, ← htake, List.drop_take, List.take_take, Nat.add_sub_cancel_left]
  congr 1
  omega
theorem spotRows_drop : ∀ (l : List Spot) (i : Nat) (x : Spot), l[i]? = some x → ((spotRows l).drop (i * 5)).take 5 = x.row
  | [], _, _, h => by simp at h
  | y :: l, 0, x, h => by
    obtain rfl : y = x := by simpa using h
    unfold spotRows
    rw [Nat.zero_mul, List.drop_zero, List.flatMap_cons]
    exact List.take_left' rfl
  | y :: l, i + 1, x, h => by
    have ih := spotRows_drop l i x (by simpa using h)
    unfold spotRows at ih ⊢
    rw [List.flatMap_cons, show (i + 1) * 5 = y.row.length + i * 5 from by show _ = 5 + _; omega, ← List.drop_drop, List.drop_left' rfl]
    exact ih
theorem wayBits_get {x : Spot} {up : List Spot} {i : Nat} {y : Spot} (h : (x :: up).reverse[i + 1]? = some y) : (wayBits x up)[i]? = some y.b := by
  unfold wayBits
  rw [List.getElem?_map, List.getElem?_tail, h]
  rfl
theorem slice_all5 (g cap n : Nat) (h : 1 ≤ n) (w : World) : (Instr.sliceAt 90 (.slice (some ⟨g, 0, none⟩) n cap) (some (.int .i64 1)) none none).run Try.prog w = .ok (.slice (some ⟨g, if cap = 1 then 0 else 5, none⟩) (n - 1) (cap - 1)) w := by
  have T : AggTy Try.prog 108 5 := inferInstance
  have S : SlTy Try.prog 90 108 := inferInstance
  have h1 : ¬ n < 1 := by omega
  by_cases hc : cap = 1
  · subst hc
    simp [Instr.sliceAt, Instr.slice, Sem.run_bind, run_underlying S.out, Instr.sliceBounds, Instr.sliceBound, asIntOf, Sem.run_pure, h1, run_sizeOf (T := T), Addr.add, h]
    intro h2
    omega
  · simp [Instr.sliceAt, Instr.slice, Sem.run_bind, run_underlying S.out, Instr.sliceBounds, Instr.sliceBound, asIntOf, Sem.run_pure, h1, run_sizeOf (T := T), Addr.add, h, hc]
    intro h2
    omega
/-- The bits to where it stands, in new memory. -/
def PathPost (bs : List Nat) (w : World) (e : Ending) (w' : World) : Prop := (∃ g, e = .returned (.slice (some ⟨g, 0, none⟩) bs.length bs.length) ∧ BoxT w' g (u8s bs).toArray 5 ∧ w.heap.size ≤ g) ∧ Below w.heap.size w w'
set_option maxRecDepth 5000 in
theorem fano_Path (p : Pb) (hp : p.Ok) (hc : probChk p = 0) (D : Int) (s : Fm) (hs : s.Ok p D) (A : FA) (w : World) (h : FanoIn w p D s A) : Calls Try.prog 35 #[.pointer (some ⟨A.mb, 0, none⟩)] w (PathPost s.bits w) := by
  have hwl := (hs.way.facts hc).2.1
  have hNb := Pb.N_le hc
  have hbl : s.bits.length = s.up.length := wayBits_len _ _
  obtain ⟨J, hJ⟩ : ∃ J, J = s.up.length := ⟨_, rfl⟩
  rw [← hJ] at hwl hbl
  have HJ := Lib.hid hJ
  have HBL := Lib.hid hbl
  clear hJ hbl
  go_enter Try.func35, Try.ntmps35
  go_wp2_with fail
  refine (fano_none p hp D s A w h).mono ?_
  rintro e w1 ⟨rfl, B1⟩
  have h1 := h.kept B1
  have c42 : w1.cell? ⟨A.mb, 42, none⟩ = some (.slice (some ⟨A.way, 0, none⟩) (J + 1) A.cap) := HJ.out ▸ (h1.at_ hp).c42
  clear h
  go_upto_region 4 with ((with_reducible apply mkT); rfl; rfl; omega; omega; omega; (simp only [List.set_cons_zero, List.set_cons_succ]; rfl); intro w2 b2 B2 s2)
  rw [Nat.mul_one, Int.toNat_natCast] at b2
  obtain ⟨O, hO⟩ : ∃ O, O = if A.cap = 1 then 0 else 5 := ⟨_, rfl⟩
  have hsl : ∀ w, (Instr.sliceAt 90 (.slice (some ⟨A.way, 0, none⟩) (J + 1) A.cap) (some (.int .i64 1)) none none).run Try.prog w = .ok (.slice (some ⟨A.way, O, none⟩) J (A.cap - 1)) w := fun w => by
    rw [hO]
    exact slice_all5 A.way A.cap (J + 1) (by omega) w
  have HO := Lib.hid hO
  clear hO
  have h2 := h1.kept B2
  have c42 : w2.cell? ⟨A.mb, 42, none⟩ = some (.slice (some ⟨A.way, 0, none⟩) (J + 1) A.cap) := HJ.out ▸ (h2.at_ hp).c42
  have hcapJ : J + 1 ≤ A.cap := HJ.out ▸ ownsN_cap h2.way
  have HCAP := Lib.hid hcapJ
  have bz : BoxT w2 w1.heap.size (u8s (fillTo s.bits 0)).toArray 5 := by rw [fillTo_zero, HBL.out]; exact b2
  clear hcapJ b2
  go_wp2_with fail
  simp only [Int.toNat_natCast]
  have T20 : Below w1.heap.size w1 w2 := B2
  clear B2 s2 h2 hsl c42
  go_loopw [21] (fun i wr => ∃ k : Nat, k ≤ J ∧ i = .int .i64 k ∧ BoxT wr w1.heap.size (u8s (fillTo s.bits k)).toArray 5 ∧ Below w1.heap.size w1 wr) (fun i _ => J - (intOf i).toNat)
  case atStart => exact ⟨0, Nat.zero_le _, rfl, bz, T20⟩
  case round =>
    obtain ⟨k, hk, rfl, bR, TR⟩ := hrel
    clear bz T20
    by_cases hkJ : k < J
    · obtain ⟨hk2, hk3⟩ := ap_lt hkJ
      have hR := h1.kept TR
      have hO5 : O = 5 := by rw [HO.out, if_neg (by have := HCAP.out; omega)]
      have hlen : k + 1 < ((s.top :: s.up).reverse).length := by simp; have := HJ.out; omega
      obtain ⟨x, hx⟩ : ∃ x, ((s.top :: s.up).reverse)[k + 1]? = some x := ⟨_, List.getElem?_eq_getElem hlen⟩
      have hxb : s.bits[k]? = some x.b := wayBits_get hx
      have hkb : k < s.bits.length := by rw [HBL.out]; exact hkJ
      have hxe : ∀ h : k < s.bits.length, s.bits[k] = x.b := fun h => by rw [List.getElem?_eq_getElem h] at hxb; exact Option.some.inj hxb
      have gk : loadAgg wr A.way (O + k * 5) 5 = .ok (.agg #[.int .u32 x.n.s, .int .i64 x.n.d, .int .i64 x.n.m, .int .u8 x.b, .int .i64 x.t]) wr := by
        have hd := spotRows_drop _ _ _ hx
        have hl := ownsN_load hR.way (j := O + k * 5) (m := 5) (by rw [wayRow_len]; have := HJ.out; omega)
        have e : O + k * 5 = (k + 1) * 5 := by omega
        rw [e] at hl ⊢
        unfold wayRow at hl
        rw [hd] at hl
        exact hl
      have hsz := bR.box.lt
      have HX := Lib.hid (And.intro hxe hkb)
      have HO5 := Lib.hid hO5
      have bn := Box.new wr #[.int .u32 0, .int .i64 0, .int .i64 0, .int .u8 0, .int .i64 0] 108
      clear hxe hkb hxb hx hlen hO5 hR
      have kb : (k : Int) + 1 ≤ 9223372036854775807 := by omega
      go_upto_region 7 with (first | ((with_reducible apply ld); rfl; (with_reducible assumption); (simp only [List.set_cons_zero, List.set_cons_succ]; rfl)) | ((with_reducible apply stO); rfl; rfl; exact bn; rfl; rfl; exact flat5 x.n.s x.n.d x.n.m x.b x.t; intro w3 b3 B3 ho3 hs3))
      have B30 : Below wr.heap.size wr w3 := ((Below.refl _ wr).alloc (Nat.le_refl _) _).trans B3
      have b3' : Box w3 wr.heap.size #[.int .u32 x.n.s, .int .i64 x.n.d, .int .i64 x.n.m, .int .u8 x.b, .int .i64 x.t] := b3
      have bR3 := bR.kept B30
      have T3 := TR.trans (B30.mono TR.size)
      have c3 := b3'.cell 3
      simp only [List.getElem?_toArray, List.getElem?_cons_zero, List.getElem?_cons_succ] at c3
      have ck : w3.cell? ⟨w1.heap.size, k, none⟩ = some (.int .u8 0) := by
        exact (bR3.box.cell k).trans (fillTo_get _ HX.out.2)
      have cz := bR3.box.frozen k
      have hset : BoxT (w3.setCell ⟨w1.heap.size, k, none⟩ (.int .u8 x.b)) w1.heap.size (u8s (fillTo s.bits (k + 1))).toArray 5 := by
        have h := bR3.setCell (i := k) (.int .u8 x.b)
        rw [← HX.out.1 HX.out.2, fillTo_set _ HX.out.2] at h
        rw [← HX.out.1 HX.out.2]
        exact h
      have T4 := T3.setCell (p := ⟨w1.heap.size, k, none⟩) (Nat.le_refl _) (.int .u8 x.b)
      clear bn ho3 hs3 B3 b3 b3' bR TR gk bR3 T3 B30
      go_wp2_with fail
      go_roundw
      case measure => first | exact ap_meas' hkJ | exact ap_meas hkJ kb
      case rel => exact ⟨k + 1, hkJ, (by first | rfl | exact congrArg (Value.int .i64) (ap_succ kb)), hset, T4⟩
    · obtain rfl := ap_end hkJ hk
      have k3 : decide ((k : Int) < (k : Int)) = false := by simp
      have bF : BoxT wr w1.heap.size (u8s s.bits).toArray 5 := by rw [← HBL.out, fillTo_all] at bR; exact bR
      have hs1 := B1.size
      go_wp2
      go_ret
      refine (show PathPost _ _ _ _ from ⟨⟨w1.heap.size, (by rw [HBL.out]; first | rfl | simp), bF, hs1⟩, B1.trans (TR.mono hs1)⟩)
end Go.Proofs.Ytkjnmjilkhigaaa

/- Fano's machine, the program's: Run and the small looks. -/
namespace Go.Proofs.Ytkjnmjilkhigaaa
open Go.RowKit

theorem Turn.trans' {H H' : Nat → Prop} {A B C : World} (h : Turn H A B) (k : Turn H' B C) (hh : ∀ q, q < A.heap.size → ¬H q → ¬H' q) : Turn H A C :=
  ⟨k.os.trans h.os, k.tape.trans h.tape, k.output.trans h.output, Nat.le_trans h.size k.size, fun i hi hn => (k.block i (Nat.lt_of_lt_of_le hi h.size) (hh i hi hn)).trans (h.block i hi hn)⟩
theorem results_aggTmp {P : Program} {fn : Func} {t t1 ty n b : Nat} {tmps : Array Value} {w : World} {v v1 : Value} [T : AggTy P ty n] (h : fn.results = #[.cell t ty, .tmp t1]) (h1' : tmps.getD t1 undef = v1) (hp : tmps.getD t undef = .pointer (some ⟨b, 0, none⟩)) (hl : loadAgg w b 0 n = .ok v w) :
    (results fn tmps).run P w = .ok (.tuple #[v, v1]) w := by
  obtain ⟨d, h1, h2, h3⟩ := T.out
  have := run_loadVar_agg (P := P) (w := w) (b := b) (off := 0) h1 h2 h3 (by rw [hl]; rfl)
  simp only [Array.getD_eq_getD_getElem?] at hp h1'
  simp [results, h, hp, h1', asAddr, Sem.run_bind, this, hl]
theorem Turn.fano {w wr w2 : World} {A : FA} {g c : Nat} (h : Turn A.wr w wr) (hg : g = A.way ∨ w.heap.size ≤ g) (k : Turn ({ A with way := g, cap := c } : FA).wr wr w2) : Turn A.wr w w2 :=
  h.trans' k fun q hq hn hw => by
    rcases hw with hw | hw
    · exact hn (.inl hw)
    · have hw : q = g := hw
      rcases hg with e | e
      · exact hn (.inr (hw.trans e))
      · omega
set_option maxRecDepth 5000 in
theorem fano_Threshold (p : Pb) (hp : p.Ok) (D : Int) (s : Fm) (A : FA) (w : World) (h : FanoIn w p D s A) : Pure Try.prog 25 #[.pointer (some ⟨A.mb, 0, none⟩)] w (.int .i64 s.thr) := by
  go_enter Try.func25, Try.ntmps25
  go_wp2_with fail
  refine (fano_none p hp D s A w h).mono ?_
  rintro e w1 ⟨rfl, B1⟩
  have c43 := ((h.kept B1).at_ hp).c43
  go_wp2
  go_ret
  exact ⟨rfl, B1⟩
theorem fano_Least (p : Pb) (hp : p.Ok) (D : Int) (s : Fm) (A : FA) (w : World) (h : FanoIn w p D s A) : Pure Try.prog 24 #[.pointer (some ⟨A.mb, 0, none⟩)] w (.int .i64 s.low) := by
  go_enter Try.func24, Try.ntmps24
  go_wp2_with fail
  refine (fano_none p hp D s A w h).mono ?_
  rintro e w1 ⟨rfl, B1⟩
  have c44 := ((h.kept B1).at_ hp).c44
  go_wp2
  go_ret
  exact ⟨rfl, B1⟩
set_option maxRecDepth 5000 in
theorem fano_Node (p : Pb) (hp : p.Ok) (hc : probChk p = 0) (D : Int) (s : Fm) (hs : s.Ok p D) (A : FA) (w : World) (h : FanoIn w p D s A) : Pure Try.prog 33 #[.pointer (some ⟨A.mb, 0, none⟩)] w (.tuple #[.agg s.top.n.cells, .bool true]) := by
  have hwl := (hs.way.facts hc).2.1
  have hNb := Pb.N_le hc
  go_enter Try.func33, Try.ntmps33
  go_upto_region 1 with fail
  refine name1 ?_
  intro w0 b2 B0
  have h0 := h.kept B0
  go_wp2_with fail
  refine (fano_none p hp D s A w0 h0).mono ?_
  rintro e w1 ⟨rfl, B1⟩
  have h1 := h0.kept B1
  have b21 := b2.kept B1
  go_wp2_with fail
  refine (fano_here p hp D s (by omega) A w1 h1).mono ?_
  rintro e w2 ⟨rfl, B2⟩
  have h2 := h1.kept B2
  have b22 := b21.kept B2
  have gx := h2.top.1
  have B20 := bOn (bOn B0 B1) B2
  clear h0 h1 h2 b2 b21
  go_wp2_with (first | ((with_reducible apply ld); rfl; (with_reducible assumption); (simp only [List.set_cons_zero, List.set_cons_succ]; rfl)) | ((with_reducible apply stO); rfl; rfl; exact b22; rfl; rfl; exact nodeCells_flat s.top.n.s s.top.n.d s.top.n.m; intro w3 b3 B3 ho3 hs3))
  refine bodyPost_ret (results_aggTmp rfl rfl rfl (b3.load (off := 0) (n := 3) (cs' := s.top.n.cells) (Nat.le_refl _) (Array.extract_eq_self_of_le (Nat.le_refl _)))) rfl ?_
  exact ⟨rfl, B20.trans (B3.mono (by have := B0.size; omega))⟩
def FRunPost (p : Pb) (D : Int) (s' : Fm) (A : FA) (w : World) (e : Ending) (w' : World) : Prop :=
  e = .returned (.tuple #[.bool s'.done, .int .i64 0]) ∧ (∃ g c, FanoIn w' p D s' { A with way := g, cap := c } ∧ (g = A.way ∨ w.heap.size ≤ g)) ∧ Turn A.wr w w'
set_option maxRecDepth 5000 in
theorem fano_Run_bad (p : Pb) (hp : p.Ok) (D : Int) (s : Fm) (A : FA) (b : Int) (hb : b < 0 ∨ 1048576 < b) (w : World) (h : FanoIn w p D s A) : Pure Try.prog 29 #[.pointer (some ⟨A.mb, 0, none⟩), .int .i64 b] w (.tuple #[.bool false, .int .i64 1]) := by
  rcases hb with hb | hb
  · have h1 : decide (b < 0) = true := by simpa using hb
    go_enter Try.func29, Try.ntmps29
    go_wp2_with fail
    refine (fano_none p hp D s A w h).mono ?_
    rintro e w1 ⟨rfl, B1⟩
    go_wp2
    go_ret2
    exact ⟨rfl, B1⟩
  · have h1 : decide (b < 0) = false := by simpa using (show 0 ≤ b by omega)
    have h2 : decide (1048576 < b) = true := by simpa using hb
    go_enter Try.func29, Try.ntmps29
    go_wp2_with fail
    refine (fano_none p hp D s A w h).mono ?_
    rintro e w1 ⟨rfl, B1⟩
    go_wp2
    go_ret2
    exact ⟨rfl, B1⟩
set_option maxRecDepth 5000 in
theorem fano_Run (p : Pb) (hp : p.Ok) (hc : probChk p = 0) (D : Int) (hD : 1 ≤ D) (hD2 : D ≤ 65536) (s : Fm) (hs : s.Ok p D) (A : FA) (b : Nat) (hb : b ≤ 1048576) (w : World) (h : FanoIn w p D s A) :
    Calls Try.prog 29 #[.pointer (some ⟨A.mb, 0, none⟩), .int .i64 b] w (FRunPost p D (p.frun D b s) A w) := by
  have h1 : decide ((b : Int) < 0) = false := by simp
  have h2 : decide ((1048576 : Int) < b) = false := by simp; omega
  go_enter Try.func29, Try.ntmps29
  go_wp2_with fail
  refine (fano_none p hp D s A w h).mono ?_
  rintro e w1 ⟨rfl, B1⟩
  have hm1 := h.kept B1
  have T1 : Turn A.wr w w1 := Turn.ofBelow B1
  clear h B1
  go_wp2_with fail
  go_loopw [6] (fun v wr => ∃ k : Nat, k ≤ b ∧ v = .int .i64 k ∧ (∃ g c, FanoIn wr p D (p.frun D k s) { A with way := g, cap := c } ∧ (g = A.way ∨ w.heap.size ≤ g)) ∧ Turn A.wr w wr) (fun v _ => b - (intOf v).toNat)
  case atStart => exact ⟨0, Nat.zero_le _, rfl, ⟨A.way, A.cap, hm1, .inl rfl⟩, T1⟩
  case round =>
    obtain ⟨k, hk, rfl, ⟨g, c, hR, hgw⟩, TR⟩ := hrel
    clear hm1 T1 h1 h2
    have hok := hs.run hc hD k
    obtain ⟨sk, hsk⟩ : ∃ sk, sk = p.frun D k s := ⟨_, rfl⟩
    rw [← hsk] at hR hok
    have HS := Lib.hid hsk
    clear hsk
    have c46 : wr.cell? ⟨A.mb, 46, none⟩ = some (.bool sk.done) := (hR.at_ hp).c46
    by_cases hkb : k < b
    · obtain ⟨hk2, hk3⟩ := ap_lt hkb
      cases hdn : sk.done with
      | true =>
        rw [hdn] at c46
        have HE : Hid (p.frun D b s = sk) := Lib.hid (by
          have e : b = k + (b - k) := by omega
          rw [e, p.frun_add, ← HS.out]
          exact p.frun_done D _ hdn)
        have HDN := Lib.hid hdn
        clear hdn
        go_wp2_with fail
        go_ret2
        rw [HE.out]
        refine (show FRunPost _ _ _ _ _ _ _ from ⟨(by rw [HDN.out]; rfl), ⟨g, c, hR, hgw⟩, TR⟩)
      | false =>
        rw [hdn] at c46
        have HDN := Lib.hid hdn
        clear hdn
        have hlook := fano_look p hp hc D hD hD2 sk hok HDN.out { A with way := g, cap := c } wr hR
        have hlook : Calls Try.prog 51 #[.pointer (some ⟨A.mb, 0, none⟩)] wr (FLookPost p D (p.flook D sk) { A with way := g, cap := c } wr) := hlook
        go_wp2_with fail
        refine hlook.mono ?_
        rintro e w2 ⟨rfl, ⟨g2, c2, hM, hg2⟩, T2⟩
        have hM : FanoIn w2 p D (p.flook D sk) { A with way := g2, cap := c2 } := hM
        have hg2 : g2 = g ∨ wr.heap.size ≤ g2 := hg2
        have hw := hok
        have f45 : w2.frozen? ⟨A.mb, 45, none⟩ = false := (hM.at_ hp).fz 45
        have e45 : w2.cell? ⟨A.mb, 45, none⟩ = some (.int .i64 sk.work) := by
          have := (hM.at_ hp).c45
          have e : (p.flook D sk).work = sk.work := by unfold Pb.flook; split <;> rfl
          rw [e] at this
          exact this
        have h12 : FanoIn (w2.setCell ⟨A.mb, 45, none⟩ (.int .i64 (wrap64 (sk.work + 1)))) p D (p.fstep D sk) { A with way := g2, cap := c2 } := hM.work hp (wrap64 (sk.work + 1))
        have T12 : Turn A.wr w (w2.setCell ⟨A.mb, 45, none⟩ (.int .i64 (wrap64 (sk.work + 1)))) := (TR.fano hgw T2).set (q := ⟨A.mb, 45, none⟩) (.inl rfl) _
        have hgn : g2 = A.way ∨ w.heap.size ≤ g2 := by
          have := TR.size
          rcases hg2 with e | e
          · rcases hgw with e' | e'
            · exact .inl (e.trans e')
            · exact .inr (by omega)
          · exact .inr (by omega)
        have HN : Hid (p.frun D (k + 1) s = p.fstep D sk) := Lib.hid (by rw [p.frun_snoc, ← HS.out, HDN.out]; rfl)
        have kb : (k : Int) + 1 ≤ 9223372036854775807 := by omega
        clear hM T2 TR hR c46 hlook hgw hg2
        go_wp2_with fail
        go_roundw
        case measure => first | exact ap_meas' hkb | exact ap_meas hkb kb
        case rel => exact ⟨k + 1, hkb, (by first | rfl | exact congrArg (Value.int .i64) (ap_succ kb)), ⟨g2, c2, by rw [HN.out]; exact h12, hgn⟩, T12⟩
    · obtain rfl := ap_end hkb hk
      have k3 : decide ((k : Int) < (k : Int)) = false := by simp
      go_wp2_with fail
      go_ret2
      rw [← HS.out]
      exact (show FRunPost _ _ _ _ _ _ _ from ⟨rfl, ⟨g, c, hR, hgw⟩, TR⟩)
end Go.Proofs.Ytkjnmjilkhigaaa
