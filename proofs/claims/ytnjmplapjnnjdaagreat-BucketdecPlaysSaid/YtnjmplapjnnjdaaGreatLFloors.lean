import Derived.Test.YtnjmplapjnnjdaaGreatSeq
import Derived.Test.YtnjmplapjnnjdaaGreatTrel3
import Derived.Test.YtnjmplapjnnjdaaGreatDocCount
import Derived.Test.YtnjmplapjnnjdaaGreatNoTree
import Derived.Test.YtnjmplapjnnjdaaGreatFill
set_option linter.unusedSimpArgs false
set_option linter.unusedVariables false
set_option linter.unnecessarySimpa false
/- The walk of the spoiling of a row that was lent. -/
namespace Go.Proofs.YtnjmplapjnnjdaaGreat
open Go.RowKit

/-- A row of n bytes at the head of a block. -/
def Row8 (w : World) (g n : Nat) : Prop := ∃ cs, Box w g cs ∧ ∀ j, j < n → ∃ u : Int, cs[j]? = some (.int .u8 u)
theorem Row8.kept {w w' : World} {g n : Nat} (h : Row8 w g n) (hB : Below w.heap.size w w') : Row8 w' g n := by
  obtain ⟨cs, hb, hc⟩ := h
  exact ⟨cs, hb.kept hB, hc⟩
theorem Row8.set {w : World} {g n j : Nat} (h : Row8 w g n) (u : Int) : Row8 (w.setCell ⟨g, j, none⟩ (.int .u8 u)) g n := by
  obtain ⟨cs, hb, hc⟩ := h
  refine ⟨_, hb.setCell _, fun k hk => ?_⟩
  by_cases hkj : k = j
  · subst hkj
    obtain ⟨u', hu'⟩ := hc k hk
    have hlt := (Array.getElem?_eq_some_iff.1 hu').1
    exact ⟨u, by simp [Array.getElem?_setIfInBounds, hlt]⟩
  · rw [Array.getElem?_setIfInBounds_ne (Ne.symm hkj)]
    exact hc k hk
theorem Row8.at_ {w : World} {g n j : Nat} (h : Row8 w g n) (hj : j < n) : (∃ u : Int, w.cell? ⟨g, j, none⟩ = some (.int .u8 u)) ∧ w.frozen? ⟨g, j, none⟩ = false := by
  obtain ⟨cs, hb, hc⟩ := h
  obtain ⟨u, hu⟩ := hc j hj
  exact ⟨⟨u, (hb.cell j).trans hu⟩, hb.frozen j⟩
theorem law01_Spoil (g n c : Nat) (hn : (n : Int) ≤ 9223372036854775807) (w : World) (hr : Row8 w g n) :
    Calls Tryz.prog 10 #[.slice (some ⟨g, 0, none⟩) n c] w fun e w' => e = .returned (.tuple #[]) ∧ But g w w' := by
  go_enter Tryz.func10, Tryz.ntmps10
  go_wp2_with fail
  go_loopw [2] (fun i wr => ∃ k : Nat, k ≤ n ∧ i = .int .i64 k ∧ Row8 wr g n ∧ But g w wr) (fun i _ => n - (intOf i).toNat)
  case atStart => exact ⟨0, by omega, rfl, hr, But.refl _ _⟩
  case round =>
    obtain ⟨k, hk, rfl, hR, hB⟩ := hrel
    by_cases hkl : k < n
    · obtain ⟨⟨u, hu⟩, hz⟩ := hR.at_ hkl
      have hk2 : decide ((k : Int) < n) = true := by simp; omega
      have hk3 : (k : Int) < n := by omega
      have hset := fun v => hR.set (j := k) v
      have hb2 := fun v => hB.trans (But.setCell wr ⟨g, k, none⟩ (.int .u8 v))
      go_wp2
      go_roundw
      case measure => simp only [intOf]; omega
      case rel => exact ⟨k + 1, by omega, by go_num, hset _, hb2 _⟩
    · go_wp2
      refine bodyPost_end (results_nil rfl) rfl ?_
      exact ⟨rfl, hB⟩
/-- What was lent, as a row. -/
theorem Lend.row {w : World} {B : Nat} {v : Value} {l : List Nat} (h : Lend w B v l) : ∃ g c, v = .slice (some ⟨g, 0, none⟩) l.length c ∧ Row8 w g l.length ∧ B ≤ g := by
  obtain ⟨g, c, hv, hc, ho⟩ := h
  have hl := ho.1
  rcases ho.2 with ⟨h, _⟩ | ⟨g', cap, cur, h1, h2, h3, h4, h5, h6, h7⟩
  · cases h
  obtain ⟨rfl, rfl⟩ : g = g' ∧ c = cap := by simpa using h1
  refine ⟨g, c, hv, ⟨cur, ⟨_, h3⟩, fun j hj => ?_⟩, h2⟩
  have e1 : cur[j]? = (u8s (l ++ marks8))[j]? := by
    rw [← h7, Nat.mul_one, List.getElem?_take, if_pos (by omega), Array.getElem?_toList]
  have hj2 : j < (l ++ marks8).length := by rw [List.length_append]; omega
  exact ⟨_, e1.trans (u8s_get hj2)⟩
end Go.Proofs.YtnjmplapjnnjdaaGreat

/- Kids of any node, the program's and the document's alike. -/
namespace Go.Proofs.YtnjmplapjnnjdaaGreat
open Go.RowKit

open Classical in
noncomputable def Pb.kidsG (p : Pb) (n : Nd) : List Nd := if p.bare n then [] else p.kids n
open Classical in
noncomputable def Pb.bitsG (p : Pb) (n : Nd) : List Nat := if p.bare n then [] else p.kidBits n
def KidsG (p : Pb) (n : Nd) (w : World) (e : Ending) (w' : World) : Prop :=
  (∃ a b c1 c2, e = .returned (.tuple #[.slice a (p.kidsG n).length c1, .slice b (p.bitsG n).length c2]) ∧ Nodes w' a (p.kidsG n) ∧ Bytes w' b (p.bitsG n)) ∧ Below w.heap.size w w'
theorem Bytes.nil (w : World) (a : Option Addr) : Bytes w a [] := ⟨fun k hk => by simp at hk, by simp⟩
theorem Pb.kidBits_lt (p : Pb) (n : Nd) : ∀ x ∈ p.kidBits n, x < 256 := by
  intro x hx
  unfold Pb.kidBits Pb.twoB at hx
  split at hx
  · simp at hx; omega
  · split at hx <;> simp at hx <;> omega
theorem KidsPost.g {p : Pb} {n : Nd} (hn : ¬p.bare n) {w w' : World} {e : Ending} (h : KidsPost (p.kids n) (p.kidBits n) w e w') : KidsG p n w e w' := by
  obtain ⟨⟨nb, bb, rfl, x1, x2, x3, x4, x5⟩, B⟩ := h
  unfold KidsG Pb.kidsG Pb.bitsG
  rw [if_neg hn, if_neg hn]
  exact ⟨⟨_, _, _, _, rfl, Nodes.ofBox x1, Box.bytes x2 (p.kidBits_lt n)⟩, B⟩
theorem DocIn.setOther {w : World} {p : Pb} {tb g c : Nat} (h : DocIn w p tb g c) {q : Addr} (hq : q.block ≠ tb ∧ q.block ≠ g) (v : Value) : DocIn (w.setCell q v) p tb g c :=
  ⟨h.tree.setOther hq.1 v, h.win.block (Below.heap_setCell _ _ _ _ (Ne.symm hq.2))⟩
end Go.Proofs.YtnjmplapjnnjdaaGreat

/- A tree's Kids once more, and the kind of block that its bits lie in. -/
namespace Go.Proofs.YtnjmplapjnnjdaaGreat
open Go.RowKit

def BoxT (w : World) (b : Nat) (cs : Array Value) (t : TypeId) : Prop := w.heap[b]? = some (.cells cs t (0, 0))
theorem BoxT.box {w : World} {b : Nat} {cs : Array Value} {t : TypeId} (h : BoxT w b cs t) : Box w b cs := ⟨t, h⟩
theorem BoxT.new (w : World) (cs : Array Value) (t : TypeId) : BoxT (w.alloc (.cells cs t)) w.heap.size cs t := heap_alloc_new _ _
theorem BoxT.kept {w w' : World} {b : Nat} {cs : Array Value} {t : TypeId} (h : BoxT w b cs t) (hB : Below w.heap.size w w') : BoxT w' b cs t := (hB.block b (Box.lt ⟨t, h⟩)).trans h
/-- Kids and their bits, in new memory, the bits' kind of block told. -/
def KidsPostT (l : List Nd) (bs : List Nat) (w : World) (e : Ending) (w' : World) : Prop :=
  (∃ nb bb, e = .returned (.tuple #[.slice (some ⟨nb, 0, none⟩) l.length l.length, .slice (some ⟨bb, 0, none⟩) bs.length bs.length]) ∧ Box w' nb (ndCells l) ∧ BoxT w' bb (u8s bs).toArray 5 ∧ nb ≠ bb ∧ w.heap.size ≤ nb ∧ w.heap.size ≤ bb) ∧ Below w.heap.size w w'
section
variable {P : Program} {ops : Array Oper} {w0 : World}
theorem free_sliceT {rest : List Oper} {l : List Value} {ds : List Deferred} {S : World → Prop} {Q : Act → (World → Prop) → Prop} {d n : Nat} {t e : TypeId} {parts : Array (Nat × Operand)} {cs : Array Value} {ty : TypeId} {ps : String} {af : Array Edge}
    (hQ : Anti Q) (hr : ∀ w, (Instr.buildSlice t n (parts.map fun (i, x) => (i, (Act.mk l.toArray ds).eval x))).run P w = .ok (.slice (some ⟨w.heap.size, 0, none⟩) n n) (w.alloc (.cells cs e)))
    (hn : ∀ b, w0.heap.size ≤ b → wpFree P false ops w0 Q rest ⟨(l.set d (.slice (some ⟨b, 0, none⟩) n n)).toArray, ds⟩ (fun w => S w ∧ BoxT w b cs e)) :
    wpFree P false ops w0 Q (⟨some d, .buildSlice t n parts, ty, ps, af, none⟩ :: rest) ⟨l.toArray, ds⟩ S := by
  refine free_value rfl (fun v w => ∃ b, v = .slice (some ⟨b, 0, none⟩) n n ∧ w0.heap.size ≤ b ∧ BoxT w b cs e) (fun v x y hx ⟨b, h1, h2, h3⟩ => ⟨b, h1, h2, h3.kept hx⟩) (fun w hw => ⟨_, _, ?_, (Below.refl _ w).alloc (Nat.le_refl _) _, ⟨w.heap.size, rfl, hw.size, BoxT.new w cs e⟩⟩) ?_
  · unfold execOp
    simp only [Sem.run_bind, hr w, Result.andThen_ok, Sem.run_pure]
  · rintro v ⟨_, _, b, rfl, hb, _⟩
    rw [put_list]
    refine wpFree_anti hQ _ _ _ _ (fun w h => ⟨h.1, ?_⟩) (hn b hb)
    obtain ⟨b', h1, _, h3⟩ := h.2
    obtain rfl : b = b' := by simpa using h1
    exact h3
end

set_option maxRecDepth 5000 in
theorem tree_oneT (p : Pb) (hp : p.Ok) (h : probChk p = 0) {tb pb rb g c : Nat} (n : Nd) (hn : p.In n) (w : World) (hT : TreeIn w p tb pb rb g c) :
    Calls Tryz.prog 86 #[.pointer (some ⟨tb, 0, none⟩), .agg n.cells] w (KidsPostT [p.kid n 0] [0] w) := by
  go_enter Tryz.func86, Tryz.ntmps86
  go_upto_region 1 with (fail)
  refine name1 ?_
  intro w0 b3 B0
  have hT0 := hT.kept B0
  have t2 := hT0.tree.cell 2
  simp only [treeCells, List.getElem?_toArray, List.getElem?_cons_zero, List.getElem?_cons_succ] at t2
  have gN := b3.load (off := 0) (n := 3) (cs' := n.cells) (Nat.le_refl _) (Array.extract_eq_self_of_le (Nat.le_refl _))
  have hks : (p.kid n 0).cells.size = 3 := rfl
  (refine wp_region_free 6 (by kernel_rfl) (by kernel_rfl) ?_; simp only [List.take_succ_cons, List.take_zero, List.drop_succ_cons, List.drop_zero])
  have q2 := KeptW.cell t2
  repeat first
    | ((refine det_plain rfl ?_); ((with_reducible apply q_ld); rfl; (with_reducible assumption); (simp only [List.set_cons_zero, List.set_cons_succ]; rfl)); (refine wpQuiet_nil ?_))
    | ((with_reducible apply det_nilG); rfl; rfl; (simp only [List.set_cons_zero, List.set_cons_succ]; rfl))
    | ((with_reducible apply det_call); rfl; infer_instance; rfl; (intro w1 B1; exact tree_kid' p hp h n hn 0 (by omega) (by omega) _ (hT0.kept B1)); (simp only [List.set_cons_zero, List.set_cons_succ]; rfl))
    | ((refine det_plain rfl ?_); (go_big_quiet_step (fail)); (refine wpQuiet_nil ?_))
  refine wpDet_nil ?_
  refine free_slice anti_region (cs := ndCells [p.kid n 0]) (e := 66) ?_ ?_
  · intro w1
    go_simp
    rfl
  intro nb hnb
  simp only [List.set_cons_zero, List.set_cons_succ]
  refine free_sliceT anti_region (cs := #[.int .u8 0]) (e := 5) ?_ ?_
  · intro w1
    go_simp
  intro bb hbb
  simp only [List.set_cons_zero, List.set_cons_succ]
  ((with_reducible apply free_assignT); exact anti_region; rfl; (simp only [List.set_cons_zero, List.set_cons_succ]; rfl))
  ((with_reducible apply free_assignT); exact anti_region; rfl; (simp only [List.set_cons_zero, List.set_cons_succ]; rfl))
  intro w2 B2 hS
  obtain ⟨⟨_, h1⟩, h2⟩ := hS
  go_wp2
  go_ret2
  refine (show KidsPostT _ _ _ _ _ from ⟨⟨nb, bb, rfl, h1, h2, h1.ne (BoxT.box h2) (by simp [ndCells, Nd.cells, nodeCells]), by have := B0.size; omega, by have := B0.size; omega⟩, B0.trans (B2.mono B0.size)⟩)
set_option maxRecDepth 5000 in
theorem tree_twoT (p : Pb) (hp : p.Ok) (h : probChk p = 0) {tb pb rb g c : Nat} (n : Nd) (hn : p.In n) (w : World) (hT : TreeIn w p tb pb rb g c) :
    Calls Tryz.prog 85 #[.pointer (some ⟨tb, 0, none⟩), .agg n.cells] w (KidsPostT (p.twoK n) (p.twoB n) w) := by
  go_enter Tryz.func85, Tryz.ntmps85
  go_upto_region 1 with (fail)
  refine name1 ?_
  intro w0 b3 B0
  have hT0 := hT.kept B0
  have t2 := hT0.tree.cell 2
  simp only [treeCells, List.getElem?_toArray, List.getElem?_cons_zero, List.getElem?_cons_succ] at t2
  have gN := b3.load (off := 0) (n := 3) (cs' := n.cells) (Nat.le_refl _) (Array.extract_eq_self_of_le (Nat.le_refl _))
  obtain ⟨k0, hk0⟩ : ∃ k, k = p.kid n 0 := ⟨_, rfl⟩
  obtain ⟨k1, hk1⟩ : ∃ k, k = p.kid n 1 := ⟨_, rfl⟩
  have c0 : ∀ w1, Ext w0 w1 → Pure Tryz.prog 36 #[.agg n.cells, .int .u8 0, .pointer (some ⟨pb, 0, none⟩), .pointer (some ⟨rb, 0, none⟩)] w1 (.agg k0.cells) := fun w1 B1 => hk0 ▸ tree_kid' p hp h n hn 0 (by omega) (by omega) _ (hT0.kept B1)
  have c1 : ∀ w1, Ext w0 w1 → Pure Tryz.prog 36 #[.agg n.cells, .int .u8 1, .pointer (some ⟨pb, 0, none⟩), .pointer (some ⟨rb, 0, none⟩)] w1 (.agg k1.cells) := fun w1 B1 => hk1 ▸ tree_kid' p hp h n hn 1 (by omega) (by omega) _ (hT0.kept B1)
  have HK0 := Lib.hid hk0; clear hk0
  have HK1 := Lib.hid hk1; clear hk1
  refine wp_region_known 12 2 (by kernel_rfl) (by kernel_rfl) ?_
  simp only [List.take_succ_cons, List.take_zero, List.drop_succ_cons, List.drop_zero]
  have q2 := KeptW.cell t2
  repeat first
    | ((refine det_plain rfl ?_); ((with_reducible apply q_ld); rfl; (with_reducible assumption); (simp only [List.set_cons_zero, List.set_cons_succ]; rfl)); (refine wpQuiet_nil ?_))
    | ((with_reducible apply det_nilG); rfl; rfl; (simp only [List.set_cons_zero, List.set_cons_succ]; rfl))
    | ((with_reducible apply det_call (x := .tmp 11)); rfl; infer_instance; rfl; exact c0; (simp only [List.set_cons_zero, List.set_cons_succ]; rfl))
    | ((with_reducible apply det_call (x := .tmp 17)); rfl; infer_instance; rfl; exact c1; (simp only [List.set_cons_zero, List.set_cons_succ]; rfl))
    | ((refine det_plain rfl ?_); (go_big_quiet_step (fail)); (refine wpQuiet_nil ?_))
  refine wpDet_nil ?_
  clear q2 gN t2 c0 c1
  refine two_allocs 12 13 (by kernel_rfl) (by omega) (by omega) (by kernel_rfl) (by kernel_rfl) (by kernel_rfl) (by omega) rfl rfl (by omega) (cs1 := #[.int .u32 0, .int .i64 0, .int .i64 0]) (cs2 := #[.int .u32 0, .int .i64 0, .int .i64 0]) (by intro w1; go_simp) (by intro w1; go_simp) ?_
  intro b6 b7 w1 h6 h7 hne B1 x6 x7
  simp only [List.set_cons_zero, List.set_cons_succ]
  have f0 : Flat k0.cells := nodeCells_flat _ _ _
  have f1 : Flat k1.cells := nodeCells_flat _ _ _
  refine stO rfl rfl x6 rfl rfl f0 ?_
  intro w2 y6 B2 o2 s2
  have y7 : Box w2 b7 #[.int .u32 0, .int .i64 0, .int .i64 0] := by
    obtain ⟨t, ht⟩ := x7
    exact ⟨t, (o2 b7 (Ne.symm hne)).trans ht⟩
  refine stO rfl rfl y7 rfl rfl f1 ?_
  intro w3 z7 B3 o3 s3
  have z6 : Box w3 b6 k0.cells := by
    obtain ⟨t, ht⟩ := y6
    exact ⟨t, (o3 b6 hne).trans ht⟩
  have B30 : Below w.heap.size w w3 := (B0.trans (B1.mono B0.size)).trans ((B2.mono (Nat.le_trans B0.size h6)).trans (B3.mono (Nat.le_trans B0.size h7)))
  clear s2 s3 o2 o3 y6 y7 x6 x7
  have g6 := z6.load (off := 0) (n := 3) (cs' := k0.cells) (Nat.le_refl _) (Array.extract_eq_self_of_le (Nat.le_refl _))
  have g7 := z7.load (off := 0) (n := 3) (cs' := k1.cells) (Nat.le_refl _) (Array.extract_eq_self_of_le (Nat.le_refl _))
  by_cases hlt : k0.m < k1.m
  · have m6 := z6.cell 2
    have m7 := z7.cell 2
    simp only [Nd.cells, nodeCells, List.getElem?_toArray, List.getElem?_cons_zero, List.getElem?_cons_succ] at m6 m7
    go_upto_region 3 with (fail)
    clear m6 m7
    go_wp2_with (first | ((with_reducible apply ld); rfl; (with_reducible assumption); (simp only [List.set_cons_zero, List.set_cons_succ]; rfl)) | ((with_reducible apply w_slice (d := 27) (cs := ndCells [k0, k1]) (e := 66)); ((simp only [List.map_toArray, List.map_cons, List.map_nil]); exact build_two k0 k1 _)))
    go_ret2
    have e1 : p.twoK n = [k0, k1] := by rw [HK0.out, HK1.out] at hlt ⊢; unfold Pb.twoK; rw [if_pos hlt]
    have e2 : p.twoB n = [0, 1] := by rw [HK0.out, HK1.out] at hlt; unfold Pb.twoB; rw [if_pos hlt]
    rw [e1, e2]
    have fin1 := (Box.new w3 (ndCells [k0, k1]) 66).alloc (.cells #[.int .u8 0, .int .u8 1] 5)
    have fin2 : BoxT ((w3.alloc (.cells (ndCells [k0, k1]) 66)).alloc (.cells #[.int .u8 0, .int .u8 1] 5)) (w3.heap.size + 1) #[.int .u8 0, .int .u8 1] 5 := by simpa using BoxT.new (w3.alloc (.cells (ndCells [k0, k1]) 66)) #[.int .u8 0, .int .u8 1] 5
    have hsz := B30.size
    refine (show KidsPostT _ _ _ _ _ from ⟨⟨w3.heap.size, w3.heap.size + 1, rfl, fin1, fin2, by omega, hsz, by omega⟩, B30.trans (((Below.refl _ _).alloc hsz _).alloc (by simp; omega) _)⟩)
  · have m6 := z6.cell 2
    have m7 := z7.cell 2
    simp only [Nd.cells, nodeCells, List.getElem?_toArray, List.getElem?_cons_zero, List.getElem?_cons_succ] at m6 m7
    go_upto_region 4 with (fail)
    clear m6 m7
    go_wp2_with (first | ((with_reducible apply ld); rfl; (with_reducible assumption); (simp only [List.set_cons_zero, List.set_cons_succ]; rfl)) | ((with_reducible apply w_slice (d := 31) (cs := ndCells [k1, k0]) (e := 66)); ((simp only [List.map_toArray, List.map_cons, List.map_nil]); exact build_two k1 k0 _)))
    go_ret2
    have e1 : p.twoK n = [k1, k0] := by rw [HK0.out, HK1.out] at hlt ⊢; unfold Pb.twoK; rw [if_neg (by omega)]
    have e2 : p.twoB n = [1, 0] := by rw [HK0.out, HK1.out] at hlt; unfold Pb.twoB; rw [if_neg (by omega)]
    rw [e1, e2]
    have fin1 := (Box.new w3 (ndCells [k1, k0]) 66).alloc (.cells #[.int .u8 1, .int .u8 0] 5)
    have fin2 : BoxT ((w3.alloc (.cells (ndCells [k1, k0]) 66)).alloc (.cells #[.int .u8 1, .int .u8 0] 5)) (w3.heap.size + 1) #[.int .u8 1, .int .u8 0] 5 := by simpa using BoxT.new (w3.alloc (.cells (ndCells [k1, k0]) 66)) #[.int .u8 1, .int .u8 0] 5
    have hsz := B30.size
    refine (show KidsPostT _ _ _ _ _ from ⟨⟨w3.heap.size, w3.heap.size + 1, rfl, fin1, fin2, by omega, hsz, by omega⟩, B30.trans (((Below.refl _ _).alloc hsz _).alloc (by simp; omega) _)⟩)
set_option maxRecDepth 5000 in
theorem tree_KidsT (p : Pb) (hp : p.Ok) (h : probChk p = 0) {tb pb rb g c : Nat} (n : Nd) (hn : p.In n) (w : World) (hT : TreeIn w p tb pb rb g c) :
    Calls Tryz.prog 74 #[.pointer (some ⟨tb, 0, none⟩), .agg n.cells] w (KidsPostT (p.kids n) (p.kidBits n) w) := by
  obtain ⟨s0, s1, d0, d1⟩ := hn
  have hn : p.In n := ⟨s0, s1, d0, d1⟩
  go_enter Tryz.func74, Tryz.ntmps74
  go_upto_region 1 with (fail)
  refine name1 ?_
  intro w0 b3 B0
  have hT0 := hT.kept B0
  have t0 := hT0.tree.cell 0
  have t1 := hT0.tree.cell 1
  have t5 := hT0.tree.cell 5
  have m0 := b3.cell 0
  have m1 := b3.cell 1
  simp only [treeCells, Nd.cells, nodeCells, List.getElem?_toArray, List.getElem?_cons_zero, List.getElem?_cons_succ] at t0 t1 t5 m0 m1
  have g1 : decide (n.d < 0) = false := by simp; omega
  have g2 : decide (p.N ≤ n.d) = false := by simp; omega
  have g3 : decide (2 ^ (p.C.K.toNat - 1) ≤ n.s) = false := by simp; omega
  have hp31 : (2 : Int) ^ (p.C.K.toNat - 1) ≤ 2147483648 := by
    obtain ⟨⟨k1, k2⟩, _⟩ := probChk_ok h
    exact pow31 (by omega)
  have hws : IntKind.u64.wrap n.s = n.s := by
    simp only [IntKind.wrap, IntKind.bits, IntKind.signed]
    simp
    omega
  clear hp31
  refine wp_region_det (by kernel_rfl) (by kernel_rfl) ?_
  have q0 := KeptW.cell t0
  have q1 := KeptW.cell t1
  have r0 := KeptW.cell m0
  have r1 := KeptW.cell m1
  clear t0 t1 m0 m1
  repeat first
    | ((with_reducible apply det_nilG); rfl; rfl; (simp only [List.set_cons_zero, List.set_cons_succ]; rfl))
    | ((with_reducible apply det_call); rfl; infer_instance; rfl; (intro w1 B1; exact tree_good p _ (hT0.kept B1)); (simp only [List.set_cons_zero, List.set_cons_succ]; rfl))
    | ((refine det_plain rfl ?_); (go_big_quiet_step (fail)); (refine wpQuiet_nil ?_))
  refine wpDet_nil ?_
  intro w1 B1
  clear q0 q1 r0 r1 hws t5
  have b31 := b3.kept B1
  have hT1 := hT0.kept B1
  have B10 := B0.trans (B1.mono B0.size)
  go_upto_region 4 with (fail)
  have t5 := hT1.tree.cell 5
  have m1 := b31.cell 1
  simp only [treeCells, Nd.cells, nodeCells, List.getElem?_toArray, List.getElem?_cons_zero, List.getElem?_cons_succ] at t5 m1
  refine wp_region_det (by kernel_rfl) (by kernel_rfl) ?_
  have q0 := KeptW.cell t5
  have q1 := KeptW.cell m1
  clear t5 m1
  repeat first
    | ((with_reducible apply det_nilG); rfl; rfl; (simp only [List.set_cons_zero, List.set_cons_succ]; rfl))
    | ((refine det_plain rfl ?_); (go_big_quiet_step (fail)); (refine wpQuiet_nil ?_))
  refine wpDet_nil ?_
  intro w2 B2
  clear q0 q1
  have b32 := b31.kept B2
  have hT2 := hT1.kept B2
  have B20 := B10.trans (B2.mono B10.size)
  have gN := b32.load (off := 0) (n := 3) (cs' := n.cells) (Nat.le_refl _) (Array.extract_eq_self_of_le (Nat.le_refl _))
  by_cases hL : p.L ≤ n.d
  · have gL : decide (p.L ≤ n.d) = true := by simp; omega
    have e1 : p.kids n = [p.kid n 0] := by unfold Pb.kids; rw [if_pos hL]
    have e2 : p.kidBits n = [0] := by unfold Pb.kidBits; rw [if_pos hL]
    have E1 := Lib.hid e1
    have E2 := Lib.hid e2
    clear e1 e2
    go_wp2_with ((with_reducible apply ld); rfl; (with_reducible assumption); (simp only [List.set_cons_zero, List.set_cons_succ]; rfl))
    refine (tree_oneT p hp h n hn _ hT2).mono ?_
    rintro e w3 ⟨⟨nb, bb, rfl, x1, x2, x3, x4, x5⟩, B3⟩
    go_wp2
    go_ret2
    rw [E1.out, E2.out]
    exact (show KidsPostT _ _ _ _ _ from ⟨⟨nb, bb, rfl, x1, x2, x3, Nat.le_trans B20.size x4, Nat.le_trans B20.size x5⟩, B20.trans (B3.mono B20.size)⟩)
  · have gL : decide (p.L ≤ n.d) = false := by simp; omega
    have e1 : p.kids n = p.twoK n := by unfold Pb.kids; rw [if_neg hL]
    have e2 : p.kidBits n = p.twoB n := by unfold Pb.kidBits; rw [if_neg hL]
    have E1 := Lib.hid e1
    have E2 := Lib.hid e2
    clear e1 e2
    go_wp2_with ((with_reducible apply ld); rfl; (with_reducible assumption); (simp only [List.set_cons_zero, List.set_cons_succ]; rfl))
    refine (tree_twoT p hp h n hn _ hT2).mono ?_
    rintro e w3 ⟨⟨nb, bb, rfl, x1, x2, x3, x4, x5⟩, B3⟩
    go_wp2
    go_ret2
    rw [E1.out, E2.out]
    exact (show KidsPostT _ _ _ _ _ from ⟨⟨nb, bb, rfl, x1, x2, x3, Nat.le_trans B20.size x4, Nat.le_trans B20.size x5⟩, B20.trans (B3.mono B20.size)⟩)
end Go.Proofs.YtnjmplapjnnjdaaGreat

/- Rows that share nothing: how they lie, and the walks of the checks that they do. -/
namespace Go.Proofs.YtnjmplapjnnjdaaGreat
open Go.RowKit

section
variable {P : Program} (w : World)
/-- The library's law on 'append', with one word more: where the row is a new one, nothing that lay there has turned. -/
theorem run_append_apart (base : Nat) (t ty e : TypeId) (i : TypeInfo) (z : Value) (size bytes : Nat) (ht : P.underlying t = some (.slice e)) (hi : P.info? e = some i) (hz : i.zero = some z)
    (hsize : i.size = size) (hby : i.bytes = bytes) (hzs : z.cells.size = size) (hsz : 0 < size)
    (v : Value) (n : Nat) (xs : List Value) (hown : w.ownsRow base e size v n xs)
    (a : Addr) (m c : Nat) (hm : 0 < m) (news : List Value) (hl : news.length = m * size) (hnews : ∀ j u, news[j]? = some u → w.cell? (a.add j) = some u) (h1 : ∀ u ∈ news, u.oneCell' = true)
    (h63 : n + m ≤ maxLen) (hbytes : (n + m) * bytes ≤ 140737488355328) (hbase : base ≤ w.heap.size) :
    ∃ v' w', (Builtin.append_ #[t, t] ty #[v, .slice (some a) m c]).run P w = .ok v' w' ∧ w'.ownsRow base e size v' (n + m) (xs ++ news) ∧
      ((∃ g c, v = .slice (some ⟨g, 0, none⟩) n c ∧ v' = .slice (some ⟨g, 0, none⟩) (n + m) c ∧ w.grownBy w' (some g)) ∨ (v'.ownBlock = some w.heap.size ∧ w.grownBy w' none)) := by
  subst hsize
  subst hby
  have hlen : (xs ++ news).length = (n + m) * i.size := by rw [List.length_append, hown.1, hl, Nat.add_mul]
  have grown : ∀ (old : Nat), old < n + m →
      (w.drew.alloc (.cells (xs.toArray ++ news.toArray ++ Builtin.zeroCells z.cells (grownCap w (n + m) old e - (n + m))) e)).ownsRow base e i.size
        (.slice (some ⟨w.heap.size, 0, none⟩) (n + m) (grownCap w (n + m) old e)) (n + m) (xs ++ news) ∧
      w.grownBy (w.drew.alloc (.cells (xs.toArray ++ news.toArray ++ Builtin.zeroCells z.cells (grownCap w (n + m) old e - (n + m))) e)) none := by
    intro old ho
    have hge := grownCap_ge w (n + m) old e
    have hcm : grownCap w (n + m) old e ≤ maxLen := grownCap_le_maxLen w (n + m) old e h63
    refine ⟨⟨hlen, .inr ⟨w.heap.size, _, _, rfl, hbase, heap_alloc_new w.drew _, hge, hcm, ?_, ?_⟩⟩, ⟨rfl, rfl, rfl, by simp, fun k hk _ => heap_alloc_old w.drew _ hk⟩⟩
    · simp only [Array.size_append, List.size_toArray, size_zeroCells, hzs, hown.1, hl, ← Nat.add_mul]
      congr 1
      omega
    · simp only [Array.toList_append, List.append_assoc]
      rw [← List.append_assoc, ← hlen]
      exact List.take_left
  have h63' : n + m ≤ 9223372036854775807 := by simp only [maxLen] at h63; omega
  rcases hown.2 with ⟨rfl, rfl⟩ | ⟨g, cap, cur, rfl, hbg, hg, hnc, hcm, hcs, htake⟩
  · have hx : xs = [] := List.eq_nil_of_length_eq_zero (by simpa using hown.1)
    subst hx
    have hr := run_append_nil (P := P) w t ty e i z ht hi hz a m c news hl hnews (by omega) (by omega) (by have hb := hbytes; simp only [Nat.zero_add] at hb; omega)
    have hgr := grown 0 (by omega)
    simp only [Nat.zero_add, List.nil_append, Array.empty_append] at hgr ⊢
    exact ⟨_, _, hr, hgr.1, Or.inr ⟨rfl, hgr.2⟩⟩
  · by_cases hroom : n + m ≤ cap
    · have hfit : n * i.size + news.length ≤ cur.size := by rw [hl, hcs, ← Nat.add_mul]; exact Nat.mul_le_mul_right _ hroom
      have hr := run_append_room (P := P) w t ty e i ht hi g n cap cur hg a m c news hl hnews h1 hroom hfit
      refine ⟨_, _, hr, ⟨hlen, .inr ⟨g, cap, _, rfl, hbg, setRow_heap w g cur _ e _ hg, hroom, hcm, ?_, ?_⟩⟩, Or.inl ⟨g, cap, rfl, rfl, ⟨rfl, rfl, rfl, by simp, fun k _ hk => setRow_other w g k _ (fun e => hk (by simp [e]))⟩⟩⟩
      · simp only [List.size_toArray, List.length_append, List.length_take, List.length_drop, Array.length_toList]
        omega
      · rw [htake, ← hlen]
        exact List.take_left
    · have holds : ∀ j u, xs[j]? = some u → w.cell? ((⟨g, 0, none⟩ : Addr).add j) = some u := hown.cells (g := g) rfl
      have hr := run_append_grow (P := P) w t ty e i z ht hi hz ⟨g, 0, none⟩ n cap xs hown.1 holds a m c news hl hnews (by omega) (by omega) (growslice_fits (by omega) hbytes)
      have hgr := grown cap (by omega)
      exact ⟨_, _, hr, hgr.1, Or.inr ⟨rfl, hgr.2⟩⟩
end
/-! ### A row that is owned, where a cell of it is set, or its end grows -/
section
variable {w w' : World} {B : Nat} {e n c g : Nat} {v : Value} {xs : List Value}
theorem owns_set (h : w.ownsRow B e 1 (.slice (some ⟨g, 0, none⟩) n c) n xs) (j : Nat) (u : Value) : (w.setCell ⟨g, j, none⟩ u).ownsRow B e 1 (.slice (some ⟨g, 0, none⟩) n c) n (xs.set j u) := by
  refine ⟨by rw [List.length_set]; exact h.1, ?_⟩
  rcases h.2 with ⟨h, _⟩ | ⟨g', cap, cur, hv, hb, hg, hnc, hcm, hcs, htake⟩
  · cases h
  · obtain ⟨rfl, rfl⟩ : g = g' ∧ c = cap := by simpa using hv
    refine .inr ⟨g, c, cur.setIfInBounds j u, rfl, hb, ?_, hnc, hcm, by simpa using hcs, ?_⟩
    · exact setCell_block w g j u cur e _ hg
    · rw [Array.toList_setIfInBounds, List.take_set, htake]
theorem owns_block (h : w.ownsRow B e 1 v n xs) (hk : ∀ k, v.ownBlock = some k → w'.heap[k]? = w.heap[k]?) : w'.ownsRow B e 1 v n xs := by
  refine ⟨h.1, ?_⟩
  rcases h.2 with h | ⟨g', cap, cur, hv, hb, hg, rest⟩
  · exact .inl h
  · exact .inr ⟨g', cap, cur, hv, hb, (hk g' (by rw [hv]; rfl)).trans hg, rest⟩
/-- a row that has grown in its place -/
theorem owns_prefix {m : Nat} (h : w.ownsRow B e 1 (.slice (some ⟨g, 0, none⟩) (n + m) c) (n + m) xs) : w.ownsRow B e 1 (.slice (some ⟨g, 0, none⟩) n c) n (xs.take n) := by
  have hl := h.1
  refine ⟨by rw [List.length_take]; omega, ?_⟩
  rcases h.2 with ⟨h0, _⟩ | ⟨g', cap, cur, hv, hb, hg, hnc, hcm, hcs, htake⟩
  · cases h0
  obtain ⟨rfl, rfl⟩ : g = g' ∧ c = cap := by simpa using hv
  refine .inr ⟨g, c, cur, rfl, hb, hg, by omega, hcm, hcs, ?_⟩
  have h3 := congrArg (List.take n) htake
  rw [List.take_take, Nat.min_eq_left (by omega)] at h3
  rw [← h3, Nat.mul_one]
end

/-! ### Many rows -/
/-- The rows are owned, hold at most 4096, and bear their marks up to a place. -/
def ApOk (W : World) (B e : Nat) (vs : List Value) (mk : Nat → Nat → Value) (i0 j0 : Nat) : Prop :=
  ∀ i v, vs[i]? = some v → ∃ a n c xs, v = .slice a n c ∧ n ≤ 4096 ∧ W.ownsRow B e 1 v n xs ∧ ∀ j, j < n → (i < i0 ∨ (i = i0 ∧ j < j0)) → xs[j]? = some (mk i j)
def ApSep (vs : List Value) : Prop := ∀ (i j : Nat) (v u : Value) (k : Nat), i ≠ j → vs[i]? = some v → vs[j]? = some u → v.ownBlock = some k → u.ownBlock ≠ some k
def ApList (W : World) (al : Option Addr) (vs : List Value) : Prop :=
  ∀ (i : Nat) (v : Value), vs[i]? = some v → ∃ g o, al = some ⟨g, o, none⟩ ∧ W.cell? ⟨g, o + i, none⟩ = some v ∧ ∀ (j : Nat) (u : Value), vs[j]? = some u → u.ownBlock ≠ some g
def ApH (vs : List Value) (k : Nat) : Prop := ∃ (i : Nat) (v : Value), vs[i]? = some v ∧ v.ownBlock = some k
theorem ApList.turn {w W : World} {al : Option Addr} {vs : List Value} (h : ApList w al vs) (T : Turn (ApH vs) w W) : ApList W al vs := fun i v hv => by
  obtain ⟨g, o, h1, h2, h3⟩ := h i v hv
  have hlt := lt_of_cell h2
  exact ⟨g, o, h1, (World.cell?_of_block (T.block g hlt fun ⟨j, u, hu, hk⟩ => h3 j u hu hk)).trans h2, h3⟩
theorem ApOk.turn {w W : World} {B e : Nat} {vs : List Value} {mk : Nat → Nat → Value} {i0 j0 : Nat} (h : ApOk w B e vs mk i0 j0) (hk : ∀ (i : Nat) (v : Value) (k : Nat), vs[i]? = some v → v.ownBlock = some k → W.heap[k]? = w.heap[k]?) : ApOk W B e vs mk i0 j0 := fun i v hv => by
  obtain ⟨a, n, c, xs, h1, h2, h3, h4⟩ := h i v hv
  exact ⟨a, n, c, xs, h1, h2, owns_block h3 (fun k hb => hk i v k hv hb), h4⟩
theorem ApOk.lt {w : World} {B e : Nat} {vs : List Value} {mk : Nat → Nat → Value} {i0 j0 : Nat} (h : ApOk w B e vs mk i0 j0) {i k : Nat} {v : Value} (hv : vs[i]? = some v) (hk : v.ownBlock = some k) : B ≤ k ∧ k < w.heap.size := by
  obtain ⟨a, n, c, xs, h1, h2, h3, h4⟩ := h i v hv
  exact World.ownsRow.lt h3 k hk
/-- the row at a place, for the walk -/
theorem ApOk.at_ {w : World} {B e : Nat} {vs : List Value} {mk : Nat → Nat → Value} {i0 j0 i : Nat} {v : Value} (h : ApOk w B e vs mk i0 j0) (hv : vs[i]? = some v) : ∃ a n c, v = .slice a n c ∧ n ≤ 4096 ∧ ∀ j, j < n → ∃ g u, a = some ⟨g, 0, none⟩ ∧ w.cell? ⟨g, j, none⟩ = some u ∧ w.frozen? ⟨g, j, none⟩ = false ∧ ((i < i0 ∨ (i = i0 ∧ j < j0)) → u = mk i j) := by
  obtain ⟨a, n, c, xs, rfl, h2, h3, h4⟩ := h i v hv
  refine ⟨a, n, c, rfl, h2, fun j hj => ?_⟩
  have hx : xs.length = n := by have := h3.1; omega
  have h3' := h3
  rcases h3.2 with ⟨h0, h0'⟩ | ⟨g, cap, cur, hv', hb, hg, hnc, hcm, hcs, htake⟩
  · omega
  obtain ⟨rfl, rfl⟩ : a = some ⟨g, 0, none⟩ ∧ c = cap := by simpa using hv'
  have hc := own_cell h3' (j := j) (List.getElem?_eq_getElem (by omega))
  refine ⟨g, _, rfl, hc, Box.frozen ⟨_, hg⟩ j, fun hm => ?_⟩
  have := h4 j hj hm
  rw [List.getElem?_eq_getElem (by omega)] at this
  exact Option.some.inj this
theorem ApOk.set {w : World} {B e : Nat} {vs : List Value} {mk : Nat → Nat → Value} {i j g n c : Nat} (h : ApOk w B e vs mk i j) (hs : ApSep vs) (hv : vs[i]? = some (.slice (some ⟨g, 0, none⟩) n c)) (hj : j < n) : ApOk (w.setCell ⟨g, j, none⟩ (mk i j)) B e vs mk i (j + 1) := fun i' v' hv' => by
  obtain ⟨a, n', c', xs, h1, h2, h3, h4⟩ := h i' v' hv'
  by_cases hi : i' = i
  · subst hi
    rw [hv] at hv'
    obtain rfl := Option.some.inj hv'
    obtain ⟨rfl, rfl, rfl⟩ : some ⟨g, 0, none⟩ = a ∧ n = n' ∧ c = c' := by simpa using h1
    have hx : xs.length = n := by have := h3.1; omega
    refine ⟨_, n, c, _, rfl, h2, owns_set h3 j (mk i' j), fun k hk hm => ?_⟩
    rw [List.getElem?_set]
    by_cases hjk : j = k
    · subst hjk
      rw [if_pos rfl, if_pos (by omega)]
    · rw [if_neg hjk]
      exact h4 k hk (by omega)
  · refine ⟨a, n', c', xs, h1, h2, owns_block h3 fun k hk => ?_, fun k hk hm => h4 k hk (by omega)⟩
    refine Below.heap_setCell _ _ _ _ fun he => ?_
    exact hs i i' _ v' g (fun e => hi e.symm) hv hv' rfl (by rw [hk]; simp at he; rw [he])
theorem ApOk.next {w : World} {B e : Nat} {vs : List Value} {mk : Nat → Nat → Value} {i n c : Nat} {a : Option Addr} (h : ApOk w B e vs mk i n) (hv : vs[i]? = some (.slice a n c)) : ApOk w B e vs mk (i + 1) 0 := fun i' v' hv' => by
  obtain ⟨a', n', c', xs, h1, h2, h3, h4⟩ := h i' v' hv'
  refine ⟨a', n', c', xs, h1, h2, h3, fun k hk hm => h4 k hk ?_⟩
  by_cases hi : i' = i
  · subst hi
    rw [hv] at hv'
    obtain rfl := Option.some.inj hv'
    obtain ⟨_, rfl, _⟩ : a = a' ∧ n = n' ∧ c = c' := by simpa using h1
    exact .inr ⟨rfl, hk⟩
  · exact .inl (by omega)
/-- What grows, beside the rows: it lies behind S, or it is the i-th one itself. -/
def ApMore (W : World) (S B e : Nat) (vs : List Value) (mk : Nat → Nat → Value) (i : Nat) (more : Value) (k : Nat) : Prop :=
  ∃ a n c, vs[i]? = some (.slice a n c) ∧ n ≤ 4096 ∧ ∃ ys, W.ownsRow B e 1 more (n + k) ys ∧ (∀ j, j < n → ys[j]? = some (mk i j)) ∧
    ((∀ b, more.ownBlock = some b → S ≤ b) ∨ more = .slice a (n + k) c)
theorem ApOk.more {w : World} {S B e : Nat} {vs : List Value} {mk : Nat → Nat → Value} {i i0 : Nat} {v : Value} (h : ApOk w B e vs mk i0 0) (hi : i < i0) (hv : vs[i]? = some v) : ApMore w S B e vs mk i v 0 := by
  obtain ⟨a, n, c, xs, rfl, h2, h3, h4⟩ := h i v hv
  exact ⟨a, n, c, hv, h2, xs, h3, fun j hj => h4 j hj (.inl hi), .inr rfl⟩
theorem ApMore.step {w w' : World} {S B e : Nat} {vs : List Value} {mk : Nat → Nat → Value} {i i0 k n : Nat} {more v' : Value} {a : Option Addr} {c : Nat} {ys us : List Value} (hok : ApOk w B e vs mk i0 0) (hs : ApSep vs) (hS : S ≤ w.heap.size) (hlt : ∀ b, ApH vs b → b < S)
    (hv : vs[i]? = some (.slice a n c)) (h2 : n ≤ 4096) (h3 : w.ownsRow B e 1 more (n + k) ys) (h4 : ∀ j, j < n → ys[j]? = some (mk i j)) (h5 : (∀ b, more.ownBlock = some b → S ≤ b) ∨ more = .slice a (n + k) c)
    (hn : w'.ownsRow B e 1 v' (n + k + 1) (ys ++ us))
    (hg : (∃ g c, more = .slice (some ⟨g, 0, none⟩) (n + k) c ∧ v' = .slice (some ⟨g, 0, none⟩) (n + k + 1) c ∧ w.grownBy w' (some g)) ∨ (v'.ownBlock = some (w.heap.size + 1) ∧ w.grownBy w' none)) :
    ApMore w' S B e vs mk i v' (k + 1) ∧ ApOk w' B e vs mk i0 0 ∧ Turn (fun b => ApH vs b ∨ S ≤ b) w w' := by
  have hy : ys.length = n + k := by have := h3.1; omega
  have h4' : ∀ j, j < n → (ys ++ us)[j]? = some (mk i j) := fun j hj => by rw [List.getElem?_append_left (by omega)]; exact h4 j hj
  rcases hg with ⟨g, c', rfl, rfl, hg⟩ | ⟨hb, hg⟩
  · rcases h5 with h5 | h5
    · have hgS := h5 g rfl
      have hng : ¬ApH vs g := fun h => by have := hlt g h; omega
      refine ⟨⟨a, n, c, hv, h2, ys ++ us, hn, h4', .inl fun b hb => ?_⟩, hok.turn fun i' v' b hv' hb => hg.block b (hok.lt hv' hb).2 fun e => hng ⟨i', v', hv', by rw [hb]; exact e⟩, ⟨hg.os, hg.tape, hg.output, hg.size, fun b hb hn => hg.block b hb fun e => hn (.inr (Option.some.inj e ▸ hgS))⟩⟩
      obtain rfl : g = b := by simpa [Value.ownBlock] using hb
      exact hgS
    · obtain ⟨rfl, rfl⟩ : some ⟨g, 0, none⟩ = a ∧ c' = c := by simpa using h5
      refine ⟨⟨_, n, c', hv, h2, ys ++ us, hn, h4', .inr (by rw [Nat.add_assoc])⟩, fun i' v hv' => ?_, ⟨hg.os, hg.tape, hg.output, hg.size, fun b hb hn => hg.block b hb fun e => hn (.inl ⟨i, _, hv, e.symm⟩)⟩⟩
      by_cases hii : i' = i
      · subst hii
        rw [hv] at hv'
        obtain rfl := Option.some.inj hv'
        have hp := owns_prefix (n := n) (m := k + 1) (by rw [← Nat.add_assoc]; exact hn)
        refine ⟨_, n, c', _, rfl, h2, hp, fun j hj _ => ?_⟩
        rw [List.getElem?_take, if_pos hj]
        exact h4' j hj
      · obtain ⟨a', n', c'', xs, e1, e2, e3, e4⟩ := hok i' v hv'
        exact ⟨a', n', c'', xs, e1, e2, owns_block e3 fun b hb => hg.block b (World.ownsRow.lt e3 b hb).2 fun e => hs i i' _ v g (fun e => hii e.symm) hv hv' rfl (by rw [hb]; exact e), e4⟩
  · refine ⟨⟨a, n, c, hv, h2, ys ++ us, hn, h4', .inl fun b hb' => ?_⟩, hok.turn fun i' v' b hv' hb => hg.block b (hok.lt hv' hb).2 (by simp), ⟨hg.os, hg.tape, hg.output, hg.size, fun b hb hn => hg.block b hb (by simp)⟩⟩
    obtain rfl : w.heap.size + 1 = b := by rw [hb] at hb'; exact Option.some.inj hb'
    omega
theorem Turn.apart {w W W' : World} {vs : List Value} (h : Turn (ApH vs) w W) (h' : Turn (fun b => ApH vs b ∨ w.heap.size ≤ b) W W') : Turn (ApH vs) w W' :=
  ((h.mono fun _ _ hk => .inl hk).trans h').mono fun k hk hx => by
    rcases hx with hx | hx
    · exact hx
    · omega
theorem ap_lt {c m : Nat} (h : c < m) : decide ((c : Int) < (m : Int)) = true ∧ (c : Int) < (m : Int) := by constructor; (simp; omega); omega
theorem ap_succ {c : Nat} (h : (c : Int) + 1 ≤ 9223372036854775807) : wrap64 ((c : Int) + 1) = ((c + 1 : Nat) : Int) := by unfold wrap64; omega
theorem ap_meas {c m : Nat} (h : c < m) (h2 : (c : Int) + 1 ≤ 9223372036854775807) : m - (intOf (.int .i64 (wrap64 ((c : Int) + 1)))).toNat < m - (intOf (.int .i64 (c : Int))).toNat := by rw [ap_succ h2]; simp only [intOf]; omega
theorem ap_meas' {c m : Nat} (h : c < m) : m - (intOf (.int .i64 ((c : Int) + 1))).toNat < m - (intOf (.int .i64 (c : Int))).toNat := by simp only [intOf]; omega
theorem ap_end {c m : Nat} (h : ¬ c < m) (h2 : c ≤ m) : c = m := by omega
theorem ap_bd {c m : Nat} (h : c < m) (h2 : (m : Int) ≤ 9223372036854775807) : (c : Int) + 1 ≤ 9223372036854775807 := by omega

end Go.Proofs.YtnjmplapjnnjdaaGreat

/- Arms for guarded loads of structs and guarded conversions of bytes to strings, in regions that keep what lay there. No program's text is named here. -/
namespace Go.Proofs.YtnjmplapjnnjdaaGreat
open Go.RowKit

section
variable {P : Program} {ops : Array Oper} {w : World} {Q : Act → Prop} {rest : List Oper} {ty : TypeId} {ps : String} {af : Array Edge} {d : Nat} {gd : Option (Nat × Bool)}
end
end Go.Proofs.YtnjmplapjnnjdaaGreat

/- The walk of the statement on the two Floors. -/
namespace Go.Proofs.YtnjmplapjnnjdaaGreat
open Go.RowKit

def flr (a d : Int) : Int := if a.tmod d < 0 then wrap64 (a.tdiv d - 1) else a.tdiv d

theorem tdiv_bd (a d : Int) (hd : 1 ≤ d) (a0 : -9223372036854775808 ≤ a) (a1 : a ≤ 9223372036854775807) : -9223372036854775808 ≤ a.tdiv d ∧ a.tdiv d ≤ 9223372036854775807 := by
  have h1 := Int.natAbs_tdiv_le_natAbs a d
  rcases Int.le_total 0 a with h | h
  · have h2 := Int.tdiv_nonneg h (by omega : 0 ≤ d)
    omega
  · have h2 := Int.tdiv_nonneg (by omega : 0 ≤ -a) (by omega : 0 ≤ d)
    rw [Int.neg_tdiv] at h2
    omega

def flrCell (a d : Int) : Value := .tuple #[.int .i64 (if d < 1 then 0 else flr a d), .int .i64 (if d < 1 then 140 else 0)]

theorem flrCell_neg {a d : Int} (hd : 1 ≤ d) (h : a.tmod d < 0) : flrCell a d = .tuple #[.int .i64 (wrap64 (a.tdiv d - 1)), .int .i64 0] := by
  unfold flrCell flr
  rw [if_neg (show ¬d < 1 by omega), if_neg (show ¬d < 1 by omega), if_pos h]
theorem flrCell_pos {a d : Int} (hd : 1 ≤ d) (h : 0 ≤ a.tmod d) : flrCell a d = .tuple #[.int .i64 (a.tdiv d), .int .i64 0] := by
  unfold flrCell flr
  rw [if_neg (show ¬d < 1 by omega), if_neg (show ¬d < 1 by omega), if_neg (show ¬a.tmod d < 0 by omega)]
theorem flrCell_bad {a d : Int} (hd : d < 1) : flrCell a d = .tuple #[.int .i64 0, .int .i64 140] := by
  unfold flrCell
  rw [if_pos hd, if_pos hd]
theorem score_Floor (a d : Int) (a0 : -9223372036854775808 ≤ a) (a1 : a ≤ 9223372036854775807) (w : World) : Pure Tryz.prog 52 #[.int .i64 a, .int .i64 d] w (flrCell a d) := by
  go_enter Tryz.func52, Tryz.ntmps52
  by_cases h : d < 1
  · go_wp2
    go_ret2
    exact ⟨by rw [flrCell_bad h]; rfl, Below.refl _ _⟩
  · have hd : d ≠ 0 := by omega
    have hb := tdiv_bd a d (by omega) a0 a1
    by_cases h2 : a.tmod d < 0
    · go_wp2
      go_ret2
      exact ⟨by rw [flrCell_neg (by omega) h2]; rfl, Below.refl _ _⟩
    · go_wp2
      go_ret2
      exact ⟨by rw [flrCell_pos (by omega) (by omega)]; rfl, Below.refl _ _⟩
end Go.Proofs.YtnjmplapjnnjdaaGreat
