import Derived.Test.YtnjmplapjnnjdaaGreatKid
import Derived.Test.YtnjmplapjnnjdaaGreatFree3
import Derived.Laws.StructEq
set_option linter.unusedSimpArgs false
set_option linter.unusedVariables false
set_option linter.unnecessarySimpa false
/- The walks of a tree's kids: the program's. -/
namespace Go.Proofs.YtnjmplapjnnjdaaGreat
open Go.RowKit

structure Nd where
  s : Int
  d : Int
  m : Int
def Nd.cells (n : Nd) : Array Value := nodeCells n.s n.d n.m
/-- The kid by a bit. -/
def Pb.kid (p : Pb) (n : Nd) (b : Int) : Nd := ⟨(2 * n.s + b) % 2 ^ (p.C.K.toNat - 1), n.d + 1, wrap64 (n.m + p.br n.d.toNat (2 * n.s + b).toNat)⟩
def ndCells (l : List Nd) : Array Value := (l.flatMap fun n => n.cells.toList).toArray
/-- Kids and their bits, in new memory. -/
def KidsPost (l : List Nd) (bs : List Nat) (w : World) (e : Ending) (w' : World) : Prop :=
  (∃ nb bb, e = .returned (.tuple #[.slice (some ⟨nb, 0, none⟩) l.length l.length, .slice (some ⟨bb, 0, none⟩) bs.length bs.length]) ∧ Box w' nb (ndCells l) ∧ Box w' bb (u8s bs).toArray ∧ nb ≠ bb ∧ w.heap.size ≤ nb ∧ w.heap.size ≤ bb) ∧ Below w.heap.size w w'
theorem Box.ne {w : World} {b b' : Nat} {cs cs' : Array Value} (h : Box w b cs) (h' : Box w b' cs') (hne : cs ≠ cs') : b ≠ b' := by
  rintro rfl
  obtain ⟨t, h⟩ := h
  obtain ⟨t', h'⟩ := h'
  rw [h] at h'
  simp at h'
  exact hne h'.1
/-- A node that the tree's closure can be asked of. -/
structure Pb.In (p : Pb) (n : Nd) : Prop where
  s0 : 0 ≤ n.s
  s1 : n.s < 2 ^ (p.C.K.toNat - 1)
  d0 : 0 ≤ n.d
  d1 : n.d < p.N
theorem tree_kid' (p : Pb) (hp : p.Ok) (h : probChk p = 0) {tb pb rb g c : Nat} (n : Nd) (hn : p.In n) (b : Int) (b0 : 0 ≤ b) (b1 : b < 2) (w : World) (hT : TreeIn w p tb pb rb g c) :
    Pure Tryz.prog 36 #[.agg n.cells, .int .u8 b, .pointer (some ⟨pb, 0, none⟩), .pointer (some ⟨rb, 0, none⟩)] w (.agg (p.kid n b).cells) := by
  obtain ⟨s, d, m⟩ := n
  obtain ⟨s0, s1, d0, d1⟩ := hn
  obtain ⟨k, rfl⟩ := Int.eq_ofNat_of_zero_le d0
  exact tree_kid p hp h tb pb rb g c s s0 s1 k d1 m b b0 b1 w hT

theorem build_two (a b : Nd) (w : World) : (Instr.buildSlice 137 2 #[(0, .agg a.cells), (1, .agg b.cells)]).run Tryz.prog w = .ok (.slice (some ⟨w.heap.size, 0, none⟩) 2 2) (w.alloc (.cells (ndCells [a, b]) 66)) := by
  simp only [Nd.cells, nodeCells]
  go_simp
  rfl
theorem w_slice {P : Program} {ops : Array Oper} {rest : List Oper} {l : List Value} {ds : List Deferred} {w : World} {Q : Exit → Act → World → Prop} {d n : Nat} {t e : TypeId} {parts : Array (Nat × Operand)} {cs : Array Value} {ty : TypeId} {ps : String} {af : Array Edge}
    (hr : (Instr.buildSlice t n (parts.map fun (i, x) => (i, (Act.mk l.toArray ds).eval x))).run P w = .ok (.slice (some ⟨w.heap.size, 0, none⟩) n n) (w.alloc (.cells cs e)))
    (h : wpList P ops Q rest ⟨(l.set d (.slice (some ⟨w.heap.size, 0, none⟩) n n)).toArray, ds⟩ (w.alloc (.cells cs e))) : wpList P ops Q (⟨some d, .buildSlice t n parts, ty, ps, af, none⟩ :: rest) ⟨l.toArray, ds⟩ w := by
  refine wpList_plain rfl fun K hK => ?_
  unfold Oper.wp execOp
  simp only [Sem.run_bind, hr, Result.andThen_ok, Sem.run_pure]
  rw [Oper.upon_value, put_list]
  exact hK _ _ h
/-- The kids where information comes, the worse one first, and their bits. -/
def Pb.twoK (p : Pb) (n : Nd) : List Nd := if (p.kid n 0).m < (p.kid n 1).m then [p.kid n 0, p.kid n 1] else [p.kid n 1, p.kid n 0]
def Pb.twoB (p : Pb) (n : Nd) : List Nat := if (p.kid n 0).m < (p.kid n 1).m then [0, 1] else [1, 0]

end Go.Proofs.YtnjmplapjnnjdaaGreat
/- The walks of a tree's looks: the program's. -/
namespace Go.Proofs.YtnjmplapjnnjdaaGreat
open Go.RowKit

theorem neq_nilFunc {P : Program} {t : TypeId} {d : TypeDesc} (hu : P.underlying t = some d) (hd : (match d with | .func .. => true | _ => false) = true) (f : Fn) (a b : Array Value) (w : World) : (binOp .neq t (.func f a b) .nilFunc).run P w = .ok (.bool true) w := by
  cases d <;> simp at hd
  simp only [binOp, Op.equal]
  rw [Sem.run_bind, show Op.maxDepth = 9999 + 1 from rfl, Op.equalIn, Sem.run_bind, run_underlying hu]
  simp [Sem.run_pure]
set_option maxRecDepth 5000 in
theorem tree_good (p : Pb) {tb pb rb g c : Nat} (w : World) (hT : TreeIn w p tb pb rb g c) : Pure Tryz.prog 39 #[.pointer (some ⟨tb, 0, none⟩)] w (.bool true) := by
  have t2 := hT.tree.cell 2
  simp only [treeCells, List.getElem?_toArray, List.getElem?_cons_zero, List.getElem?_cons_succ] at t2
  have hne := neq_nilFunc (P := Tryz.prog) Tryz.underlying97 rfl (.func 36) #[] #[.pointer (some ⟨pb, 0, none⟩), .pointer (some ⟨rb, 0, none⟩)]
  go_enter Tryz.func39, Tryz.ntmps39
  go_wp2
  go_ret
  exact ⟨rfl, Below.refl _ _⟩
theorem tree_Range (p : Pb) {tb pb rb g c : Nat} (w : World) (hT : TreeIn w p tb pb rb g c) : Pure Tryz.prog 14 #[.pointer (some ⟨tb, 0, none⟩)] w (.tuple #[.int .i64 (min (p.C.R * p.N * p.T.lo) 0), .int .i64 (max (p.C.R * p.N * p.T.hi) 0)]) := by
  go_enter Tryz.func14, Tryz.ntmps14
  go_wp2_with fail
  refine (tree_good p _ hT).mono ?_
  rintro e w1 ⟨rfl, B1⟩
  have t3 := (hT.kept B1).tree.cell 3
  have t4 := (hT.kept B1).tree.cell 4
  simp only [treeCells, List.getElem?_toArray, List.getElem?_cons_zero, List.getElem?_cons_succ] at t3 t4
  go_wp2_with fail
  refine wp_region_kept (by kernel_rfl) (by kernel_rfl) ?_
  have q3 := KeptW.cell t3
  have q4 := KeptW.cell t4
  repeat go_big_quiet_step (fail)
  refine wpQuiet_nil ?_
  intro w2 B2
  go_wp2
  go_ret2
  exact ⟨rfl, B1.trans (B2.mono B1.size)⟩
theorem tree_Leaf (p : Pb) {tb pb rb g c : Nat} (n : Nd) (w : World) (hT : TreeIn w p tb pb rb g c) : Pure Tryz.prog 73 #[.pointer (some ⟨tb, 0, none⟩), .agg n.cells] w (.bool (n.d == p.N)) := by
  go_enter Tryz.func73, Tryz.ntmps73
  go_upto_region 1 with (fail)
  refine name1 ?_
  intro w0 b3 B0
  have hT0 := hT.kept B0
  have t0 := hT0.tree.cell 0
  have m1 := b3.cell 1
  simp only [treeCells, Nd.cells, nodeCells, List.getElem?_toArray, List.getElem?_cons_zero, List.getElem?_cons_succ] at t0 m1
  refine wp_region_det (by kernel_rfl) (by kernel_rfl) ?_
  have q0 := KeptW.cell t0
  have q1 := KeptW.cell m1
  clear t0 m1
  repeat first
    | ((with_reducible apply det_nilG); rfl; rfl; (simp only [List.set_cons_zero, List.set_cons_succ]; rfl))
    | ((with_reducible apply det_call); rfl; infer_instance; rfl; (intro w1 B1; exact tree_good p _ (hT0.kept B1)); (simp only [List.set_cons_zero, List.set_cons_succ]; rfl))
    | ((refine det_plain rfl ?_); (go_big_quiet_step (fail)); (refine wpQuiet_nil ?_))
  refine wpDet_nil ?_
  intro w1 B1
  go_wp2
  go_ret
  exact ⟨rfl, B0.trans (B1.mono B0.size)⟩
end Go.Proofs.YtnjmplapjnnjdaaGreat
/- The walk of a tree's Kids: the program's. -/
namespace Go.Proofs.YtnjmplapjnnjdaaGreat
open Go.RowKit

/-- A node that has no kids. -/
def Pb.bare (p : Pb) (n : Nd) : Prop := n.d < 0 ∨ p.N ≤ n.d ∨ 2 ^ (p.C.K.toNat - 1) ≤ n.s
def Pb.kids (p : Pb) (n : Nd) : List Nd := if p.L ≤ n.d then [p.kid n 0] else p.twoK n
def Pb.kidBits (p : Pb) (n : Nd) : List Nat := if p.L ≤ n.d then [0] else p.twoB n

end Go.Proofs.YtnjmplapjnnjdaaGreat
/- The walk of a tree's Kids at a node that has none: the program's. -/
namespace Go.Proofs.YtnjmplapjnnjdaaGreat
open Go.RowKit

end Go.Proofs.YtnjmplapjnnjdaaGreat

/- Two lists of nodes compared; the root of a tree; the number of an answer. -/
namespace Go.Proofs.YtnjmplapjnnjdaaGreat
open Go.RowKit

def Nd.same (a b : Nd) : Bool := a.s == b.s && (a.d == b.d && a.m == b.m)
/-- Nodes in memory. -/
def Nodes (w : World) (a : Option Addr) (l : List Nd) : Prop := ∀ k (h : k < l.length), ∃ b o, a = some ⟨b, o, none⟩ ∧ loadAgg w b (o + k * 3) 3 = .ok (.agg (l[k]).cells) w
theorem Nodes.kept {w w' : World} {a : Option Addr} {l : List Nd} (h : Nodes w a l) (hB : Below w.heap.size w w') : Nodes w' a l := fun k hk => by
  obtain ⟨b, o, h1, h2⟩ := h k hk
  exact ⟨b, o, h1, Below.loadAgg hB (lt_of_loadAgg h2) h2⟩
theorem Nodes.nil (w : World) : Nodes w none [] := fun k hk => by simp at hk
theorem tree_Root (v : Value) (w : World) : Pure Tryz.prog 17 #[v] w (.agg (Nd.mk 0 0 0).cells) := by
  go_enter Tryz.func17, Tryz.ntmps17
  have b2 := Box.new w #[.int .u32 0, .int .i64 0, .int .i64 0] 66
  go_wp2_with (first | ((with_reducible apply ld); rfl; (with_reducible assumption); (simp only [List.set_cons_zero, List.set_cons_succ]; rfl)) | ((with_reducible apply stO); rfl; rfl; (with_reducible assumption); rfl; rfl; exact nodeCells_flat 0 0 0; intro w2 hb5 B2 ho2 hs2))
  refine bodyPost_ret (results_cellAgg rfl rfl (hb5.load (off := 0) (n := 3) (cs' := nodeCells 0 0 0) (Nat.le_refl _) rfl)) rfl ?_
  exact ⟨rfl, ((Below.refl _ w).alloc (Nat.le_refl _) _).trans (B2.mono (by simp))⟩
end Go.Proofs.YtnjmplapjnnjdaaGreat

/- The problem that the chapters' examples have: how it is made. -/
namespace Go.Proofs.YtnjmplapjnnjdaaGreat
open Go.RowKit

def plainT (a b c d : Int) : Tb := ⟨2, [a, b, 0, 0, 0, 0, 0, 0, 0, 0, 0, 0, 0, 0, 0, 0, c, d, 0, 0, 0, 0, 0, 0, 0, 0, 0, 0, 0, 0, 0, 0]⟩
def plainPb : Pb := ⟨⟨3, 2, 7, 5, 0⟩, plainT 1 (-5) (-5) 1, 1, [1, 1, 1, 0, 1, 1]⟩
theorem plainPb_ok : plainPb.Ok := by
  refine ⟨⟨by decide, by decide, by decide, by decide, by decide, by decide, by decide, by decide, by decide, by decide⟩, ⟨rfl, by decide, by decide, by decide⟩, by decide, by decide, by decide, by decide⟩
theorem build23 (w : World) : (Instr.build 23 #[(0, .int .u32 7), (1, .int .u32 5)]).run Tryz.prog w = .ok (.agg #[.int .u32 7, .int .u32 5, .int .u32 0]) w := run_build w _ _ _ (by kernel_rfl)
theorem build25 (w : World) : (Instr.build 25 #[(0, .int .i64 3), (1, .int .i64 2), (2, .agg #[.int .u32 7, .int .u32 5, .int .u32 0])]).run Tryz.prog w = .ok (.agg plainPb.C.cells) w := run_build w _ _ _ (by kernel_rfl)
theorem build32 (v : Nat) (w : World) : (Instr.build 32 #[(0, .agg plainPb.C.cells), (2, .int .i64 1), (3, .slice (some ⟨v, 0, none⟩) 6 6)]).run Tryz.prog w = .ok (.agg ((Pb.mk ⟨3, 2, 7, 5, 0⟩ ⟨0, List.replicate 32 0⟩ 1 []).cells (.slice (some ⟨v, 0, none⟩) 6 6))) w := run_build w _ _ _ (by kernel_rfl)

theorem w_build {P : Program} {ops : Array Oper} {rest : List Oper} {l : List Value} {ds : List Deferred} {w : World} {Q : Exit → Act → World → Prop} {d : Nat} {t : TypeId} {parts : Array (Nat × Operand)} {cs : Array Value} {ty : TypeId} {ps : String} {af : Array Edge}
    (hr : (Instr.build t (parts.map fun (i, x) => (i, (Act.mk l.toArray ds).eval x))).run P w = .ok (.agg cs) w)
    (h : wpList P ops Q rest ⟨(l.set d (.agg cs)).toArray, ds⟩ w) : wpList P ops Q (⟨some d, .build t parts, ty, ps, af, none⟩ :: rest) ⟨l.toArray, ds⟩ w := by
  refine wpList_plain rfl fun K hK => ?_
  unfold Oper.wp execOp
  simp only [Sem.run_bind, hr, Result.andThen_ok, Sem.run_pure]
  rw [Oper.upon_value, put_list]
  exact hK _ _ h
theorem slice30 (w : World) : (Instr.buildSlice 30 6 #[(0, .int .u8 1), (1, .int .u8 1), (2, .int .u8 1), (3, .int .u8 0), (4, .int .u8 1), (5, .int .u8 1)]).run Tryz.prog w = .ok (.slice (some ⟨w.heap.size, 0, none⟩) 6 6) (w.alloc (.cells (u8s plainPb.B).toArray 5)) := by
  go_simp
  rfl
theorem Box.bytes {w : World} {b : Nat} {l : List Nat} (h : Box w b (u8s l).toArray) (hl : ∀ x ∈ l, x < 256) : Bytes w (some ⟨b, 0, none⟩) l :=
  ⟨fun k hk => ⟨b, 0, rfl, by rw [Nat.zero_add, h.cell, List.getElem?_toArray]; exact u8s_get hk⟩, hl⟩
def plain0 (g : Nat) : Array Value := (Pb.mk ⟨3, 2, 7, 5, 0⟩ ⟨0, List.replicate 32 0⟩ 1 []).cells (.slice (some ⟨g, 0, none⟩) 6 6)
def zero32 : Array Value := (Pb.mk ⟨0, 0, 0, 0, 0⟩ ⟨0, List.replicate 32 0⟩ 0 []).cells (.slice none 0 0)
def PlainPost (w : World) (e : Ending) (w' : World) : Prop := (∃ g, e = .returned (.agg (plainPb.cells (.slice (some ⟨g, 0, none⟩) 6 6))) ∧ Bytes w' (some ⟨g, 0, none⟩) plainPb.B ∧ w.heap.size ≤ g) ∧ Below w.heap.size w w'
set_option maxRecDepth 5000 in
set_option maxHeartbeats 1000000 in
theorem law11_Plain (w : World) : Calls Tryz.prog 31 #[] w (PlainPost w) := by
  go_enter Tryz.func31, Tryz.ntmps31
  go_upto_region 1 with (fail)
  refine name1 ?_
  intro w0 b0 B0
  have f0 : ∀ g, Flat (plain0 g) := fun g => Pb.Ok.flat (p := ⟨⟨3, 2, 7, 5, 0⟩, ⟨0, List.replicate 32 0⟩, 1, []⟩) ⟨⟨by decide, by decide, by decide, by decide, by decide, by decide, by decide, by decide, by decide, by decide⟩, ⟨rfl, by decide, by decide, by decide⟩, by decide, by decide, by decide, by decide⟩ ⟨fun _ h => (by cases h), fun _ h => (by cases h)⟩
  have bz : Box ((w0.alloc (.cells (u8s plainPb.B).toArray 5)).alloc (.cells zero32 32)) (w0.heap.size + 1) zero32 := by simpa using Box.new (w0.alloc (.cells (u8s plainPb.B).toArray 5)) zero32 32
  go_upto_region 2 with (first
    | ((with_reducible apply ld); rfl; (with_reducible assumption); (simp only [List.set_cons_zero, List.set_cons_succ]; rfl))
    | ((with_reducible apply w_build (d := 2)); ((simp only [List.map_toArray, List.map_cons, List.map_nil]); exact build23 _))
    | ((with_reducible apply w_build (d := 3)); ((simp only [List.map_toArray, List.map_cons, List.map_nil]); exact build25 _))
    | ((with_reducible apply w_slice (d := 4) (cs := (u8s plainPb.B).toArray) (e := 5)); ((simp only [List.map_toArray, List.map_cons, List.map_nil]); exact slice30 _))
    | ((with_reducible apply w_build (d := 5) (cs := plain0 w0.heap.size)); ((simp only [List.map_toArray, List.map_cons, List.map_nil]); exact build32 _ _))
    | ((with_reducible apply stO); rfl; rfl; exact bz; rfl; rfl; exact f0 _; intro w2 hb5 B2 ho2 hs2))
  have B20 : Below w.heap.size w w2 := ((B0.alloc (by have := B0.size; omega) _).alloc (by have := B0.size; simp; omega) _).trans (B2.mono (by have := B0.size; omega))
  have b02 : Box w2 w.heap.size zero32 := by
    obtain ⟨t, ht⟩ := (b0.alloc (.cells (u8s plainPb.B).toArray 5)).alloc (.cells zero32 32)
    exact ⟨t, (ho2 _ (by have := b0.lt; omega)).trans ht⟩
  have hsl : Box w2 w0.heap.size (u8s plainPb.B).toArray := by
    obtain ⟨t, ht⟩ := (Box.new w0 (u8s plainPb.B).toArray 5).alloc (.cells zero32 32)
    exact ⟨t, (ho2 _ (by omega)).trans ht⟩
  have hlt := b0.lt
  have hz40 : 0 + 40 ≤ (plainPb.cells (.slice (some ⟨w0.heap.size, 0, none⟩) 6 6)).size := by rw [plainPb_ok.size]; omega
  have e5 := hb5.setCell (i := 5) (.int .i64 2)
  have e6 := e5.setCell (i := 6) (.int .i64 1)
  have e7 := e6.setCell (i := 7) (.int .i64 (-5))
  have e22 := e7.setCell (i := 22) (.int .i64 (-5))
  have e23 := (e22.setCell (i := 23) (.int .i64 1)).cast (cs' := plainPb.cells (.slice (some ⟨w0.heap.size, 0, none⟩) 6 6)) (by kernel_rfl)
  have c5 := hb5.cell 5
  have c6 := hb5.cell 6
  have c7 := hb5.cell 7
  have c22 := hb5.cell 22
  have c23 := hb5.cell 23
  rw [show (plain0 w0.heap.size)[5]? = some (.int .i64 0) from rfl] at c5
  rw [show (plain0 w0.heap.size)[6]? = some (.int .i64 0) from rfl] at c6
  rw [show (plain0 w0.heap.size)[7]? = some (.int .i64 0) from rfl] at c7
  rw [show (plain0 w0.heap.size)[22]? = some (.int .i64 0) from rfl] at c22
  rw [show (plain0 w0.heap.size)[23]? = some (.int .i64 0) from rfl] at c23
  have z5 := hb5.frozen 5
  have z6 := hb5.frozen 6
  have z7 := hb5.frozen 7
  have z22 := hb5.frozen 22
  have z23 := hb5.frozen 23
  have gl := e23.load (off := 0) (n := 40) hz40 (Array.extract_eq_self_of_le hz40)
  have b03 := ((((b02.setOther (p := ⟨w0.heap.size + 1, 5, none⟩) (by simp; omega) (.int .i64 2)).setOther (p := ⟨w0.heap.size + 1, 6, none⟩) (by simp; omega) (.int .i64 1)).setOther (p := ⟨w0.heap.size + 1, 7, none⟩) (by simp; omega) (.int .i64 (-5))).setOther (p := ⟨w0.heap.size + 1, 22, none⟩) (by simp; omega) (.int .i64 (-5))).setOther (p := ⟨w0.heap.size + 1, 23, none⟩) (by simp; omega) (.int .i64 1)
  have hsl3 := ((((hsl.setOther (p := ⟨w0.heap.size + 1, 5, none⟩) (by simp) (.int .i64 2)).setOther (p := ⟨w0.heap.size + 1, 6, none⟩) (by simp) (.int .i64 1)).setOther (p := ⟨w0.heap.size + 1, 7, none⟩) (by simp) (.int .i64 (-5))).setOther (p := ⟨w0.heap.size + 1, 22, none⟩) (by simp) (.int .i64 (-5))).setOther (p := ⟨w0.heap.size + 1, 23, none⟩) (by simp) (.int .i64 1)
  have B30 := ((((B20.setCell (p := ⟨w0.heap.size + 1, 5, none⟩) (by simp; omega) (.int .i64 2)).setCell (p := ⟨w0.heap.size + 1, 6, none⟩) (by simp; omega) (.int .i64 1)).setCell (p := ⟨w0.heap.size + 1, 7, none⟩) (by simp; omega) (.int .i64 (-5))).setCell (p := ⟨w0.heap.size + 1, 22, none⟩) (by simp; omega) (.int .i64 (-5))).setCell (p := ⟨w0.heap.size + 1, 23, none⟩) (by simp; omega) (.int .i64 1)
  have hfl := plainPb_ok.flat (v := .slice (some ⟨w0.heap.size, 0, none⟩) 6 6) ⟨fun _ h => (by cases h), fun _ h => (by cases h)⟩
  clear e5 e6 e7 e22 ho2 B20 b02 hsl bz b0 hb5
  go_wp2_with (first | ((with_reducible apply ld); rfl; (with_reducible assumption); (simp only [List.set_cons_zero, List.set_cons_succ]; rfl)) | ((with_reducible apply stO); rfl; rfl; exact b03; rfl; rfl; exact hfl; intro w3 hb6 B3 ho3 hs3))
  refine bodyPost_ret (results_cellAgg rfl rfl (hb6.load (off := 0) (n := 40) (cs' := plainPb.cells (.slice (some ⟨w0.heap.size, 0, none⟩) 6 6)) hz40 (Array.extract_eq_self_of_le hz40))) rfl ?_
  refine (show PlainPost _ _ _ from ⟨⟨w0.heap.size, rfl, ?_, by omega⟩, B30.trans B3⟩)
  obtain ⟨t, ht⟩ := hsl3
  exact Box.bytes ⟨t, (ho3 _ (by omega)).trans ht⟩ (by decide)
end Go.Proofs.YtnjmplapjnnjdaaGreat

/- What must come of the chapters' example: it comes. -/
namespace Go.Proofs.YtnjmplapjnnjdaaGreat
open Go.RowKit

theorem nds_part : ∀ (l : List Nd) (k : Nat) (h : k < l.length), ((l.flatMap fun n => n.cells.toList).drop (k * 3)).take 3 = (l[k]).cells.toList ∧ k * 3 + 3 ≤ (l.flatMap fun n => n.cells.toList).length
  | [], k, h => by simp at h
  | a :: l, 0, _ => by simp [Nd.cells, nodeCells]
  | a :: l, k + 1, h => by
    have ih := nds_part l k (by simpa using h)
    have h3 : (k + 1) * 3 = (k * 3) + 3 := by omega
    have ha : a.cells.toList.length = 3 := rfl
    rw [List.flatMap_cons, h3]
    refine ⟨?_, ?_⟩
    · rw [List.drop_append, ha, Nat.add_sub_cancel, List.drop_eq_nil_of_le (by omega), List.nil_append]
      exact ih.1
    · rw [List.length_append, ha]
      omega
theorem Nodes.ofBox {w : World} {b : Nat} {l : List Nd} (h : Box w b (ndCells l)) : Nodes w (some ⟨b, 0, none⟩) l := fun k hk => by
  have := nds_part l k hk
  refine ⟨b, 0, rfl, h.load (by rw [Nat.zero_add]; exact this.2) ?_⟩
  apply Array.ext'
  rw [Array.toList_extract, List.extract_eq_take_drop]
  simpa [ndCells] using this.1
end Go.Proofs.YtnjmplapjnnjdaaGreat
