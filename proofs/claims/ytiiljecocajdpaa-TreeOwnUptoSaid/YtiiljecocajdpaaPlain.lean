/- The problem that the chapters' examples have: how it is made. -/
import Derived.Test.YtiiljecocajdpaaNode
namespace Go.Proofs.Ytiiljecocajdpaa
open Go.RowKit

def plainT (a b c d : Int) : Tb := ⟨2, [a, b, 0, 0, 0, 0, 0, 0, 0, 0, 0, 0, 0, 0, 0, 0, c, d, 0, 0, 0, 0, 0, 0, 0, 0, 0, 0, 0, 0, 0, 0]⟩
def plainPb : Pb := ⟨⟨3, 2, 7, 5, 0⟩, plainT 1 (-5) (-5) 1, 1, [1, 1, 1, 0, 1, 1]⟩
theorem plainPb_ok : plainPb.Ok := by
  refine ⟨⟨by decide, by decide, by decide, by decide, by decide, by decide, by decide, by decide, by decide, by decide⟩, ⟨rfl, by decide, by decide, by decide⟩, by decide, by decide, by decide, by decide⟩
theorem plainPb_chk : probChk plainPb = 0 := by kernel_rfl
theorem plainPb_N : plainPb.N = 3 := rfl
theorem plainPb_k0 : plainPb.kid ⟨0, 0, 0⟩ 0 = ⟨0, 1, -10⟩ := by kernel_rfl
theorem plainPb_k1 : plainPb.kid ⟨0, 0, 0⟩ 1 = ⟨1, 1, 2⟩ := by kernel_rfl
theorem build23 (w : World) : (Instr.build 23 #[(0, .int .u32 7), (1, .int .u32 5)]).run Try.prog w = .ok (.agg #[.int .u32 7, .int .u32 5, .int .u32 0]) w := run_build w _ _ _ (by kernel_rfl)
theorem build25 (w : World) : (Instr.build 25 #[(0, .int .i64 3), (1, .int .i64 2), (2, .agg #[.int .u32 7, .int .u32 5, .int .u32 0])]).run Try.prog w = .ok (.agg plainPb.C.cells) w := run_build w _ _ _ (by kernel_rfl)
theorem build32 (v : Nat) (w : World) : (Instr.build 32 #[(0, .agg plainPb.C.cells), (2, .int .i64 1), (3, .slice (some ⟨v, 0, none⟩) 6 6)]).run Try.prog w = .ok (.agg ((Pb.mk ⟨3, 2, 7, 5, 0⟩ ⟨0, List.replicate 32 0⟩ 1 []).cells (.slice (some ⟨v, 0, none⟩) 6 6))) w := run_build w _ _ _ (by kernel_rfl)

theorem w_build {P : Program} {ops : Array Oper} {rest : List Oper} {l : List Value} {ds : List Deferred} {w : World} {Q : Exit → Act → World → Prop} {d : Nat} {t : TypeId} {parts : Array (Nat × Operand)} {cs : Array Value} {ty : TypeId} {ps : String} {af : Array Edge}
    (hr : (Instr.build t (parts.map fun (i, x) => (i, (Act.mk l.toArray ds).eval x))).run P w = .ok (.agg cs) w)
    (h : wpList P ops Q rest ⟨(l.set d (.agg cs)).toArray, ds⟩ w) : wpList P ops Q (⟨some d, .build t parts, ty, ps, af, none⟩ :: rest) ⟨l.toArray, ds⟩ w := by
  refine wpList_plain rfl fun K hK => ?_
  unfold Oper.wp execOp
  simp only [Sem.run_bind, hr, Result.andThen_ok, Sem.run_pure]
  rw [Oper.upon_value, put_list]
  exact hK _ _ h
theorem slice30 (w : World) : (Instr.buildSlice 30 6 #[(0, .int .u8 1), (1, .int .u8 1), (2, .int .u8 1), (3, .int .u8 0), (4, .int .u8 1), (5, .int .u8 1)]).run Try.prog w = .ok (.slice (some ⟨w.heap.size, 0, none⟩) 6 6) (w.alloc (.cells (u8s plainPb.B).toArray 5)) := by
  go_simp
  rfl
theorem Box.bytes {w : World} {b : Nat} {l : List Nat} (h : Box w b (u8s l).toArray) (hl : ∀ x ∈ l, x < 256) : Bytes w (some ⟨b, 0, none⟩) l :=
  ⟨fun k hk => ⟨b, 0, rfl, by rw [Nat.zero_add, h.cell, List.getElem?_toArray]; exact u8s_get hk⟩, hl⟩
def plain0 (g : Nat) : Array Value := (Pb.mk ⟨3, 2, 7, 5, 0⟩ ⟨0, List.replicate 32 0⟩ 1 []).cells (.slice (some ⟨g, 0, none⟩) 6 6)
def zero32 : Array Value := (Pb.mk ⟨0, 0, 0, 0, 0⟩ ⟨0, List.replicate 32 0⟩ 0 []).cells (.slice none 0 0)
def PlainPost (w : World) (e : Ending) (w' : World) : Prop := (∃ g, e = .returned (.agg (plainPb.cells (.slice (some ⟨g, 0, none⟩) 6 6))) ∧ Bytes w' (some ⟨g, 0, none⟩) plainPb.B ∧ w.heap.size ≤ g) ∧ Below w.heap.size w w'
set_option maxRecDepth 5000 in
set_option maxHeartbeats 1000000 in
theorem law11_Plain (w : World) : Calls Try.prog 61 #[] w (PlainPost w) := by
  go_enter Try.func61, Try.ntmps61
  go_upto_region 1 with (fail)
  refine name1 ?_
  intro w0 b0 B0
  have f0 : ∀ g, Flat (plain0 g) := fun g => Pb.Ok.flat (p := ⟨⟨3, 2, 7, 5, 0⟩, ⟨0, List.replicate 32 0⟩, 1, []⟩) ⟨⟨by decide, by decide, by decide, by decide, by decide, by decide, by decide, by decide, by decide, by decide⟩, ⟨rfl, by decide, by decide, by decide⟩, by decide, by decide, by decide, by decide⟩ ⟨fun _ h => (by cases h), fun _ h => (by cases h)⟩
  have bz : Box ((w0.alloc (.cells (u8s plainPb.B).toArray 5)).alloc (.cells zero32 32)) (w0.heap.size + 1) zero32 := by simpa using Box.new (w0.alloc (.cells (u8s plainPb.B).toArray 5)) zero32 32
  go_upto_region 2 with (first
    | ((with_reducible apply ld); rfl; (with_reducible assumption); (simp only [List.set_cons_zero, List.set_cons_succ]; rfl))
    | ((with_reducible apply w_build (d := 2)); ((simp only [List.map_toArray, List.map_cons, List.map_nil]); exact build23 _))
    | ((with_reducible apply w_build (d := 3)); ((simp only [List.map_toArray, List.map_cons, List.map_nil]); exact build25 _))
    | ((with_reducible apply w_slice (d := 4) (cs := (u8s plainPb.B).toArray) (e := 5)); ((simp only [List.map_toArray, List.map_cons, List.map_nil]); exact slice30 _))
    | ((with_reducible apply w_build (d := 5) (cs := plain0 w0.heap.size)); ((simp only [List.map_toArray, List.map_cons, List.map_nil]); exact build32 _ _))
    | ((with_reducible apply stO); rfl; rfl; exact bz; rfl; rfl; exact f0 _; intro w2 hb5 B2 ho2 hs2))
  have B20 : Below w.heap.size w w2 := ((B0.alloc (by have := B0.size; omega) _).alloc (by have := B0.size; simp; omega) _).trans (B2.mono (by have := B0.size; omega))
  have b02 : Box w2 w.heap.size zero32 := by
    obtain ⟨t, ht⟩ := (b0.alloc (.cells (u8s plainPb.B).toArray 5)).alloc (.cells zero32 32)
    exact ⟨t, (ho2 _ (by have := b0.lt; omega)).trans ht⟩
  have hsl : Box w2 w0.heap.size (u8s plainPb.B).toArray := by
    obtain ⟨t, ht⟩ := (Box.new w0 (u8s plainPb.B).toArray 5).alloc (.cells zero32 32)
    exact ⟨t, (ho2 _ (by omega)).trans ht⟩
  have hlt := b0.lt
  have hz40 : 0 + 40 ≤ (plainPb.cells (.slice (some ⟨w0.heap.size, 0, none⟩) 6 6)).size := by rw [plainPb_ok.size]; omega
  have e5 := hb5.setCell (i := 5) (.int .i64 2)
  have e6 := e5.setCell (i := 6) (.int .i64 1)
  have e7 := e6.setCell (i := 7) (.int .i64 (-5))
  have e22 := e7.setCell (i := 22) (.int .i64 (-5))
  have e23 := (e22.setCell (i := 23) (.int .i64 1)).cast (cs' := plainPb.cells (.slice (some ⟨w0.heap.size, 0, none⟩) 6 6)) (by kernel_rfl)
  have c5 := hb5.cell 5
  have c6 := hb5.cell 6
  have c7 := hb5.cell 7
  have c22 := hb5.cell 22
  have c23 := hb5.cell 23
  rw [show (plain0 w0.heap.size)[5]? = some (.int .i64 0) from rfl] at c5
  rw [show (plain0 w0.heap.size)[6]? = some (.int .i64 0) from rfl] at c6
  rw [show (plain0 w0.heap.size)[7]? = some (.int .i64 0) from rfl] at c7
  rw [show (plain0 w0.heap.size)[22]? = some (.int .i64 0) from rfl] at c22
  rw [show (plain0 w0.heap.size)[23]? = some (.int .i64 0) from rfl] at c23
  have z5 := hb5.frozen 5
  have z6 := hb5.frozen 6
  have z7 := hb5.frozen 7
  have z22 := hb5.frozen 22
  have z23 := hb5.frozen 23
  have gl := e23.load (off := 0) (n := 40) hz40 (Array.extract_eq_self_of_le hz40)
  have b03 := ((((b02.setOther (p := ⟨w0.heap.size + 1, 5, none⟩) (by simp; omega) (.int .i64 2)).setOther (p := ⟨w0.heap.size + 1, 6, none⟩) (by simp; omega) (.int .i64 1)).setOther (p := ⟨w0.heap.size + 1, 7, none⟩) (by simp; omega) (.int .i64 (-5))).setOther (p := ⟨w0.heap.size + 1, 22, none⟩) (by simp; omega) (.int .i64 (-5))).setOther (p := ⟨w0.heap.size + 1, 23, none⟩) (by simp; omega) (.int .i64 1)
  have hsl3 := ((((hsl.setOther (p := ⟨w0.heap.size + 1, 5, none⟩) (by simp) (.int .i64 2)).setOther (p := ⟨w0.heap.size + 1, 6, none⟩) (by simp) (.int .i64 1)).setOther (p := ⟨w0.heap.size + 1, 7, none⟩) (by simp) (.int .i64 (-5))).setOther (p := ⟨w0.heap.size + 1, 22, none⟩) (by simp) (.int .i64 (-5))).setOther (p := ⟨w0.heap.size + 1, 23, none⟩) (by simp) (.int .i64 1)
  have B30 := ((((B20.setCell (p := ⟨w0.heap.size + 1, 5, none⟩) (by simp; omega) (.int .i64 2)).setCell (p := ⟨w0.heap.size + 1, 6, none⟩) (by simp; omega) (.int .i64 1)).setCell (p := ⟨w0.heap.size + 1, 7, none⟩) (by simp; omega) (.int .i64 (-5))).setCell (p := ⟨w0.heap.size + 1, 22, none⟩) (by simp; omega) (.int .i64 (-5))).setCell (p := ⟨w0.heap.size + 1, 23, none⟩) (by simp; omega) (.int .i64 1)
  have hfl := plainPb_ok.flat (v := .slice (some ⟨w0.heap.size, 0, none⟩) 6 6) ⟨fun _ h => (by cases h), fun _ h => (by cases h)⟩
  clear e5 e6 e7 e22 ho2 B20 b02 hsl bz b0 hb5
  go_wp2_with (first | ((with_reducible apply ld); rfl; (with_reducible assumption); (simp only [List.set_cons_zero, List.set_cons_succ]; rfl)) | ((with_reducible apply stO); rfl; rfl; exact b03; rfl; rfl; exact hfl; intro w3 hb6 B3 ho3 hs3))
  refine bodyPost_ret (results_cellAgg rfl rfl (hb6.load (off := 0) (n := 40) (cs' := plainPb.cells (.slice (some ⟨w0.heap.size, 0, none⟩) 6 6)) hz40 (Array.extract_eq_self_of_le hz40))) rfl ?_
  refine (show PlainPost _ _ _ from ⟨⟨w0.heap.size, rfl, ?_, by omega⟩, B30.trans B3⟩)
  obtain ⟨t, ht⟩ := hsl3
  exact Box.bytes ⟨t, (ho3 _ (by omega)).trans ht⟩ (by decide)
end Go.Proofs.Ytiiljecocajdpaa
