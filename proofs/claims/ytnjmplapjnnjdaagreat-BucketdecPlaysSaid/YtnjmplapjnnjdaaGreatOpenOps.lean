import Derived.Test.YtnjmplapjnnjdaaGreatSeDec
import Derived.Test.YtnjmplapjnnjdaaGreatLOrder
import Derived.Test.YtnjmplapjnnjdaaGreatKnow
import Derived.Test.YtnjmplapjnnjdaaGreatNoTree
set_option linter.unusedSimpArgs false
set_option linter.unusedVariables false
set_option linter.unnecessarySimpa false
/- The search of layer 17, the program's and the document's: none, and one that nobody made. -/
namespace Go.Proofs.YtnjmplapjnnjdaaGreat
open Go.RowKit

/-- No search, or one that nobody made. -/
def NoSr (w : World) (v : Value) : Prop := v = .pointer none ∨ ∃ b, v = .pointer (some ⟨b, 0, none⟩) ∧ w.cell? ⟨b, 3, none⟩ = some (.pointer none)
theorem NoSr.kept {w w' : World} {v : Value} (h : NoSr w v) (hB : Below w.heap.size w w') : NoSr w' v := by
  rcases h with h | ⟨b, h, hb⟩
  · exact .inl h
  · exact .inr ⟨b, h, KeptW.cell hb ⟨w', hB⟩⟩
theorem no_good (v : Value) (w : World) (h : NoSr w v) : Pure Tryz.prog 46 #[v] w (.bool false) := by
  rcases h with rfl | ⟨b, rfl, hb⟩
  · go_enter Tryz.func46, Tryz.ntmps46
    go_wp2
    go_ret
    exact ⟨rfl, Below.refl _ _⟩
  · go_enter Tryz.func46, Tryz.ntmps46
    go_wp2
    go_ret
    exact ⟨rfl, Below.refl _ _⟩
theorem no_Mark (v : Value) (w : World) (h : NoSr w v) : Pure Tryz.prog 23 #[v] w (.tuple #[.int .i64 0, .bool false]) := by
  go_enter Tryz.func23, Tryz.ntmps23
  go_wp2_with fail
  refine (no_good v w h).mono ?_
  rintro e w1 ⟨rfl, B1⟩
  go_wp2
  go_ret2
  exact ⟨rfl, B1⟩
theorem no_Top (v : Value) (w : World) (h : NoSr w v) : Pure Tryz.prog 21 #[v] w (.tuple #[.int .i64 0, .bool false]) := by
  go_enter Tryz.func21, Tryz.ntmps21
  go_wp2_with fail
  refine (no_good v w h).mono ?_
  rintro e w1 ⟨rfl, B1⟩
  go_wp2
  go_ret2
  exact ⟨rfl, B1⟩
theorem no_Size (v : Value) (w : World) (h : NoSr w v) : Pure Tryz.prog 25 #[v] w (.int .i64 0) := by
  go_enter Tryz.func25, Tryz.ntmps25
  go_upto_region 1 with (fail)
  go_wp2_with fail
  refine (no_good v w h).mono ?_
  rintro e w1 ⟨rfl, B1⟩
  go_wp2
  go_ret
  exact ⟨rfl, B1⟩
set_option maxRecDepth 5000 in
theorem no_Result (v : Value) (w : World) (h : NoSr w v) : Pure Tryz.prog 28 #[v] w (.agg #[.bool false, .bool false, .slice none 0 0, .int .i64 0, .int .i64 0, .int .i64 0, .int .i64 0]) := by
  go_enter Tryz.func28, Tryz.ntmps28
  go_upto_region 1 with fail
  refine name1 ?_
  intro w0 b2 B0
  go_wp2_with fail
  refine (no_good v w0 (h.kept B0)).mono ?_
  rintro e w1 ⟨rfl, B1⟩
  have b21 := b2.kept B1
  have flat0 : Flat #[.bool false, .bool false, .slice none 0 0, .int .i64 0, .int .i64 0, .int .i64 0, .int .i64 0] := flatR
  go_wp2_with (first | ((with_reducible apply ld); rfl; (with_reducible assumption); (simp only [List.set_cons_zero, List.set_cons_succ]; rfl)) | ((with_reducible apply w_build (d := 13) (cs := #[.bool false, .bool false, .slice none 0 0, .int .i64 0, .int .i64 0, .int .i64 0, .int .i64 0])); ((simp only [List.map_toArray, List.map_cons, List.map_nil]); exact build_res0 _)) | ((with_reducible apply stO); rfl; rfl; exact b21; rfl; rfl; exact flat0; intro w2 b4 B2 ho3 hs3))
  refine bodyPost_ret (results_cellAgg rfl rfl (b4.load (off := 0) (n := 7) (cs' := #[.bool false, .bool false, .slice none 0 0, .int .i64 0, .int .i64 0, .int .i64 0, .int .i64 0]) (Nat.le_refl _) rfl)) rfl ?_
  exact ⟨rfl, (bOn B0 B1).trans B2⟩
theorem no_Run (v : Value) (n : Int) (w : World) (h : NoSr w v) : Pure Tryz.prog 32 #[v, .int .i64 n] w (.tuple #[.bool false, .int .i64 1]) := by
  rcases h with rfl | ⟨b, rfl, hb⟩
  all_goals
    go_enter_defers Tryz.func32, Tryz.ntmps32
  · have hvb := Box.new w #[.pointer none] 35
    have BA : Below w.heap.size w (w.alloc (.cells #[.pointer none] 35)) := (Below.refl _ _).alloc (Nat.le_refl _) _
    have cv : (w.alloc (.cells #[.pointer none] 35)).cell? ⟨w.heap.size, 0, none⟩ = some (.pointer none) := hvb.cell 0
    go_wp2_with fail
    refine (no_good (.pointer none) _ (.inl rfl)).mono ?_
    rintro e w1 ⟨rfl, B1⟩
    go_wp2
    exact ⟨_, results_tmp2 (t := 4) (u := 5) rfl _ _ _, rfl, bOn BA B1⟩
  · have hvb := Box.new w #[.pointer (some ⟨b, 0, none⟩)] 35
    have BA : Below w.heap.size w (w.alloc (.cells #[.pointer (some ⟨b, 0, none⟩)] 35)) := (Below.refl _ _).alloc (Nat.le_refl _) _
    have cv : (w.alloc (.cells #[.pointer (some ⟨b, 0, none⟩)] 35)).cell? ⟨w.heap.size, 0, none⟩ = some (.pointer (some ⟨b, 0, none⟩)) := hvb.cell 0
    have hb2 := (BA.cell (lt_of_cell hb)).trans hb
    go_wp2_with fail
    refine (no_good (.pointer (some ⟨b, 0, none⟩)) _ (.inr ⟨b, rfl, hb2⟩)).mono ?_
    rintro e w1 ⟨rfl, B1⟩
    go_wp2
    exact ⟨_, results_tmp2 (t := 4) (u := 5) rfl _ _ _, rfl, bOn BA B1⟩
/-! ### The document's -/
theorem rn_Mark (w : World) : Pure Tryz.prog 24 #[.pointer none] w (.tuple #[.int .i64 0, .bool false]) := by
  go_enter Tryz.func24, Tryz.ntmps24
  go_wp2
  go_ret2
  exact ⟨rfl, Below.refl _ _⟩
theorem rn_Top (w : World) : Pure Tryz.prog 22 #[.pointer none] w (.tuple #[.int .i64 0, .bool false]) := by
  go_enter Tryz.func22, Tryz.ntmps22
  go_wp2
  go_ret2
  exact ⟨rfl, Below.refl _ _⟩
theorem rn_Size (w : World) : Pure Tryz.prog 26 #[.pointer none] w (.int .i64 0) := by
  go_enter Tryz.func26, Tryz.ntmps26
  go_wp2
  go_ret
  exact ⟨rfl, Below.refl _ _⟩
theorem rn_Run (n : Int) (w : World) : Pure Tryz.prog 33 #[.pointer none, .int .i64 n] w (.tuple #[.bool false, .int .i64 1]) := by
  go_enter Tryz.func33, Tryz.ntmps33
  go_wp2
  go_ret2
  exact ⟨rfl, Below.refl _ _⟩
set_option maxRecDepth 5000 in
theorem rn_Result (w : World) : Pure Tryz.prog 29 #[.pointer none] w (.agg #[.bool false, .bool false, .slice none 0 0, .int .i64 0, .int .i64 0, .int .i64 0, .int .i64 0]) := by
  go_enter Tryz.func29, Tryz.ntmps29
  go_upto_region 1 with fail
  refine name1 ?_
  intro w0 b2 B0
  have flat0 : Flat #[.bool false, .bool false, .slice none 0 0, .int .i64 0, .int .i64 0, .int .i64 0, .int .i64 0] := flatR
  go_wp2_with (first | ((with_reducible apply ld); rfl; (with_reducible assumption); (simp only [List.set_cons_zero, List.set_cons_succ]; rfl)) | ((with_reducible apply w_build (d := 8) (cs := #[.bool false, .bool false, .slice none 0 0, .int .i64 0, .int .i64 0, .int .i64 0, .int .i64 0])); ((simp only [List.map_toArray, List.map_cons, List.map_nil]); exact build_res0 _)) | ((with_reducible apply stO); rfl; rfl; exact b2; rfl; rfl; exact flat0; intro w2 b4 B2 ho3 hs3))
  refine bodyPost_ret (results_cellAgg rfl rfl (b4.load (off := 0) (n := 7) (cs' := #[.bool false, .bool false, .slice none 0 0, .int .i64 0, .int .i64 0, .int .i64 0, .int .i64 0]) (Nat.le_refl _) rfl)) rfl ?_
  exact ⟨rfl, B0.trans B2⟩
set_option maxRecDepth 5000 in
theorem law01_SameResults (r : Rs) (a a' : Option Addr) (c c' : Nat) (w : World) (h : Bytes w a r.bits) (h' : Bytes w a' r.bits) :
    Pure Tryz.prog 27 #[.agg (r.cells (.slice a r.bits.length c)), .agg (r.cells (.slice a' r.bits.length c'))] w (.bool true) := by
  go_enter Tryz.func27, Tryz.ntmps27
  go_upto_region 1 with fail
  refine name2 ?_
  intro w0 b1 b2 B0
  have x0 := h.kept B0
  have y0 := h'.kept B0
  have c10 := b1.cell 0
  have c11 := b1.cell 1
  have c12 := b1.cell 2
  have c13 := b1.cell 3
  have c14 := b1.cell 4
  have c15 := b1.cell 5
  have c16 := b1.cell 6
  have c20 := b2.cell 0
  have c21 := b2.cell 1
  have c22 := b2.cell 2
  have c23 := b2.cell 3
  have c24 := b2.cell 4
  have c25 := b2.cell 5
  have c26 := b2.cell 6
  simp only [Rs.cells, List.getElem?_toArray, List.getElem?_cons_zero, List.getElem?_cons_succ] at c10 c11 c12 c13 c14 c15 c16 c20 c21 c22 c23 c24 c25 c26
  have v1 := run_conv (P := Tryz.prog) (src := 30) (dst := 9) (cap := c) x0 rfl
  have v2 := run_conv (P := Tryz.prog) (src := 30) (dst := 9) (cap := c') y0 rfl
  go_wp2
  go_ret
  exact ⟨rfl, B0⟩
/-! ### looks, asks -/
set_option maxRecDepth 5000 in
set_option maxHeartbeats 1000000 in
theorem no_looks (v : Value) (w : World) (h : NoSr w v) : Pure Tryz.prog 8 #[v, .pointer none] w (.bool true) := by
  go_enter Tryz.func8, Tryz.ntmps8
  go_wp2_with fail
  refine (no_Top v _ h).mono ?_
  rintro e w1 ⟨rfl, B1⟩
  have h1 := h.kept B1
  go_wp2_with fail
  refine (rn_Top _).mono ?_
  rintro e w2 ⟨rfl, B2⟩
  have h2 := h1.kept B2
  go_wp2_with fail
  refine (no_Mark v _ h2).mono ?_
  rintro e w3 ⟨rfl, B3⟩
  have h3 := h2.kept B3
  go_wp2_with fail
  refine (rn_Mark _).mono ?_
  rintro e w4 ⟨rfl, B4⟩
  have h4 := h3.kept B4
  go_wp2_with fail
  refine (no_Size v _ h4).mono ?_
  rintro e w5 ⟨rfl, B5⟩
  have h5 := h4.kept B5
  go_wp2_with fail
  refine (rn_Size _).mono ?_
  rintro e w6 ⟨rfl, B6⟩
  have h6 := h5.kept B6
  go_wp2_with fail
  refine (no_Result v _ h6).mono ?_
  rintro e w7 ⟨rfl, B7⟩
  go_wp2_with fail
  refine (rn_Result _).mono ?_
  rintro e w8 ⟨rfl, B8⟩
  have hs := law01_SameResults Rs.zero none none 0 0 w8 (Bytes.nil _ _) (Bytes.nil _ _)
  go_wp2_with fail
  refine hs.mono ?_
  rintro e w9 ⟨rfl, B9⟩
  go_wp2
  go_ret
  exact ⟨rfl, bOn (bOn (bOn (bOn (bOn (bOn (bOn (bOn B1 B2) B3) B4) B5) B6) B7) B8) B9⟩
end Go.Proofs.YtnjmplapjnnjdaaGreat

/- outpostlaw17.BucketdecNil: no search, and one that nobody made. -/
namespace Go.Proofs.YtnjmplapjnnjdaaGreat
open Go.RowKit

theorem law17_nil_asks (v : Value) (k n : Int) (w : World) (h : NoSr w v) : Pure Tryz.prog 11 #[v, .pointer none, .agg #[.int .i64 k, .int .i64 n]] w (.bool true) := by
  by_cases hk : k = 1
  · have hk1 : (k == 1) = true := by simp [hk]
    clear hk
    go_enter Tryz.func11, Tryz.ntmps11
    go_upto_region 1 with fail
    refine name1 ?_
    intro w0 b0 B0
    have c0 := b0.cell 0
    have c1 := b0.cell 1
    simp only [List.getElem?_toArray, List.getElem?_cons_zero, List.getElem?_cons_succ] at c0 c1
    have h0 := h.kept B0
    go_wp2_with fail
    refine (no_Run v n _ h0).mono ?_
    rintro e w1 ⟨rfl, B1⟩
    have h1 := h0.kept B1
    have c1 := (b0.kept B1).cell 1
    simp only [List.getElem?_toArray, List.getElem?_cons_zero, List.getElem?_cons_succ] at c1
    go_wp2_with fail
    refine (rn_Run n _).mono ?_
    rintro e w2 ⟨rfl, B2⟩
    go_wp2_with fail
    refine (law17_num 1 _).mono ?_
    rintro e w3 ⟨rfl, B3⟩
    go_wp2_with fail
    refine (no_looks v _ ((h1.kept B2).kept B3)).mono ?_
    rintro e w4 ⟨rfl, B4⟩
    go_wp2
    go_ret
    exact ⟨rfl, bOn (bOn (bOn (bOn B0 B1) B2) B3) B4⟩
  · have hk1 : (k == 1) = false := by simp [hk]
    clear hk
    go_enter Tryz.func11, Tryz.ntmps11
    go_upto_region 1 with fail
    refine name1 ?_
    intro w0 b0 B0
    have c0 := b0.cell 0
    simp only [List.getElem?_toArray, List.getElem?_cons_zero] at c0
    have h0 := h.kept B0
    go_wp2_with fail
    refine (no_looks v _ h0).mono ?_
    rintro e w4 ⟨rfl, B4⟩
    go_wp2
    go_ret
    exact ⟨rfl, bOn B0 B4⟩
/-- A script: kinds and numbers. -/
def Ops (w : World) (a : Option Addr) (l : List (Int × Int)) : Prop := ∀ k (h : k < l.length), ∃ b o, a = some ⟨b, o, none⟩ ∧ loadAgg w b (o + k * 2) 2 = .ok (.agg #[.int .i64 l[k].1, .int .i64 l[k].2]) w
theorem Ops.kept {w w' : World} {a : Option Addr} {l : List (Int × Int)} (h : Ops w a l) (hB : Below w.heap.size w w') : Ops w' a l := fun k hk => by
  obtain ⟨b, o, h1, h2⟩ := h k hk
  exact ⟨b, o, h1, Below.loadAgg hB (lt_of_loadAgg h2) h2⟩
theorem ldG17 {P : Program} {ops : Array Oper} {rest : List Oper} {l l' : List Value} {ds : List Deferred} {w : World} {Q : Exit → Act → World → Prop} {t n b off d : Nat} {x : Operand} {v : Value} {ty : TypeId} {ps : String} {af : Array Edge} {gd : Option (Nat × Bool)}
    (hw : Region.wanted ⟨some d, .load t x, ty, ps, af, gd⟩ (yielded ops l.toArray) = true) (hx : (Act.mk l.toArray ds).eval x = .pointer (some ⟨b, off, none⟩)) [T : AggTy P t n] (hl : loadAgg w b off n = .ok v w) (hs : l.set d v = l') (h : wpList P ops Q rest ⟨l'.toArray, ds⟩ w) :
    wpList P ops Q (⟨some d, .load t x, ty, ps, af, gd⟩ :: rest) ⟨l.toArray, ds⟩ w := by
  obtain ⟨d, h1, h2, h3⟩ := T.out
  refine BigFrame.wpList_want hw fun K hK => ?_
  unfold Oper.wp execOp
  have := run_loadVar_agg (P := P) (w := w) (b := b) (off := off) h1 h2 h3 (by rw [hl]; rfl)
  simp only [hx, Instr.loadAt, Instr.sureAddr, Sem.run_bind, Sem.run_pure, Result.andThen_ok, this, hl]
  rw [Oper.upon_value, put_list, hs]
  exact hK _ _ h
end Go.Proofs.YtnjmplapjnnjdaaGreat

/- A script that came in. -/
namespace Go.Proofs.YtnjmplapjnnjdaaGreat
open Go.WideShapes Go.ChangeShapes Go.ChangeAt Go.RowKit

set_option maxRecDepth 5000 in
theorem open_opL {H : Type} {enc : TypeId × Value → H} {w : World} {base : Nat} {sp : Nat → Bool} {held : Bool} {fuel : Nat} {cs : List Value} {x : DataW H × List MemPlace} (h : DataW.trod enc Tryz.prog w base sp held fuel 48 cs = some x) : ∃ y : Int × Int, cs = [.int .i64 y.1, .int .i64 y.2] := by
  obtain ⟨xs, n, rfl, _, hl, hxs, hall⟩ := DataW.trod_struct Tryz.underlying48 h
  have h3 : cs.length = 2 := hl.trans (by kernel_rfl)
  have f0 : DataW.trod enc Tryz.prog w base sp held n 3 ((cs.drop 0).take (Tryz.prog.cellsOf 3)) = xs[0]? := hall 0 _ rfl
  have f1 : DataW.trod enc Tryz.prog w base sp held n 3 ((cs.drop 1).take (Tryz.prog.cellsOf 3)) = xs[1]? := hall 1 _ rfl
  obtain ⟨y0, e0⟩ := get_some (i := 0) hxs (by decide)
  obtain ⟨y1, e1⟩ := get_some (i := 1) hxs (by decide)
  rw [e0] at f0
  rw [e1] at f1
  rw [show Tryz.prog.cellsOf 3 = 1 by kernel_rfl] at f0 f1
  obtain ⟨d, g1, _, w1⟩ := DataW.trod_int Tryz.underlying3 f0
  obtain ⟨m, g2, _, w2⟩ := DataW.trod_int Tryz.underlying3 f1
  refine ⟨(d, m), ?_⟩
  match cs, h3 with
  | [a, b], _ =>
    simp at g1 g2
    subst g1 g2
    rfl
theorem load_two {w : World} {b o : Nat} {x y : Value} (h0 : w.cell? ⟨b, o, none⟩ = some x) (h1 : w.cell? ⟨b, o + 1, none⟩ = some y) : loadAgg w b o 2 = .ok (.agg #[x, y]) w := by
  obtain ⟨cs, t, fr, hb, c0⟩ := cell_block h0
  obtain ⟨cs1, t1, fr1, hb1, c1⟩ := cell_block h1
  rw [hb] at hb1
  simp at hb1
  obtain ⟨rfl, rfl, rfl⟩ := hb1
  have hlt := (Array.getElem?_eq_some_iff.1 c1).1
  rw [loadAgg_block hb (by omega)]
  congr 2
  apply Array.ext'
  rw [Array.toList_extract, List.extract_eq_take_drop]
  have e0 : (cs.toList.drop o)[0]? = some x := by simpa using c0
  have e1 : (cs.toList.drop o)[1]? = some y := by simpa using c1
  rw [show o + 2 - o = 2 by omega]
  match cs.toList.drop o, e0, e1 with
  | a :: b :: r, e0, e1 =>
    simp at e0 e1
    subst e0 e1
    rfl
set_option maxRecDepth 5000 in
/-- A script that came in. -/
theorem open_ops {H : Type} {enc : TypeId × Value → H} {w : World} {base : Nat} {sp : Nat → Bool} {held : Bool} {r : Reach} {b0 : Nat} {v : Value} {d : DataW H} {ps : List MemPlace}
    (hval : Value.okWide Tryz.prog w r b0 33 v) (hd : DataW.Trod enc Tryz.prog w base sp held 33 v d ps) :
    ∃ (l : List (Int × Int)) (a : Option Addr) (cap : Nat), Ops w a l ∧ v = .slice a l.length cap ∧ l.length ≤ maxLen := by
  obtain ⟨a, len, cap, rfl⟩ := okWide_slice Tryz.underlying33 hval
  obtain ⟨fuel, hf⟩ := hd
  rcases Deep.open_slice Tryz.underlying33 hf with ⟨hcs, _⟩ | ⟨a', len', cap', m, n, D, Pl, hcs, _, hl, hmax, hm, _, hall⟩
  · simp [Value.cells] at hcs
    obtain ⟨rfl, rfl, rfl⟩ := hcs
    exact ⟨[], none, 0, fun k hk => by simp at hk, rfl, by simp⟩
  · simp [Value.cells] at hcs
    obtain ⟨rfl, rfl, rfl⟩ := hcs
    have hlm : len ≤ m := by rw [hm]; split <;> omega
    rw [show Tryz.prog.cellsOf 48 = 2 by kernel_rfl] at hall
    have each : ∀ i, ∃ y : Int × Int, i < len → ∃ cs', w.cells? base (a'.add (i * 2)) 2 = some cs' ∧ cs' = [.int .i64 y.1, .int .i64 y.2] := fun i => by
      by_cases hi : i < len
      · obtain ⟨cs', h1, h2⟩ := hall i (by omega)
        obtain ⟨y, he⟩ := open_opL h2
        exact ⟨y, fun _ => ⟨cs', h1, he⟩⟩
      · exact ⟨(0, 0), fun h => absurd h hi⟩
    obtain ⟨F, hF⟩ := Classical.axiomOfChoice each
    have hlen : ((List.range len).map F).length = len := by simp
    refine ⟨(List.range len).map F, some a', cap, fun k hk => ?_, by rw [hlen], by rw [hlen]; omega⟩
    rw [hlen] at hk
    have two : ∀ j, j < 2 → ∃ u, w.cell? ((a'.add (k * 2)).add j) = some u ∧ ([.int .i64 (F k).1, .int .i64 (F k).2] : List Value)[j]? = some u := fun j hj => by
      obtain ⟨cs', h1, h2⟩ := hF k hk
      unfold World.cells? at h1
      split at h1
      · have := mapM_some_get h1 j j (by simp [hj])
        rw [h2] at this
        refine ⟨([.int .i64 (F k).1, .int .i64 (F k).2] : List Value)[j]'(by simpa using hj), ?_, by simp⟩
        rw [this]
        simp [hj]
      · cases h1
    obtain ⟨b, off, spot⟩ := a'
    have hspot : spot = none := by
      obtain ⟨cs', h1, h2⟩ := hF 0 (by omega)
      unfold World.cells? at h1
      split at h1
      · have h3 := mapM_some_get h1 0 0 (by simp)
        rw [h2] at h3
        have h4 : w.cell? (((⟨b, off, spot⟩ : Addr).add (0 * 2)).add 0) = some (.int .i64 (F 0).1) := by rw [h3]; rfl
        simpa [Addr.add] using World.cell?_spot h4
      · cases h1
    subst hspot
    have hadd : ∀ i j, ((⟨b, off, none⟩ : Addr).add i).add j = ⟨b, off + i + j, none⟩ := fun i j => by unfold Addr.add; split <;> split <;> simp_all
    obtain ⟨u0, h0, e0⟩ := two 0 (by omega)
    obtain ⟨u1, h1, e1⟩ := two 1 (by omega)
    rw [hadd] at h0 h1
    rw [Nat.add_zero] at h0
    refine ⟨b, off, rfl, ?_⟩
    rw [load_two h0 h1]
    simp at e0 e1
    subst e0 e1
    simp
end Go.Proofs.YtnjmplapjnnjdaaGreat
