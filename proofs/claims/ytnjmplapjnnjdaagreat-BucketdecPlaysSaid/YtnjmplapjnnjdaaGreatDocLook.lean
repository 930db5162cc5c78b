import Derived.Test.YtnjmplapjnnjdaaGreatFill
import Derived.Test.YtnjmplapjnnjdaaGreatKid
import Derived.Laws.OwnMore
import Derived.Test.YtnjmplapjnnjdaaGreatNoTree
import Derived.Test.YtnjmplapjnnjdaaGreatRange
import Derived.Test.YtnjmplapjnnjdaaGreatSeq
set_option linter.unusedSimpArgs false
set_option linter.unusedVariables false
set_option linter.unnecessarySimpa false
/- The document's tree: how it lies in memory, its making, its looks. -/
namespace Go.Proofs.YtnjmplapjnnjdaaGreat
open Go.RowKit

/-- The document's tree of a problem. -/
structure DocIn (w : World) (p : Pb) (tb g c : Nat) : Prop where
  tree : Box w tb (p.cells (.slice (some ⟨g, 0, none⟩) p.B.length c))
  win : Bytes w (some ⟨g, 0, none⟩) p.B
theorem DocIn.kept {w w' : World} {p : Pb} {tb g c : Nat} (h : DocIn w p tb g c) (hB : Below w.heap.size w w') : DocIn w' p tb g c := ⟨h.tree.kept hB, h.win.kept hB⟩
def DocPost (p : Pb) (w : World) (e : Ending) (w' : World) : Prop := (∃ tb g c, e = .returned (.tuple #[.pointer (some ⟨tb, 0, none⟩), .int .i64 0]) ∧ DocIn w' p tb g c ∧ (w.heap.size ≤ tb ∧ w.heap.size ≤ g)) ∧ Below w.heap.size w w'
theorem doc_New_bad (p : Pb) (a : Option Addr) (cap : Nat) (hp : p.Ok) (h : probChk p ≠ 0) (w : World) (hw : Bytes w a p.B) :
    Pure Tryz.prog 18 #[.agg (p.cells (.slice a p.B.length cap))] w (.tuple #[.pointer none, .int .i64 (probChk p)]) := by
  go_enter Tryz.func18, Tryz.ntmps18
  go_upto_region 1 with (fail)
  refine name1 ?_
  intro w0 b1 B0
  obtain ⟨fk, fr, flev, fl, fwin, fcode, ftable, fall⟩ := b1.prob hp
  clear fk fr flev fl fwin fcode ftable
  have hc : (probChk p != 0) = true := by simp [h]
  go_wp2_with ((with_reducible apply ld); rfl; (with_reducible assumption); (simp only [List.set_cons_zero, List.set_cons_succ]; rfl))
  refine (ref11_Check p a cap hp _ (hw.kept B0)).mono ?_
  rintro e w1 ⟨rfl, B1⟩
  go_wp2
  go_ret2
  exact ⟨rfl, bOn B0 B1⟩
theorem doc_form {w' : World} {base e n m : Nat} {v : Value} {xs : List Value} {b0 b1 : Nat} (h : w'.ownsRow base e 1 v n xs) (hat : v.ownBlock = (Value.slice (some ⟨b0, 0, none⟩) m m).ownBlock ∨ v.ownBlock = some b1) : ∃ g cap', v = .slice (some ⟨g, 0, none⟩) n cap' ∧ n ≤ cap' ∧ base ≤ g := by
  obtain ⟨k, hk⟩ : ∃ k, v.ownBlock = some k := by
    rcases hat with h | h
    · exact ⟨_, h⟩
    · exact ⟨_, h⟩
  obtain ⟨c, rfl, hc⟩ := own_form h hk
  rcases h.2 with ⟨h', _⟩ | ⟨g', c', cur, h', hb, _⟩
  · cases h'
  · obtain ⟨rfl, rfl⟩ : k = g' ∧ c = c' := by simpa using h'
    exact ⟨k, c, rfl, hc, hb⟩
set_option maxRecDepth 5000 in
theorem doc_New (p : Pb) (a : Option Addr) (cap : Nat) (hp : p.Ok) (h : probChk p = 0) (w : World) (hw : Bytes w a p.B) :
    Calls Tryz.prog 18 #[.agg (p.cells (.slice a p.B.length cap))] w (DocPost p w) := by
  obtain ⟨⟨k1, k2⟩, l1, l2, cr, hwin, _⟩ := probChk_ok h
  have hn : p.B.length ≤ 140737488351232 := by
    have h1 : p.N ≤ 1056 := by unfold Pb.N; omega
    rcases cr with h | h <;> rw [h] at hwin <;> omega
  clear k1 k2 l1 l2 cr hwin
  go_enter Tryz.func18, Tryz.ntmps18
  go_upto_region 1 with (fail)
  refine name1 ?_
  intro w0 b1 B0
  obtain ⟨fk, fr, flev, fl, fwin, fcode, ftable, fall⟩ := b1.prob hp
  clear fk fr flev fl fwin fcode ftable
  go_wp2_with ((with_reducible apply ld); rfl; (with_reducible assumption); (simp only [List.set_cons_zero, List.set_cons_succ]; rfl))
  refine (ref11_Check p a cap hp _ (hw.kept B0)).mono ?_
  rintro e w1 ⟨rfl, B1⟩
  rw [h]
  have b11 := b1.kept B1
  have c39 := b11.cell 39
  rw [hp.cell39] at c39
  clear fall
  have hw1 := hw.kept (bOn B0 B1)
  have c39' : (w1.alloc (.cells #[] 5)).cell? ⟨w.heap.size, 39, none⟩ = some (.slice a p.B.length cap) := (((Below.refl _ w1).alloc (Nat.le_refl _) _).cell b11.lt).trans c39
  have hwa := hw1.kept ((Below.refl _ w1).alloc (Nat.le_refl _) (.cells #[] 5))
  have hown : (w1.alloc (.cells #[] 5)).ownsRow w1.heap.size 5 1 (.slice (some ⟨w1.heap.size, 0, none⟩) 0 0) 0 [] := World.ownsRow_lit (e := 5) (size := 1) w1 #[] 0 (Nat.le_refl _) (by decide) rfl
  have hb1a := b11.alloc (.cells #[] 5)
  have hb1l := b11.lt
  go_upto_region 5 with (at_builtin; refine apB hown hwa rfl rfl rfl (by omega) (by simp) ?_; intro v' w2 hown2 hgr hat; have B2 := own_below hown hgr (by simp); obtain ⟨g, cap', rfl, hcap, hg⟩ := doc_form hown2 hat; have hz39 := (hb1a.below B2 hb1l).frozen 39; have hc39 := (hb1a.below B2 hb1l).cell 39; rw [hp.cell39] at hc39)
  have B20 : Below w.heap.size w w2 := (bOn B0 B1).trans ((((Below.refl w1.heap.size w1).alloc (Nat.le_refl _) _).trans B2).mono (by have := B0.size; have := B1.size; omega))
  have hbp := (hb1a.below B2 hb1l).setCell (i := 39) (.slice (some ⟨g, 0, none⟩) p.B.length cap')
  rw [hp.set39] at hbp
  have hby : Bytes w2 (some ⟨g, 0, none⟩) p.B := own_bytes (bs := p.B) (by simpa [u8s] using hown2) hw.lt
  have hgl : w1.heap.size ≤ g := hg
  refine nameAny (fun W => Box W w.heap.size (p.cells (.slice (some ⟨g, 0, none⟩) p.B.length cap')) ∧ Bytes W (some ⟨g, 0, none⟩) p.B ∧ Below w.heap.size w W) ⟨hbp, hby.block (Below.heap_setCell _ _ _ _ (by simp; omega)), B20.setCell (by simp) _⟩ ?_
  rintro w3 ⟨b13, by3, B3⟩
  clear hbp hby hz39 hc39 hown2 hown hb1a c39 c39'
  obtain ⟨fk, fr, flev, fl, fwin, fcode, ftable, fall⟩ := b13.prob hp
  clear fk fr flev fl fwin fcode ftable
  have hbd : ∀ w, (Instr.build 75 #[(0, .agg (p.cells (.slice (some ⟨g, 0, none⟩) p.B.length cap')))]).run Tryz.prog w = .ok (.agg (p.cells (.slice (some ⟨g, 0, none⟩) p.B.length cap'))) w := fun w => run_build_one (f := ⟨"P", 32, 0, false, "", "", 0⟩) Tryz.underlying75 rfl (z := .agg zero32) (by kernel_rfl) rfl (by kernel_rfl) (hp.size _) w
  go_wp2_with (first | ((with_reducible apply ld); rfl; (with_reducible assumption); (simp only [List.set_cons_zero, List.set_cons_succ]; rfl)) | ((with_reducible apply w_build (d := 16) (cs := p.cells (.slice (some ⟨g, 0, none⟩) p.B.length cap'))); ((simp only [List.map_toArray, List.map_cons, List.map_nil]); exact hbd _)))
  go_ret2
  have hsz := B3.size
  refine (show DocPost p w _ _ from ⟨⟨w3.heap.size, g, cap', rfl, ⟨Box.new _ _ _, by3.kept ((Below.refl _ _).alloc (Nat.le_refl _) _)⟩, by omega, by have := B0.size; have := B1.size; omega⟩, B3.alloc hsz _⟩)
theorem doc_Steps (p : Pb) (hp : p.Ok) (h : probChk p = 0) {tb g c : Nat} (w : World) (hT : DocIn w p tb g c) : Pure Tryz.prog 69 #[.pointer (some ⟨tb, 0, none⟩)] w (.int .i64 p.N) := by
  obtain ⟨⟨k1, k2⟩, l1, l2, _⟩ := probChk_ok h
  obtain ⟨fk, fr, flev, fl, fwin, fcode, ftable, fall⟩ := hT.tree.prob hp
  clear fk fr flev fl fwin fcode ftable
  go_enter Tryz.func69, Tryz.ntmps69
  go_wp2_with ((with_reducible apply ld); rfl; (with_reducible assumption); (simp only [List.set_cons_zero, List.set_cons_succ]; rfl))
  refine (ref11_N p _ hp l1 l2 k1 k2 _).mono ?_
  rintro e w1 ⟨rfl, B1⟩
  go_wp2
  go_ret
  exact ⟨rfl, B1⟩
theorem doc_Root (v : Value) (w : World) : Pure Tryz.prog 20 #[v] w (.agg (Nd.mk 0 0 0).cells) := by
  go_enter Tryz.func20, Tryz.ntmps20
  have b2 := Box.new w #[.int .u32 0, .int .i64 0, .int .i64 0] 66
  go_wp2_with (first | ((with_reducible apply ld); rfl; (with_reducible assumption); (simp only [List.set_cons_zero, List.set_cons_succ]; rfl)) | ((with_reducible apply stO); rfl; rfl; (with_reducible assumption); rfl; rfl; exact nodeCells_flat 0 0 0; intro w2 hb5 B2 ho2 hs2))
  refine bodyPost_ret (results_cellAgg rfl rfl (hb5.load (off := 0) (n := 3) (cs' := nodeCells 0 0 0) (Nat.le_refl _) rfl)) rfl ?_
  exact ⟨rfl, ((Below.refl _ w).alloc (Nat.le_refl _) _).trans (B2.mono (by simp))⟩
theorem doc_Leaf (p : Pb) (hp : p.Ok) (h : probChk p = 0) {tb g c : Nat} (n : Nd) (w : World) (hT : DocIn w p tb g c) : Pure Tryz.prog 76 #[.pointer (some ⟨tb, 0, none⟩), .agg n.cells] w (.bool (n.d == p.N)) := by
  go_enter Tryz.func76, Tryz.ntmps76
  go_upto_region 1 with (fail)
  refine name1 ?_
  intro w0 b3 B0
  have hT0 := hT.kept B0
  have m1 := b3.cell 1
  simp only [Nd.cells, nodeCells, List.getElem?_toArray, List.getElem?_cons_zero, List.getElem?_cons_succ] at m1
  (refine wp_region_kept_tail 9 (by kernel_rfl) (by kernel_rfl) ?_; simp only [List.take_succ_cons, List.take_zero, List.drop_succ_cons, List.drop_zero])
  have q1 := KeptW.cell m1
  repeat first
    | go_big_quiet_skip
    | go_big_quiet_step (exact Calls.kept (doc_Steps p hp h _ (hT0.kept (Subtype.property _))))
  refine wpQuiet_nil ?_
  intro w1 B1
  go_wp2
  go_ret
  exact ⟨rfl, bOn B0 B1⟩
end Go.Proofs.YtnjmplapjnnjdaaGreat

/- The walk of the metric of a step: the document's. -/
namespace Go.Proofs.YtnjmplapjnnjdaaGreat
open Go.RowKit

theorem wrap_mul_add {d R k n : Nat} (hn : (n : Int) ≤ 9223372036854775807) (h : d * R + k < n) : wrap64 (wrap64 ((d : Int) * (R : Int)) + (k : Int)) = ((d * R + k : Nat) : Int) := by
  have h0 : (d : Int) * (R : Int) = ((d * R : Nat) : Int) := by push_cast; rfl
  rw [h0]
  generalize d * R = m at h
  unfold wrap64
  omega
set_option maxRecDepth 5000 in
set_option maxHeartbeats 1000000 in
theorem ref11_Branch (p : Pb) (a : Option Addr) (cap : Nat) (hp : p.Ok) (h : probChk p = 0) (d : Nat) (hd : (d : Int) < p.N) (v : Nat) (w : World) (hw : Bytes w a p.B) :
    Pure Tryz.prog 94 #[.agg (p.cells (.slice a p.B.length cap)), .int .i64 d, .agg (ya (p.C.y v))] w (.int .i64 (p.br d v)) := by
  obtain ⟨⟨k1, k2⟩, l1, l2, cr, hwin, ⟨v1, v2⟩, hlev, hcc, htt⟩ := probChk_ok h
  go_enter Tryz.func94, Tryz.ntmps94
  go_upto_region 1 with (fail)
  refine name2 ?_
  intro w0 b3 b5 B0
  have hw0 := hw.kept B0
  obtain ⟨fk, fr, flev, fl, fwin, fcode, ftable, fall⟩ := b3.prob hp
  clear fk flev fl fcode ftable fall
  have hN : p.N ≤ 1055 := by unfold Pb.N; omega
  have hlen : ((p.lv d).length : Int) = p.C.R := by rw [Pb.lv_len h hd]; rcases cr with h | h <;> omega
  obtain ⟨R, hR⟩ : ∃ R : Nat, p.C.R = R := ⟨p.C.R.toNat, by omega⟩
  have hRR : p.C.R.toNat = R := by omega
  have hR3 : 2 ≤ R ∧ R ≤ 3 := by omega
  obtain ⟨hR2, hR3⟩ := hR3
  rw [hR] at fr
  have hll : p.B.length = p.N.toNat * R := by
    have : (p.B.length : Int) = ((p.N.toNat * R : Nat) : Int) := by rw [hwin, hR]; push_cast; congr 1; omega
    exact_mod_cast this
  have HR := Lib.hid hR
  have HRR := Lib.hid hRR
  have HL := Lib.hid hll
  have HW := Lib.hid hwin
  clear hR hRR hll hwin cr
  have hl16 : ∀ x ∈ p.lv d, x < 16 := fun x hx => by
    have := hlev x (List.mem_of_mem_drop (List.mem_of_mem_take hx))
    omega
  go_wp2_with fail
  go_loopw [7, 8] (fun m i wr => ∃ k : Nat, k ≤ R ∧ i = .int .i64 k ∧ m = .int .i64 (brS p.T (p.C.y v) (p.lv d) k) ∧ Below w0.heap.size w0 wr) (fun _ i _ => R - (intOf i).toNat)
  case atStart => exact ⟨0, by omega, rfl, rfl, Below.refl _ _⟩
  case round =>
    obtain ⟨k, hk, rfl, rfl, B⟩ := hrel
    have b3r := b3.kept B
    have b5r := b5.kept B
    have hwr := hw0.kept B
    clear fr fwin
    obtain ⟨fk, fr, flev, fl, fwin, fcode, ftable, fall⟩ := b3r.prob hp
    rw [HR.out] at fr
    clear fk flev fl fcode ftable fall
    by_cases hkl : k < R
    · have hkr : (k : Int) < (R : Int) := by omega
      have hk2 : decide ((k : Int) < (R : Int)) = true := by simp; omega
      have hdl : d * R + k < p.B.length := by
        rw [HL.out]
        have : d + 1 ≤ p.N.toNat := by omega
        have := Nat.mul_le_mul_right R this
        rw [Nat.add_mul] at this
        omega
      have hd2 : wrap64 (wrap64 ((d : Int) * (R : Int)) + (k : Int)) = ((d * R + k : Nat) : Int) := by
        exact wrap_mul_add hp.n hdl
      obtain ⟨I, hI⟩ : ∃ I, I = d * R + k := ⟨_, rfl⟩
      rw [← hI] at hdl hd2
      obtain ⟨b, o, rfl, hcell⟩ := hwr.cell I hdl
      have hyc := b5r.cell k
      rw [ya_get (p.C.y v) (by omega)] at hyc
      have hyk := p.C.y_lt v k
      have hx16 : p.B[I] < 16 := by have := hlev _ (List.getElem_mem hdl); omega
      have hk4 : (k : Int) < 3 := by omega
      have hyk2 : ((p.C.y v k : Nat) : Int) < 2 := by omega
      have hx2 : ((p.B[I] : Nat) : Int) < 16 := by omega
      have hdl2 : (I : Int) < p.B.length := by omega
      have hm := b3r.cell (6 + p.C.y v k * 16 + p.B[I])
      rw [show 6 + p.C.y v k * 16 + p.B[I] = 5 + (1 + p.C.y v k * 16 + p.B[I]) by omega, hp.cellt _ (by omega), hp.t.cellm hyk hx16, show 5 + (1 + p.C.y v k * 16 + p.B[I]) = 6 + p.C.y v k * 16 + p.B[I] by omega] at hm
      have HI := Lib.hid hI
      clear hI
      go_wp2_with fail
      (refine wp_region_kept_tail 21 (by kernel_rfl) (by kernel_rfl) ?_; simp only [List.take_succ_cons, List.take_zero, List.drop_succ_cons, List.drop_zero])
      have q0 := KeptW.cell fr
      have q1 := KeptW.cell fwin
      have q2 := KeptW.cell hyc
      have q3 := KeptW.cell hcell
      have q4 := KeptW.cell hm
      repeat first
        | ((with_reducible apply q_ld); rfl; (with_reducible assumption); (simp only [List.set_cons_zero, List.set_cons_succ]; rfl))
        | go_big_quiet_step (fail)
      refine wpQuiet_nil ?_
      intro w1 B1
      have hbd := brS_bd htt (p.C.y_lt v) hl16 k
      have hbd2 := tabChk_m htt hyk hx16
      have hgd : (p.lv d).getD k 0 = p.B[I] := by
        have h1 : (p.lv d)[k]? = p.B[I]? := by
          unfold Pb.lv
          rw [HRR.out, List.getElem?_take, if_pos hkl, List.getElem?_drop, HI.out]
        rw [List.getD_eq_getElem?_getD, h1, List.getElem?_eq_getElem hdl]
        rfl
      have HS : Hid (brS p.T (p.C.y v) (p.lv d) k + p.T.m (p.C.y v k) p.B[I] = brS p.T (p.C.y v) (p.lv d) (k + 1)) := by
        show _ = _
        simp only [brS, hgd]
      clear hgd
      go_wp2
      go_roundw
      case measure => simp only [intOf]; omega
      case rel => exact ⟨k + 1, by omega, by go_num, by rw [← HS.out]; congr 1; unfold wrap64; omega, B.trans (B1.mono B.size)⟩
    · obtain rfl : k = R := by omega
      have HE : Hid (brS p.T (p.C.y v) (p.lv d) k = p.br d v) := by
        show _ = _
        unfold Pb.br
        rw [HRR.out]
      have hk2 : decide ((k : Int) < (k : Int)) = false := by simp
      go_wp2
      go_ret
      exact ⟨by rw [HE.out]; rfl, bOn B0 B⟩
end Go.Proofs.YtnjmplapjnnjdaaGreat

/- The walk of the least and the greatest metric of a table: the document's. -/
namespace Go.Proofs.YtnjmplapjnnjdaaGreat
open Go.RowKit

theorem ref10_rated (R : Int) (hR : R = 2 ∨ R = 3) (w : World) : Pure Tryz.prog 83 #[.int .i64 R] w (.bool true) := by
  rcases hR with rfl | rfl
  all_goals
    go_enter Tryz.func83, Tryz.ntmps83
    go_wp2
    go_ret
    exact ⟨rfl, Below.refl _ _⟩
set_option maxRecDepth 5000 in
set_option maxHeartbeats 1000000 in
theorem ref10_Range (t : Tb) (ht : t.Ok) (h0 : tabChk t = 0) (R : Int) (hR : R = 2 ∨ R = 3) (n : Int) (n0 : 0 ≤ n) (n1 : n ≤ 1055) (w : World) :
    Pure Tryz.prog 68 #[.agg t.cells, .int .i64 R, .int .i64 n] w (.tuple #[.int .i64 (R * n * t.lo), .int .i64 (R * n * t.hi), .int .i64 0]) := by
  obtain ⟨l1, l2⟩ := tabChk_ok h0
  obtain ⟨L, hL⟩ : ∃ L : Nat, t.lev = L := ⟨t.lev.toNat, by omega⟩
  have hLt : t.lev.toNat = L := by omega
  have HL := Lib.hid hL
  have HLt := Lib.hid hLt
  clear hLt
  go_enter Tryz.func68, Tryz.ntmps68
  go_upto_region 1 with (fail)
  refine name1 ?_
  intro w0 b3 B0
  obtain ⟨g0, gA, gM⟩ := b3.table ht
  go_wp2_with ((with_reducible apply ld); rfl; (with_reducible assumption); (simp only [List.set_cons_zero, List.set_cons_succ]; rfl))
  refine (ref10_Check t ht _).mono ?_
  rintro e w1 ⟨rfl, B1⟩
  rw [h0]
  clear g0 gA gM
  have b31 := b3.kept B1
  have B10 := B0.trans (B1.mono B0.size)
  go_wp2_with fail
  refine (ref10_rated R hR _).mono ?_
  rintro e w2 ⟨rfl, B2⟩
  have b32 := b31.kept B2
  have B20 := B10.trans (B2.mono B10.size)
  obtain ⟨g0, gA, gM⟩ := b32.table ht
  clear gA gM
  rw [hL] at g0
  have g00 : w2.cell? ⟨w.heap.size, 1, none⟩ = some (.int .i64 (t.m 0 0)) := by rw [b32.cell, show 1 = 1 + 0 * 16 + 0 from rfl, ht.cellm (by omega) (by omega)]
  have hr1 : decide (n < 0) = false := by simp; omega
  have hr2 : decide (1055 < n) = false := by simp; omega
  have hwr : ∀ m : Int, -4096 ≤ m → m ≤ 4096 → wrap64 (R * n * m) = R * n * m := by
    intro m m0 m1
    have := mul_bd n0 n1 m0 m1
    rw [Int.mul_assoc]
    rcases hR with h | h <;> rw [h] <;> unfold wrap64 <;> omega
  have hRn : wrap64 (R * n) = R * n := by rcases hR with h | h <;> rw [h] <;> unfold wrap64 <;> omega
  have HR := Lib.hid hR
  clear hR
  go_wp2_with fail
  go_loop [9, 10, 11, 12] (fun lo hi i _ => ∃ k : Nat, k ≤ 2 ∧ i = .int .i64 k ∧ lo = .int .i64 (t.loK k) ∧ hi = .int .i64 (t.hiK k)) (fun _ _ i _ => 2 - (intOf i).toNat)
  case atStart => exact ⟨0, by omega, rfl, rfl, rfl⟩
  case round =>
    obtain ⟨k, hk, rfl, rfl, rfl⟩ := hrel
    have hlb := t.loK_bd h0 k hk
    have hhb := t.hiK_bd h0 k hk
    have hlo := hwr _ hlb.1 hlb.2
    have hhi := hwr _ hhb.1 hhb.2
    by_cases hkl : k < 2
    · have hk3 : (k : Int) < (2 : Nat) := by omega
      have hk2 : decide ((k : Int) < 2) = true := by simp; omega
      go_wp2_with fail
      go_loop [9, 10, 12] (fun lo hi i => ∃ r : Nat, r ≤ L ∧ i = .int .i64 r ∧ lo = .int .i64 (t.loRow k (t.loK k) r) ∧ hi = .int .i64 (t.hiRow k (t.hiK k) r)) (fun _ _ i => L - (intOf i).toNat)
      case atStart => exact ⟨0, by omega, rfl, rfl, rfl⟩
      case round =>
        obtain ⟨r, hr, rfl, rfl, rfl⟩ := hrel
        by_cases hrl : r < L
        · have hg := b32.cell (1 + k * 16 + r)
          rw [ht.cellm hkl (by omega)] at hg
          have hr3 : (r : Int) < (L : Nat) := by omega
          have hr4 : (r : Int) < 16 := by omega
          have hr5 : decide ((r : Int) < (L : Nat)) = true := by simp; omega
          by_cases c1 : t.m k r < t.loRow k (t.loK k) r
          · by_cases c2 : t.hiRow k (t.hiK k) r < t.m k r
            · have d1 : decide (t.m k r < t.loRow k (t.loK k) r) = true := by simpa using c1
              have d2 : decide (t.hiRow k (t.hiK k) r < t.m k r) = true := by simpa using c2
              have E1 := Lib.hid (show t.m k r = t.loRow k (t.loK k) (r + 1) by simp only [Tb.loRow]; omega)
              have E2 := Lib.hid (show t.m k r = t.hiRow k (t.hiK k) (r + 1) by simp only [Tb.hiRow]; omega)
              clear c1 c2
              go_wp2
              go_round
              case measure => simp only [intOf]; omega
              case rel => exact ⟨r + 1, by omega, by go_num, by rw [← E1.out], by rw [← E2.out]⟩
            · have d1 : decide (t.m k r < t.loRow k (t.loK k) r) = true := by simpa using c1
              have d2 : decide (t.hiRow k (t.hiK k) r < t.m k r) = false := by simpa using c2
              have E1 := Lib.hid (show t.m k r = t.loRow k (t.loK k) (r + 1) by simp only [Tb.loRow]; omega)
              have E2 := Lib.hid (show t.hiRow k (t.hiK k) r = t.hiRow k (t.hiK k) (r + 1) by simp only [Tb.hiRow]; omega)
              clear c1 c2
              go_wp2
              go_round
              case measure => simp only [intOf]; omega
              case rel => exact ⟨r + 1, by omega, by go_num, by rw [← E1.out], by rw [← E2.out]⟩
          · by_cases c2 : t.hiRow k (t.hiK k) r < t.m k r
            · have d1 : decide (t.m k r < t.loRow k (t.loK k) r) = false := by simpa using c1
              have d2 : decide (t.hiRow k (t.hiK k) r < t.m k r) = true := by simpa using c2
              have E1 := Lib.hid (show t.loRow k (t.loK k) r = t.loRow k (t.loK k) (r + 1) by simp only [Tb.loRow]; omega)
              have E2 := Lib.hid (show t.m k r = t.hiRow k (t.hiK k) (r + 1) by simp only [Tb.hiRow]; omega)
              clear c1 c2
              go_wp2
              go_round
              case measure => simp only [intOf]; omega
              case rel => exact ⟨r + 1, by omega, by go_num, by rw [← E1.out], by rw [← E2.out]⟩
            · have d1 : decide (t.m k r < t.loRow k (t.loK k) r) = false := by simpa using c1
              have d2 : decide (t.hiRow k (t.hiK k) r < t.m k r) = false := by simpa using c2
              have E1 := Lib.hid (show t.loRow k (t.loK k) r = t.loRow k (t.loK k) (r + 1) by simp only [Tb.loRow]; omega)
              have E2 := Lib.hid (show t.hiRow k (t.hiK k) r = t.hiRow k (t.hiK k) (r + 1) by simp only [Tb.hiRow]; omega)
              clear c1 c2
              go_wp2
              go_round
              case measure => simp only [intOf]; omega
              case rel => exact ⟨r + 1, by omega, by go_num, by rw [← E1.out], by rw [← E2.out]⟩
        · have H1 : Hid (t.loRow k (t.loK k) r = t.loK (k + 1)) := by
            obtain rfl : r = L := by omega
            show _ = _
            simp only [Tb.loK, HLt.out]
          have H2 : Hid (t.hiRow k (t.hiK k) r = t.hiK (k + 1)) := by
            obtain rfl : r = L := by omega
            show _ = _
            simp only [Tb.hiK, HLt.out]
          go_wp2
          go_roundw
          case measure => simp only [intOf]; omega
          case rel => exact ⟨k + 1, by omega, by go_num, by rw [H1.out], by rw [H2.out]⟩
    · have HK : Hid (k = 2) := by show _ = _; omega
      go_wp2
      refine bodyPost_ret (results_tmp3 rfl rfl rfl rfl) rfl ?_
      refine ⟨?_, B20⟩
      have e := HK.out
      subst e
      rfl
end Go.Proofs.YtnjmplapjnnjdaaGreat

/- The walks of the document's kids. -/
namespace Go.Proofs.YtnjmplapjnnjdaaGreat
open Go.RowKit

set_option maxRecDepth 5000 in
set_option maxHeartbeats 1000000 in
theorem doc_kid (p : Pb) (hp : p.Ok) (h : probChk p = 0) {tb g c : Nat} (n : Nd) (hn : p.In n) (b : Int) (b0 : 0 ≤ b) (b1 : b < 2) (w : World) (hT : DocIn w p tb g c) :
    Pure Tryz.prog 87 #[.pointer (some ⟨tb, 0, none⟩), .agg n.cells, .int .u8 b] w (.agg (p.kid n b).cells) := by
  obtain ⟨⟨k1, k2⟩, l1, l2, cr, hwin, ⟨v1, v2⟩, hlev, hcc, htt⟩ := probChk_ok h
  obtain ⟨s, d, m⟩ := n
  obtain ⟨s0, s1, d0, d1⟩ := hn
  obtain ⟨k, rfl⟩ := Int.eq_ofNat_of_zero_le d0
  simp only at s0 s1 d1
  have HWIN := Lib.hid hwin; clear hwin
  have HCR := Lib.hid cr; clear cr
  go_enter Tryz.func87, Tryz.ntmps87
  go_upto_region 1 with (fail)
  refine name2 ?_
  intro w0 b4 b6 B0
  have hT0 := hT.kept B0
  obtain ⟨fk, fr, flev, fl, fwin, fcode, ftable, fall⟩ := hT0.tree.prob hp
  clear fk fr flev fl fwin ftable
  have n0 := b4.cell 0
  simp only [Nd.cells, nodeCells, List.getElem?_toArray, List.getElem?_cons_zero, List.getElem?_cons_succ] at n0
  refine wp_region_free_tail 12 2 (by kernel_rfl) (by kernel_rfl) ?_
  simp only [List.take_succ_cons, List.take_zero, List.drop_succ_cons, List.drop_zero]
  have q0 := KeptW.cell n0
  repeat first
    | ((refine det_plain rfl ?_); ((with_reducible apply q_ld); rfl; (with_reducible assumption); (simp only [List.set_cons_zero, List.set_cons_succ]; rfl)); (refine wpQuiet_nil ?_))
    | ((with_reducible apply det_nilG); rfl; rfl; (simp only [List.set_cons_zero, List.set_cons_succ]; rfl))
    | ((with_reducible apply det_call); rfl; infer_instance; rfl; (intro w1 B1; exact ref07_Next p.C hp.c k1 k2 HCR.out s b s0 s1 b0 b1 _); (simp only [List.set_cons_zero, List.set_cons_succ]; rfl))
    | ((refine det_plain rfl ?_); (go_big_quiet_step (fail)); (refine wpQuiet_nil ?_))
  refine wpDet_nil ?_
  clear q0 fcode fall n0
  have hv0 : 0 ≤ 2 * s + b := by omega
  obtain ⟨v, hv⟩ : ∃ v : Nat, v = (2 * s + b).toNat := ⟨_, rfl⟩
  rw [← hv]
  have HV := Lib.hid hv; clear hv
  have hsz : (p.C.yv v).size = 3 := rfl
  have hfl := p.C.ys_flat v p.C.R.toNat
  refine free_alloc anti_list (cs := #[.int .u8 0, .int .u8 0, .int .u8 0]) (by intro w1; go_simp) ?_
  intro b8 h8
  simp only [List.set_cons_zero, List.set_cons_succ]
  ((with_reducible apply free_assignT); exact anti_list; rfl; (simp only [List.set_cons_zero, List.set_cons_succ]; rfl))
  intro w1 B1 hS
  obtain ⟨_, x8⟩ := hS
  refine stO rfl rfl x8 rfl hsz hfl ?_
  intro w2 y8 B2 o2 s2
  have B20 : Below w0.heap.size w0 w2 := B1.trans (B2.mono h8)
  have hT2 := hT0.kept B20
  have b42 := b4.kept B20
  have b62 := b6.kept B20
  clear o2 s2 x8
  obtain ⟨fk, fr, flev, fl, fwin, fcode, ftable, fall⟩ := hT2.tree.prob hp
  clear fk fr flev fl fwin fcode ftable
  have n1 := b42.cell 1
  have n2 := b42.cell 2
  simp only [Nd.cells, nodeCells, List.getElem?_toArray, List.getElem?_cons_zero, List.getElem?_cons_succ] at n1 n2
  have gY := y8.load (off := 0) (n := 3) (cs' := p.C.yv v) (by rw [hsz]; omega) (Array.extract_eq_self_of_le (by rw [hsz]; omega))
  have hNb : p.N ≤ 1055 := by unfold Pb.N; omega
  have hk1 : wrap64 ((k : Int) + 1) = (k : Int) + 1 := by unfold wrap64; omega
  go_upto_region 2 with (fail)
  (refine wp_region_kept_tail 16 (by kernel_rfl) (by kernel_rfl) ?_; simp only [List.take_succ_cons, List.take_zero, List.drop_succ_cons, List.drop_zero])
  have q1 := KeptW.cell n1
  have q2 := KeptW.cell n2
  clear n1 n2
  repeat first
    | ((with_reducible apply q_ld); rfl; (with_reducible assumption); (simp only [List.set_cons_zero, List.set_cons_succ]; rfl))
    | go_big_quiet_step (exact Calls.kept (ref11_Branch p _ _ hp h k d1 v _ (hT2.win.kept (Subtype.property _))))
  refine wpQuiet_nil ?_
  intro w3 B3
  have b63 := b62.kept B3
  have B30 : Below w.heap.size w w3 := bOn (B0.trans (B20.mono B0.size)) B3
  go_wp2_with ((with_reducible apply st); rfl; rfl; exact b63; rfl; rfl; exact nodeCells_flat _ _ _; intro w4 b64 B4)
  refine bodyPost_ret (results_cellAgg rfl rfl (b64.load (off := 0) (n := 3) (Nat.le_refl _) (Array.extract_eq_self_of_le (Nat.le_refl _)))) rfl ?_
  refine ⟨?_, B30.trans (B4.mono (by omega))⟩
  rw [HV.out]; rfl
end Go.Proofs.YtnjmplapjnnjdaaGreat

/- The walk of the document's Kids. -/
namespace Go.Proofs.YtnjmplapjnnjdaaGreat
open Go.RowKit

theorem build_oneN (a : Nd) (w : World) : (Instr.buildSlice 137 1 #[(0, .agg a.cells)]).run Tryz.prog w = .ok (.slice (some ⟨w.heap.size, 0, none⟩) 1 1) (w.alloc (.cells (ndCells [a]) 66)) := by
  simp only [Nd.cells, nodeCells]
  go_simp
  rfl
set_option maxRecDepth 5000 in
set_option maxHeartbeats 1000000 in
theorem doc_Kids (p : Pb) (hp : p.Ok) (h : probChk p = 0) {tb g c : Nat} (n : Nd) (hn : p.In n) (w : World) (hT : DocIn w p tb g c) :
    Calls Tryz.prog 77 #[.pointer (some ⟨tb, 0, none⟩), .agg n.cells] w (KidsPost (p.kids n) (p.kidBits n) w) := by
  obtain ⟨⟨k1, k2⟩, l1, l2, cr, hwin, ⟨v1, v2⟩, hlev, hcc, htt⟩ := probChk_ok h
  obtain ⟨s0, s1, d0, d1⟩ := hn
  have hn : p.In n := ⟨s0, s1, d0, d1⟩
  clear cr hwin
  go_enter Tryz.func77, Tryz.ntmps77
  go_upto_region 1 with (fail)
  refine name1 ?_
  intro w0 b3 B0
  have hT0 := hT.kept B0
  obtain ⟨fk, fr, flev, fl, fwin, fcode, ftable, fall⟩ := hT0.tree.prob hp
  clear fr flev fl fwin fcode ftable fall
  have m0 := b3.cell 0
  have m1 := b3.cell 1
  simp only [Nd.cells, nodeCells, List.getElem?_toArray, List.getElem?_cons_zero, List.getElem?_cons_succ] at m0 m1
  have g1 : decide (n.d < 0) = false := by simp; omega
  have g2 : decide (p.N ≤ n.d) = false := by simp; omega
  have hp31 : (2 : Int) ^ (p.C.K.toNat - 1) ≤ 2147483648 := pow31 (by omega)
  have hws : IntKind.u64.wrap n.s = n.s := by
    simp only [IntKind.wrap, IntKind.bits, IntKind.signed]
    simp
    omega
  have hK1 : wrap64 (p.C.K - 1) = p.C.K - 1 := by unfold wrap64; omega
  have hsd : n.s / 2 ^ (p.C.K.toNat - 1) = 0 := Int.ediv_eq_zero_of_lt s0 s1
  clear hp31
  refine wp_region_kept (by kernel_rfl) (by kernel_rfl) ?_
  have q0 := KeptW.cell m0
  have q1 := KeptW.cell m1
  have q2 := KeptW.cell fk
  clear m0 m1 fk
  repeat first
    | go_big_quiet_skip
    | go_big_quiet_step (exact Calls.kept (doc_Steps p hp h _ (hT0.kept (Subtype.property _))))
  refine wpQuiet_nil ?_
  intro w1 B1
  clear q0 q1 q2 hws hK1 hsd
  have b31 := b3.kept B1
  have hT1 := hT0.kept B1
  have B10 := bOn B0 B1
  have gN := b31.load (off := 0) (n := 3) (cs' := n.cells) (Nat.le_refl _) (Array.extract_eq_self_of_le (Nat.le_refl _))
  go_wp2_with ((with_reducible apply ld); rfl; (with_reducible assumption); (simp only [List.set_cons_zero, List.set_cons_succ]; rfl))
  refine (doc_kid p hp h n hn 0 (by omega) (by omega) _ hT1).mono ?_
  rintro e w2 ⟨rfl, B2⟩
  clear gN
  obtain ⟨z, hz⟩ : ∃ z, z = p.kid n 0 := ⟨_, rfl⟩
  rw [← hz]
  have HZ := Lib.hid hz; clear hz
  have fz : Flat z.cells := nodeCells_flat _ _ _
  have bz := Box.new w2 #[.int .u32 0, .int .i64 0, .int .i64 0] 66
  go_upto_region 4 with ((with_reducible apply stO); rfl; rfl; exact bz; rfl; rfl; exact fz; intro w3 b6 B3 o3 s3)
  have B31 : Below w2.heap.size w2 w3 := ((Below.refl _ _).alloc (Nat.le_refl _) _).trans B3
  have B30 := bOn (bOn B10 B2) B31
  have b33 := (b31.kept B2).kept B31
  have hT3 := (hT1.kept B2).kept B31
  clear o3 s3 bz
  obtain ⟨fk, fr, flev, fl, fwin, fcode, ftable, fall⟩ := hT3.tree.prob hp
  clear fk fr flev fwin fcode ftable fall
  have m1 := b33.cell 1
  simp only [Nd.cells, nodeCells, List.getElem?_toArray, List.getElem?_cons_zero, List.getElem?_cons_succ] at m1
  by_cases hL : p.L ≤ n.d
  · have g3 : decide (p.L ≤ n.d) = true := by simpa using hL
    have e1 : p.kids n = [z] := by rw [HZ.out]; exact if_pos hL
    have e2 : p.kidBits n = [0] := if_pos hL
    have E1 := Lib.hid e1
    have E2 := Lib.hid e2
    clear e1 e2 hL
    refine wp_region_kept (by kernel_rfl) (by kernel_rfl) ?_
    have q1 := KeptW.cell m1
    have q2 := KeptW.cell fl
    clear m1 fl
    repeat first
      | go_big_quiet_skip
      | go_big_quiet_step (fail)
    refine wpQuiet_nil ?_
    intro w4 B4
    clear q1 q2
    have b64 := b6.kept B4
    have gz := b64.load (off := 0) (n := 3) (cs' := z.cells) (Nat.le_refl _) (Array.extract_eq_self_of_le (Nat.le_refl _))
    have B40 := bOn B30 B4
    go_wp2_with (first | ((with_reducible apply ld); rfl; (with_reducible assumption); (simp only [List.set_cons_zero, List.set_cons_succ]; rfl)) | ((with_reducible apply w_slice (d := 49) (cs := ndCells [z]) (e := 66)); ((simp only [List.map_toArray, List.map_cons, List.map_nil]); exact build_oneN z _)))
    go_ret2
    rw [E1.out, E2.out]
    have fin1 := (Box.new w4 (ndCells [z]) 66).alloc (.cells #[.int .u8 0] 5)
    have fin2 : Box ((w4.alloc (.cells (ndCells [z]) 66)).alloc (.cells #[.int .u8 0] 5)) (w4.heap.size + 1) #[.int .u8 0] := by simpa using Box.new (w4.alloc (.cells (ndCells [z]) 66)) #[.int .u8 0] 5
    have hsz := B40.size
    refine (show KidsPost _ _ _ _ _ from ⟨⟨w4.heap.size, w4.heap.size + 1, rfl, fin1, fin2, by omega, hsz, by omega⟩, B40.trans (((Below.refl _ _).alloc hsz _).alloc (by simp; omega) _)⟩)
  · have g3 : decide (p.L ≤ n.d) = false := by simpa using hL
    have e1 : p.kids n = p.twoK n := if_neg hL
    have e2 : p.kidBits n = p.twoB n := if_neg hL
    have E1 := Lib.hid e1
    have E2 := Lib.hid e2
    clear e1 e2 hL
    refine wp_region_kept (by kernel_rfl) (by kernel_rfl) ?_
    have q1 := KeptW.cell m1
    have q2 := KeptW.cell fl
    clear m1 fl
    repeat first
      | go_big_quiet_skip
      | go_big_quiet_step (fail)
    refine wpQuiet_nil ?_
    intro w4 B4
    clear q1 q2
    have b64 := b6.kept B4
    have b34 := b33.kept B4
    have hT4 := hT3.kept B4
    have gN := b34.load (off := 0) (n := 3) (cs' := n.cells) (Nat.le_refl _) (Array.extract_eq_self_of_le (Nat.le_refl _))
    have B40 := bOn B30 B4
    go_wp2_with ((with_reducible apply ld); rfl; (with_reducible assumption); (simp only [List.set_cons_zero, List.set_cons_succ]; rfl))
    refine (doc_kid p hp h n hn 1 (by omega) (by omega) _ hT4).mono ?_
    rintro e w5 ⟨rfl, B5⟩
    clear gN
    obtain ⟨o, ho⟩ : ∃ o, o = p.kid n 1 := ⟨_, rfl⟩
    rw [← ho]
    have HO := Lib.hid ho; clear ho
    have fo : Flat o.cells := nodeCells_flat _ _ _
    have bz := Box.new w5 #[.int .u32 0, .int .i64 0, .int .i64 0] 66
    go_upto_region 7 with ((with_reducible apply stO); rfl; rfl; exact bz; rfl; rfl; exact fo; intro w6 b7 B6 o6 s6)
    have B61 : Below w5.heap.size w5 w6 := ((Below.refl _ _).alloc (Nat.le_refl _) _).trans B6
    have B60 := bOn (bOn B40 B5) B61
    have b66 := (b64.kept B5).kept B61
    clear o6 s6 bz
    have mz := b66.cell 2
    have mo := b7.cell 2
    simp only [Nd.cells, nodeCells, List.getElem?_toArray, List.getElem?_cons_zero, List.getElem?_cons_succ] at mz mo
    have gz := b66.load (off := 0) (n := 3) (cs' := z.cells) (Nat.le_refl _) (Array.extract_eq_self_of_le (Nat.le_refl _))
    have go := b7.load (off := 0) (n := 3) (cs' := o.cells) (Nat.le_refl _) (Array.extract_eq_self_of_le (Nat.le_refl _))
    have hsz := B60.size
    by_cases hm : z.m < o.m
    · have g4 : decide (o.m ≤ z.m) = false := by simp; omega
      have e3 : p.twoK n = [z, o] := by unfold Pb.twoK; rw [← HZ.out, ← HO.out, if_pos hm]
      have e4 : p.twoB n = [0, 1] := by unfold Pb.twoB; rw [← HZ.out, ← HO.out, if_pos hm]
      have E3 := Lib.hid e3
      have E4 := Lib.hid e4
      clear e3 e4 hm
      go_upto_region 9 with (fail)
      clear mz mo
      go_wp2_with (first | ((with_reducible apply ld); rfl; (with_reducible assumption); (simp only [List.set_cons_zero, List.set_cons_succ]; rfl)) | ((with_reducible apply w_slice (d := 65) (cs := ndCells [z, o]) (e := 66)); ((simp only [List.map_toArray, List.map_cons, List.map_nil]); exact build_two z o _)))
      go_ret2
      rw [E1.out, E2.out, E3.out, E4.out]
      have fin1 := (Box.new w6 (ndCells [z, o]) 66).alloc (.cells #[.int .u8 0, .int .u8 1] 5)
      have fin2 : Box ((w6.alloc (.cells (ndCells [z, o]) 66)).alloc (.cells #[.int .u8 0, .int .u8 1] 5)) (w6.heap.size + 1) #[.int .u8 0, .int .u8 1] := by simpa using Box.new (w6.alloc (.cells (ndCells [z, o]) 66)) #[.int .u8 0, .int .u8 1] 5
      refine (show KidsPost _ _ _ _ _ from ⟨⟨w6.heap.size, w6.heap.size + 1, rfl, fin1, fin2, by omega, hsz, by omega⟩, B60.trans (((Below.refl _ _).alloc hsz _).alloc (by simp; omega) _)⟩)
    · have g4 : decide (o.m ≤ z.m) = true := by simp; omega
      have e3 : p.twoK n = [o, z] := by unfold Pb.twoK; rw [← HZ.out, ← HO.out, if_neg hm]
      have e4 : p.twoB n = [1, 0] := by unfold Pb.twoB; rw [← HZ.out, ← HO.out, if_neg hm]
      have E3 := Lib.hid e3
      have E4 := Lib.hid e4
      clear e3 e4 hm
      go_upto_region 8 with (fail)
      clear mz mo
      go_wp2_with (first | ((with_reducible apply ld); rfl; (with_reducible assumption); (simp only [List.set_cons_zero, List.set_cons_succ]; rfl)) | ((with_reducible apply w_slice (d := 61) (cs := ndCells [o, z]) (e := 66)); ((simp only [List.map_toArray, List.map_cons, List.map_nil]); exact build_two o z _)))
      go_ret2
      rw [E1.out, E2.out, E3.out, E4.out]
      have fin1 := (Box.new w6 (ndCells [o, z]) 66).alloc (.cells #[.int .u8 1, .int .u8 0] 5)
      have fin2 : Box ((w6.alloc (.cells (ndCells [o, z]) 66)).alloc (.cells #[.int .u8 1, .int .u8 0] 5)) (w6.heap.size + 1) #[.int .u8 1, .int .u8 0] := by simpa using Box.new (w6.alloc (.cells (ndCells [o, z]) 66)) #[.int .u8 1, .int .u8 0] 5
      refine (show KidsPost _ _ _ _ _ from ⟨⟨w6.heap.size, w6.heap.size + 1, rfl, fin1, fin2, by omega, hsz, by omega⟩, B60.trans (((Below.refl _ _).alloc hsz _).alloc (by simp; omega) _)⟩)
end Go.Proofs.YtnjmplapjnnjdaaGreat

/- The walks of the document's Range and Count. -/
namespace Go.Proofs.YtnjmplapjnnjdaaGreat
open Go.RowKit

theorem ret_two {a b c d : Int} (h1 : a = c) (h2 : b = d) : Ending.returned (.tuple #[.int .i64 a, .int .i64 b]) = .returned (.tuple #[.int .i64 c, .int .i64 d]) := by rw [h1, h2]
theorem doc_Range (p : Pb) (hp : p.Ok) (h : probChk p = 0) {tb g c : Nat} (w : World) (hT : DocIn w p tb g c) : Pure Tryz.prog 44 #[.pointer (some ⟨tb, 0, none⟩)] w (.tuple #[.int .i64 (min (p.C.R * p.N * p.T.lo) 0), .int .i64 (max (p.C.R * p.N * p.T.hi) 0)]) := by
  obtain ⟨⟨k1, k2⟩, l1, l2, cr, hwin, ⟨v1, v2⟩, hlev, hcc, htt⟩ := probChk_ok h
  obtain ⟨fk, fr, flev, fl, fwin, fcode, ftable, fall⟩ := hT.tree.prob hp
  clear fk flev fl fwin fcode fall
  have hN : 0 ≤ p.N ∧ p.N ≤ 1055 := by unfold Pb.N; omega
  have HCR := Lib.hid cr
  clear cr hwin
  go_enter Tryz.func44, Tryz.ntmps44
  go_wp2_with fail
  refine wp_region_kept (by kernel_rfl) (by kernel_rfl) ?_
  have q1 := KeptW.cell fr
  repeat first
    | ((with_reducible apply q_ld); rfl; (with_reducible assumption); (simp only [List.set_cons_zero, List.set_cons_succ]; rfl))
    | go_big_quiet_skip
    | go_big_quiet_step (first | exact Calls.kept (doc_Steps p hp h _ (hT.kept (Subtype.property _))) | exact Calls.kept (ref10_Range p.T hp.t htt p.C.R HCR.out p.N hN.1 hN.2 _))
  refine wpQuiet_nil ?_
  intro w2 B2
  go_wp2
  all_goals go_ret2
  all_goals refine ⟨ret_two ?_ ?_, B2⟩
  all_goals omega

/-- How many ways begin with the one to a node. -/
def Pb.ways (p : Pb) (dip : Int) : Nat → Nd → Int
  | 0, x => if x.m < dip then 0 else 1
  | f + 1, x => if x.m < dip then 0 else (p.kids x).foldl (fun c k => c + p.ways dip f k) 1
end Go.Proofs.YtnjmplapjnnjdaaGreat
