/- The walk of the statement on clean paths in the tree. -/
import Derived.Test.YtiiljecocajdpaaClean
namespace Go.Proofs.Ytiiljecocajdpaa
open Go.RowKit

theorem lc_one {m m' : Int} (h : m < m') : decide (m' ≤ m) = false ∧ ¬ m' ≤ m := by constructor; (simp; omega); omega
set_option maxRecDepth 5000 in
set_option maxHeartbeats 2000000 in
theorem law15_TreeClean (p : Pb) (a : Option Addr) (cap : Nat) (hp : p.Ok) (hcap : p.B.length ≤ cap) (w : World) (hw : Bytes w a p.B) :
    Pure Try.prog 15 #[.agg (p.cells (.slice a p.B.length cap))] w (.bool true) := by
  go_enter Try.func15, Try.ntmps15
  go_upto_region 1 with (fail)
  refine name1 ?_
  intro w0 b1 B0
  have hw0 := hw.kept B0
  obtain ⟨fk, fr, flev, fl, fwin, fcode, ftable, fall⟩ := b1.prob hp
  clear fk fr flev fl fwin fcode ftable
  go_wp2_with ((with_reducible apply ld); rfl; (with_reducible assumption); (simp only [List.set_cons_zero, List.set_cons_succ]; rfl))
  refine (ref15_Clean p a cap hp _ hw0).mono ?_
  rintro e w1 ⟨hres, B1⟩
  clear fall
  have b11 := b1.kept B1
  have B10 := bOn B0 B1
  have hw1 := hw0.kept B1
  rcases hres with rfl | ⟨A, gA, cA, hcl, rfl, yA⟩
  · go_wp2_with fail
    refine (law15_knows _).mono ?_
    rintro e w2 ⟨rfl, B2⟩
    go_wp2
    go_ret
    exact ⟨rfl, bOn B10 B2⟩
  · have hc := hcl.chk
    obtain ⟨⟨k1, k2⟩, l1, l2, cr, hwin, ⟨v1, v2⟩, hlev, hcc, htt⟩ := probChk_ok hc
    have hsn : p.T.sound = true := by unfold Tb.sound; rw [if_neg (by simp [htt])]; exact hcl.sound
    have hlenA := hcl.path.len
    obtain ⟨m, hm⟩ : ∃ m : Nat, A.length = m := ⟨_, rfl⟩
    rw [hm] at hlenA ⊢
    have hmN : (m : Int) + 2 ≤ p.N := by unfold Pb.N; omega
    obtain ⟨hN3, hN5⟩ := Pb.N_le hc
    obtain ⟨M, hM⟩ : ∃ M : Nat, p.N = (M : Int) := ⟨p.N.toNat, by omega⟩
    have hMn : p.N.toNat = M := by omega
    have hmM : m < M := by omega
    have hM5 : M ≤ 1055 := by omega
    have herr := hcl.errors
    have hpc : p.pathChk A = 0 := Pb.path_chk hc hcl.path.len hcl.path.lt
    have hendS := Pb.st_end hc A
    have HM := Lib.hid hm
    have HLA := Lib.hid hlenA
    have HNM := Lib.hid hM
    have HNN := Lib.hid hMn
    have HERR := Lib.hid herr
    have HPC := Lib.hid hpc
    have HTT := Lib.hid htt
    have HSN := Lib.hid hsn
    have HKD := Lib.hid (fun (d : Nat) (hd : d < M) => hcl.kids hp (d := d) (by rw [hMn]; exact hd))
    clear cr hwin v1 v2 hlev hcc hm hlenA hM hMn herr hpc htt hsn hmN hN3 hN5 hendS
    go_wp2_with fail
    refine (law15_knows _).mono ?_
    rintro e w2 ⟨rfl, B2⟩
    have b12 := b11.kept B2
    have hw2 := hw1.kept B2
    obtain ⟨fk, fr, flev, fl, fwin, fcode, ftable, fall⟩ := b12.prob hp
    clear fk fr flev fl fwin fcode ftable
    go_wp2_with ((with_reducible apply ld); rfl; (with_reducible assumption); (simp only [List.set_cons_zero, List.set_cons_succ]; rfl))
    refine (tree_New p a cap hp hc _ hw2).mono ?_
    rintro e w3 ⟨⟨tb, pb, rb, g, c, rfl, hT, _⟩, B3⟩
    clear fall
    have b13 := b12.kept B3
    obtain ⟨fk, fr, flev, fl, fwin, fcode, ftable, fall⟩ := b13.prob hp
    clear fk fr flev fl fwin fcode fall
    go_wp2_with ((with_reducible apply ld); rfl; (with_reducible assumption); (simp only [List.set_cons_zero, List.set_cons_succ]; rfl))
    refine (metric_Sound p.T hp.t _).mono ?_
    rintro e w4 ⟨rfl, B4⟩
    rw [HSN.out, HTT.out]
    clear ftable
    go_wp2_with fail
    refine (law15_num 0 _).mono ?_
    rintro e w5 ⟨rfl, B5⟩
    go_wp2_with fail
    refine (law15_num 0 _).mono ?_
    rintro e w6 ⟨rfl, B6⟩
    go_wp2_with fail
    refine (tree_Root _ _).mono ?_
    rintro e w7 ⟨rfl, B7⟩
    have hbz := Box.new w7 #[.int .u32 0, .int .i64 0, .int .i64 0] 34
    go_upto_region 9 with ((with_reducible apply stO); rfl; rfl; exact hbz; rfl; rfl; exact nodeCells_flat _ _ _; intro w8 b8 B8 ho8 hs8)
    have B87 : Below w7.heap.size w7 w8 := ((Below.refl _ w7).alloc (Nat.le_refl _) _).trans B8
    have hT7 := (((hT.kept B4).kept B5).kept B6).kept B7
    have hT8 := hT7.kept B87
    have b18 := ((((b13.kept B4).kept B5).kept B6).kept B7).kept B87
    have hw8 := (((((hw2.kept B3).kept B4).kept B5).kept B6).kept B7).kept B87
    have yA7 := ((((((yA.kept B2).kept B3).kept B4).kept B5).kept B6).kept B7)
    have yA8 := yA7.kept B87
    have B80 := bOn (bOn (bOn (bOn (bOn (bOn (bOn B10 B2) B3) B4) B5) B6) B7) B87
    have hbl := b1.lt
    have lw7 : w.heap.size < w7.heap.size := by have := B1.size; have := B2.size; have := B3.size; have := B4.size; have := B5.size; have := B6.size; have := B7.size; omega
    have ne1 : tb ≠ w7.heap.size ∧ pb ≠ w7.heap.size ∧ rb ≠ w7.heap.size ∧ g ≠ w7.heap.size := by
      have h1 := hT7.tree.lt
      have h2 := hT7.prob.lt
      have h3 := hT7.rate.lt
      have h4 := hT7.glt hc
      omega
    have ne2 : gA ≠ w7.heap.size := by
      obtain ⟨b, o, hbo, hcc⟩ := yA7.cell 0 (by rw [HM.out]; have := HLA.out; omega)
      obtain ⟨rfl, rfl⟩ : gA = b ∧ 0 = o := by simpa using hbo
      exact Nat.ne_of_lt (lt_of_cell hcc)
    have HNE := Lib.hid (And.intro ne1 (And.intro ne2 lw7))
    obtain ⟨s7, hs7⟩ : ∃ s, s = w7.heap.size := ⟨_, rfl⟩
    rw [← hs7] at HNE b8 ⊢
    have hlt78 : s7 < w8.heap.size := b8.lt
    clear hbz ho8 hs8 b13 b12 b11 hw1 hw2 hT hT7 yA yA7 hw0 b1 ne1 ne2 lw7 B87 B8 hbl hs7
    go_wp2_with fail
    go_loopw [10] (fun i wr => ∃ j : Nat, j ≤ M ∧ i = .int .i64 (j : Int) ∧ Box wr s7 (p.nd A j).cells ∧ But s7 w8 wr) (fun i _ => M - (intOf i).toNat)
    case atStart => exact ⟨0, Nat.zero_le _, rfl, b8, But.refl _ _⟩
    case round =>
      obtain ⟨i, hi, rfl, bn, hB⟩ := hrel
      obtain ⟨ne1, ne2, lw7⟩ := HNE.out
      have hTr := hT8.but hB ne1
      have b1r := hB.box b18 (Nat.ne_of_lt lw7)
      have yAr := Bytes.but hB yA8 ne2
      have lw8 := lw7
      clear ne1 ne2 lw7
      go_wp2_with fail
      refine (tree_Steps p _ hTr).mono ?_
      rintro e w9 ⟨rfl, B9⟩
      rw [HNM.out]
      have hT9 := hTr.kept B9
      have bn9 := bn.kept B9
      have hB9 := hB.on B9
      have yA9 := yAr.kept B9
      have b19 := b1r.kept B9
      clear hTr bn yAr b1r
      by_cases hiM : i < M
      · obtain ⟨j1, j2⟩ := ap_lt hiM
        have hb1 : (i : Int) + 1 ≤ 9223372036854775807 := by omega
        obtain ⟨hup, hkids⟩ := HKD.out i hiM
        have hin := Pb.nd_in (p := p) A (i := i) (by rw [HNM.out]; exact j2)
        have gN := bn9.load (off := 0) (n := 3) (cs' := (p.nd A i).cells) (Nat.le_refl _) (Array.extract_eq_self_of_le (Nat.le_refl _))
        by_cases hL : i < m
        · obtain ⟨m1, m2⟩ := ap_lt hL
          have hiA : i < A.length := by rw [HM.out]; exact hL
          obtain ⟨bb, oo, hbo, cb⟩ := yA9.cell i hiA
          obtain ⟨rfl, rfl⟩ : gA = bb ∧ 0 = oo := by simpa using hbo
          rw [Nat.zero_add, lw_bit (p := p) (by have := HLA.out; omega) hiA] at cb
          clear hbo
          rcases hkids with ⟨e1, e2⟩ | ⟨sb, bs', e1, e2, hlt⟩
          · skip
            go_upto_region 15 with (fail)
            go_wp2_with ((with_reducible apply ld); rfl; (with_reducible assumption); (simp only [List.set_cons_zero, List.set_cons_succ]; rfl))
            refine (tree_Kids p hp hc (p.nd A i) hin _ hT9).mono ?_
            rintro e w10 ⟨⟨nb, bb2, rfl, x1, x2, x3, x4, x5⟩, B10'⟩
            rw [e1] at x1 ⊢
            rw [e2] at x2 ⊢
            have bn10 := bn9.kept B10'
            have hB10 := hB9.on B10'
            clear gN e1 e2
            have y2 := x1.cell 2
            have z1 := x2.cell 0
            simp only [ndCells_one, u8s, List.map_cons, List.map_nil, List.getElem?_toArray, List.getElem?_cons_zero, List.getElem?_cons_succ] at y2 z1
            have n2 : w10.cell? ⟨s7, 2, none⟩ = some (.int .i64 (p.nd A i).m) := bn10.cell 2
            have gK := (Nodes.ofBox x1) 0 (by simp)
            have g1 := KeptW.cell y2
            have g3 := KeptW.cell z1
            have g4 := KeptW.cell n2
            obtain ⟨u1, u2⟩ := lc_one hup
            obtain ⟨bk, ok, hbk, gK⟩ := gK
            obtain ⟨rfl, rfl⟩ : nb = bk ∧ 0 = ok := by simpa using hbk
            simp only [List.getElem_cons_zero, List.getElem_cons_succ, Nat.zero_add, Nat.zero_mul, Nat.one_mul] at gK
            go_upto_region 17 with (fail)
            refine wp_region_kept (by kernel_rfl) (by kernel_rfl) ?_
            repeat first
              | go_big_quiet_skip
              | ((with_reducible apply q_ldG); rfl; rfl; (with_reducible assumption); (simp only [List.set_cons_zero, List.set_cons_succ]; rfl))
              | go_big_quiet_step (fail)
            refine wpQuiet_nil ?_
            intro w11 B11
            have bn11 := bn10.kept B11
            have hB11 := hB10.on B11
            have gK11 := Below.loadAgg B11 x1.lt gK
            go_wp2_with (first | ((with_reducible apply ld); rfl; (with_reducible assumption); (simp only [List.set_cons_zero, List.set_cons_succ]; rfl)) | ((with_reducible apply stO); rfl; rfl; exact bn11; rfl; rfl; exact nodeCells_flat _ _ _; intro w15 b15 B15 ho15 hs15))
            have hB15 : But s7 w8 w15 := hB11.trans (lw_but hs15 ho15 B15)
            go_roundw
            case measure => first | exact ap_meas' hiM | exact ap_meas hiM hb1
            case rel => exact ⟨i + 1, hiM, (by first | rfl | exact congrArg (Value.int .i64) (ap_succ hb1)), b15, hB15⟩
          · skip
            go_upto_region 15 with (fail)
            go_wp2_with ((with_reducible apply ld); rfl; (with_reducible assumption); (simp only [List.set_cons_zero, List.set_cons_succ]; rfl))
            refine (tree_Kids p hp hc (p.nd A i) hin _ hT9).mono ?_
            rintro e w10 ⟨⟨nb, bb2, rfl, x1, x2, x3, x4, x5⟩, B10'⟩
            rw [e1] at x1 ⊢
            rw [e2] at x2 ⊢
            have bn10 := bn9.kept B10'
            have hB10 := hB9.on B10'
            clear gN e1 e2
            have y2 := x1.cell 2
            have y5 := x1.cell 5
            have z1 := x2.cell 1
            simp only [ndCells_two, u8s, List.map_cons, List.map_nil, List.getElem?_toArray, List.getElem?_cons_zero, List.getElem?_cons_succ] at y2 y5 z1
            have n2 : w10.cell? ⟨s7, 2, none⟩ = some (.int .i64 (p.nd A i).m) := bn10.cell 2
            have gK := (Nodes.ofBox x1) 1 (by simp)
            have g1 := KeptW.cell y2
            have g2 := KeptW.cell y5
            have g3 := KeptW.cell z1
            have g4 := KeptW.cell n2
            obtain ⟨u1, u2⟩ := lc_one hup
            obtain ⟨u3, u4⟩ := lc_one hlt
            obtain ⟨bk, ok, hbk, gK⟩ := gK
            obtain ⟨rfl, rfl⟩ : nb = bk ∧ 0 = ok := by simpa using hbk
            simp only [List.getElem_cons_zero, List.getElem_cons_succ, Nat.zero_add, Nat.zero_mul, Nat.one_mul] at gK
            go_upto_region 17 with (fail)
            refine wp_region_kept (by kernel_rfl) (by kernel_rfl) ?_
            repeat first
              | go_big_quiet_skip
              | ((with_reducible apply q_ldG); rfl; rfl; (with_reducible assumption); (simp only [List.set_cons_zero, List.set_cons_succ]; rfl))
              | go_big_quiet_step (fail)
            refine wpQuiet_nil ?_
            intro w11 B11
            have bn11 := bn10.kept B11
            have hB11 := hB10.on B11
            have gK11 := Below.loadAgg B11 x1.lt gK
            go_wp2_with (first | ((with_reducible apply ld); rfl; (with_reducible assumption); (simp only [List.set_cons_zero, List.set_cons_succ]; rfl)) | ((with_reducible apply stO); rfl; rfl; exact bn11; rfl; rfl; exact nodeCells_flat _ _ _; intro w15 b15 B15 ho15 hs15))
            have hB15 : But s7 w8 w15 := hB11.trans (lw_but hs15 ho15 B15)
            go_roundw
            case measure => first | exact ap_meas' hiM | exact ap_meas hiM hb1
            case rel => exact ⟨i + 1, hiM, (by first | rfl | exact congrArg (Value.int .i64) (ap_succ hb1)), b15, hB15⟩
        · have m1 : decide ((i : Int) < (m : Int)) = false := by simp; omega
          have m2 : ¬ (i : Int) < (m : Int) := by omega
          have hbz0 : (p.bit A i) = 0 := if_neg (by have := HLA.out; omega)
          have HBZ := Lib.hid hbz0
          clear hbz0
          rcases hkids with ⟨e1, e2⟩ | ⟨sb, bs', e1, e2, hlt⟩
          · skip
            go_upto_region 15 with (fail)
            go_wp2_with ((with_reducible apply ld); rfl; (with_reducible assumption); (simp only [List.set_cons_zero, List.set_cons_succ]; rfl))
            refine (tree_Kids p hp hc (p.nd A i) hin _ hT9).mono ?_
            rintro e w10 ⟨⟨nb, bb2, rfl, x1, x2, x3, x4, x5⟩, B10'⟩
            rw [e1] at x1 ⊢
            rw [e2] at x2 ⊢
            have bn10 := bn9.kept B10'
            have hB10 := hB9.on B10'
            clear gN e1 e2
            rw [HBZ.out] at x2
            have y2 := x1.cell 2
            have z1 := x2.cell 0
            simp only [ndCells_one, u8s, List.map_cons, List.map_nil, List.getElem?_toArray, List.getElem?_cons_zero, List.getElem?_cons_succ] at y2 z1
            have n2 : w10.cell? ⟨s7, 2, none⟩ = some (.int .i64 (p.nd A i).m) := bn10.cell 2
            have gK := (Nodes.ofBox x1) 0 (by simp)
            have g1 := KeptW.cell y2
            have g3 := KeptW.cell z1
            have g4 := KeptW.cell n2
            obtain ⟨u1, u2⟩ := lc_one hup
            obtain ⟨bk, ok, hbk, gK⟩ := gK
            obtain ⟨rfl, rfl⟩ : nb = bk ∧ 0 = ok := by simpa using hbk
            simp only [List.getElem_cons_zero, List.getElem_cons_succ, Nat.zero_add, Nat.zero_mul, Nat.one_mul] at gK
            go_upto_region 17 with (fail)
            refine wp_region_kept (by kernel_rfl) (by kernel_rfl) ?_
            repeat first
              | go_big_quiet_skip
              | ((with_reducible apply q_ldG); rfl; rfl; (with_reducible assumption); (simp only [List.set_cons_zero, List.set_cons_succ]; rfl))
              | go_big_quiet_step (fail)
            refine wpQuiet_nil ?_
            intro w11 B11
            have bn11 := bn10.kept B11
            have hB11 := hB10.on B11
            have gK11 := Below.loadAgg B11 x1.lt gK
            go_wp2_with (first | ((with_reducible apply ld); rfl; (with_reducible assumption); (simp only [List.set_cons_zero, List.set_cons_succ]; rfl)) | ((with_reducible apply stO); rfl; rfl; exact bn11; rfl; rfl; exact nodeCells_flat _ _ _; intro w15 b15 B15 ho15 hs15))
            have hB15 : But s7 w8 w15 := hB11.trans (lw_but hs15 ho15 B15)
            go_roundw
            case measure => first | exact ap_meas' hiM | exact ap_meas hiM hb1
            case rel => exact ⟨i + 1, hiM, (by first | rfl | exact congrArg (Value.int .i64) (ap_succ hb1)), b15, hB15⟩
          · skip
            go_upto_region 15 with (fail)
            go_wp2_with ((with_reducible apply ld); rfl; (with_reducible assumption); (simp only [List.set_cons_zero, List.set_cons_succ]; rfl))
            refine (tree_Kids p hp hc (p.nd A i) hin _ hT9).mono ?_
            rintro e w10 ⟨⟨nb, bb2, rfl, x1, x2, x3, x4, x5⟩, B10'⟩
            rw [e1] at x1 ⊢
            rw [e2] at x2 ⊢
            have bn10 := bn9.kept B10'
            have hB10 := hB9.on B10'
            clear gN e1 e2
            rw [HBZ.out] at x2
            have y2 := x1.cell 2
            have y5 := x1.cell 5
            have z1 := x2.cell 1
            simp only [ndCells_two, u8s, List.map_cons, List.map_nil, List.getElem?_toArray, List.getElem?_cons_zero, List.getElem?_cons_succ] at y2 y5 z1
            have n2 : w10.cell? ⟨s7, 2, none⟩ = some (.int .i64 (p.nd A i).m) := bn10.cell 2
            have gK := (Nodes.ofBox x1) 1 (by simp)
            have g1 := KeptW.cell y2
            have g2 := KeptW.cell y5
            have g3 := KeptW.cell z1
            have g4 := KeptW.cell n2
            obtain ⟨u1, u2⟩ := lc_one hup
            obtain ⟨u3, u4⟩ := lc_one hlt
            obtain ⟨bk, ok, hbk, gK⟩ := gK
            obtain ⟨rfl, rfl⟩ : nb = bk ∧ 0 = ok := by simpa using hbk
            simp only [List.getElem_cons_zero, List.getElem_cons_succ, Nat.zero_add, Nat.zero_mul, Nat.one_mul] at gK
            go_upto_region 17 with (fail)
            refine wp_region_kept (by kernel_rfl) (by kernel_rfl) ?_
            repeat first
              | go_big_quiet_skip
              | ((with_reducible apply q_ldG); rfl; rfl; (with_reducible assumption); (simp only [List.set_cons_zero, List.set_cons_succ]; rfl))
              | go_big_quiet_step (fail)
            refine wpQuiet_nil ?_
            intro w11 B11
            have bn11 := bn10.kept B11
            have hB11 := hB10.on B11
            have gK11 := Below.loadAgg B11 x1.lt gK
            go_wp2_with (first | ((with_reducible apply ld); rfl; (with_reducible assumption); (simp only [List.set_cons_zero, List.set_cons_succ]; rfl)) | ((with_reducible apply stO); rfl; rfl; exact bn11; rfl; rfl; exact nodeCells_flat _ _ _; intro w15 b15 B15 ho15 hs15))
            have hB15 : But s7 w8 w15 := hB11.trans (lw_but hs15 ho15 B15)
            go_roundw
            case measure => first | exact ap_meas' hiM | exact ap_meas hiM hb1
            case rel => exact ⟨i + 1, hiM, (by first | rfl | exact congrArg (Value.int .i64) (ap_succ hb1)), b15, hB15⟩
      · obtain rfl := ap_end hiM hi
        have hdd : decide ((i : Int) < (i : Int)) = false := by simp
        have herrs := score_Errors p a cap hp hcap A (some ⟨gA, 0, none⟩) cA (by rw [HM.out]; omega)
        rw [HERR.out, HPC.out, HM.out] at herrs
        have hw9 : Bytes w9 a p.B := hw.kept (B80.trans ((hB9.below _ (Nat.le_of_lt lw8) (by omega))))
        have hws := herrs w9 hw9 yA9
        have B90 := B80.trans (hB9.below _ (Nat.le_of_lt lw8) (by omega))
        obtain ⟨fk, fr, flev, fl, fwin, fcode, ftable, fall⟩ := b19.prob hp
        clear fk fr flev fl fwin fcode ftable herrs
        go_wp2_with ((with_reducible apply ld); rfl; (with_reducible assumption); (simp only [List.set_cons_zero, List.set_cons_succ]; rfl))
        refine hws.mono ?_
        rintro e w10 ⟨rfl, B10'⟩
        clear fall hws
        have bn10 := bn9.kept B10'
        have hT10 := hT9.kept B10'
        have gN := bn10.load (off := 0) (n := 3) (cs' := (p.nd A i).cells) (Nat.le_refl _) (Array.extract_eq_self_of_le (Nat.le_refl _))
        have hleaf := tree_Leaf p (p.nd A i) w10 hT10
        have hle : ((p.nd A i).d == p.N) = true := by rw [HNM.out]; show ((i : Int) == (i : Int)) = true; simp
        rw [hle] at hleaf
        clear hle
        go_wp2_with ((with_reducible apply ld); rfl; (with_reducible assumption); (simp only [List.set_cons_zero, List.set_cons_succ]; rfl))
        refine hleaf.mono ?_
        rintro e w11 ⟨rfl, B11⟩
        go_wp2_with fail
        refine (law15_num 0 _).mono ?_
        rintro e w12 ⟨rfl, B12⟩
        go_wp2
        go_ret
        exact ⟨rfl, bOn (bOn (bOn B90 B10') B11) B12⟩
end Go.Proofs.Ytiiljecocajdpaa
