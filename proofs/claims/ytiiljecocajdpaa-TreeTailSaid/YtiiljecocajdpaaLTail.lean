/- The walk of the statement on the tail of a tree. -/
import Derived.Test.YtiiljecocajdpaaOpen
namespace Go.Proofs.Ytiiljecocajdpaa
open Go.RowKit

theorem bOn {w w1 w2 : World} (h1 : Below w.heap.size w w1) (h2 : Below w1.heap.size w1 w2) : Below w.heap.size w w2 := h1.trans (h2.mono h1.size)

theorem TreeIn.setOther {w : World} {p : Pb} {tb pb rb g c : Nat} (h : TreeIn w p tb pb rb g c) {q : Addr} (hq : q.block ≠ tb ∧ q.block ≠ pb ∧ q.block ≠ rb ∧ q.block ≠ g) (v : Value) : TreeIn (w.setCell q v) p tb pb rb g c :=
  ⟨h.tree.setOther hq.1 v, h.prob.setOther hq.2.1 v, h.rate.setOther hq.2.2.1 v, h.win.block (Below.heap_setCell _ _ _ _ (Ne.symm hq.2.2.2)), h.cap⟩
theorem tmod_in {N : Int} (h3 : 3 ≤ N) (h4 : N ≤ 1055) (d : Int) : 0 ≤ (wrap64 (wrap64 (d.tmod (N + 1) + N) + 1)).tmod (N + 1) ∧ (wrap64 (wrap64 (d.tmod (N + 1) + N) + 1)).tmod (N + 1) ≤ N := by
  have h1 : -(N + 1) < d.tmod (N + 1) ∧ d.tmod (N + 1) < N + 1 := by
    refine ⟨?_, Int.tmod_lt_of_pos _ (by omega)⟩
    have := Int.tmod_lt_of_pos (-d) (b := N + 1) (by omega)
    rw [Int.neg_tmod] at this
    omega
  have h2 : wrap64 (wrap64 (d.tmod (N + 1) + N) + 1) = d.tmod (N + 1) + N + 1 := by unfold wrap64; omega
  rw [h2, Int.tmod_eq_emod_of_nonneg (by omega)]
  have := Int.emod_nonneg (d.tmod (N + 1) + N + 1) (b := N + 1) (by omega)
  have := Int.emod_lt_of_pos (d.tmod (N + 1) + N + 1) (b := N + 1) (by omega)
  omega
theorem kid_facts {p : Pb} (k1 : 3 ≤ p.C.K) (k2 : p.C.K ≤ 32) (hN : p.N ≤ 1055) {S D : Int} (s0 : 0 ≤ S) (_s1 : S < 2 ^ (p.C.K.toNat - 1)) (d0 : 0 ≤ D) (d1 : D ≤ p.N) (M : Int) {b : Int} (b0 : 0 ≤ b) (b1 : b < 2) :
    (p.kid ⟨S, D, M⟩ b).d = D + 1 ∧ (p.kid ⟨S, D, M⟩ b).s % 2 = b ∧ (p.kid ⟨S, D, M⟩ b).s.tmod 2 = b := by
  have h : (2 * S + b) % 2 ^ (p.C.K.toNat - 1) % 2 = b := by
    obtain ⟨m, hm⟩ : ∃ m, p.C.K.toNat - 1 = m + 1 := ⟨p.C.K.toNat - 2, by omega⟩
    rw [hm, Int.pow_succ, Int.emod_emod_of_dvd _ (Int.dvd_mul_left _ _)]
    omega
  refine ⟨rfl, h, ?_⟩
  rw [Int.tmod_eq_emod_of_nonneg]
  · exact h
  · exact Int.emod_nonneg _ (by have : (0 : Int) < 2 ^ (p.C.K.toNat - 1) := Int.pow_pos (by decide); omega)
set_option maxRecDepth 5000 in
set_option maxHeartbeats 1000000 in
theorem law15_TreeTail (p : Pb) (a : Option Addr) (cap : Nat) (hp : p.Ok) (n : Nd) (hn : n.Ok) (w : World) (hw : Bytes w a p.B) :
    Pure Try.prog 3 #[.agg (p.cells (.slice a p.B.length cap)), .agg n.cells] w (.bool true) := by
  go_enter Try.func3, Try.ntmps3
  go_upto_region 1 with (fail)
  refine name2 ?_
  intro w0 b2 b3 B0
  have hw0 := hw.kept B0
  obtain ⟨fk, fr, flev, fl, fwin, fcode, ftable, fall⟩ := b2.prob hp
  clear fk fr flev fl fwin fcode ftable
  by_cases hc : probChk p = 0
  · go_wp2_with ((with_reducible apply ld); rfl; (with_reducible assumption); (simp only [List.set_cons_zero, List.set_cons_succ]; rfl))
    refine (tree_New p a cap hp hc _ hw0).mono ?_
    rintro e w1 ⟨⟨tb, pb, rb, g, c, rfl, hT, _⟩, B1⟩
    go_wp2_with (fail)
    refine (law15_num 0 _).mono ?_
    rintro e w2 ⟨rfl, B2⟩
    go_wp2_with (fail)
    refine (law15_knows _).mono ?_
    rintro e w3 ⟨rfl, B3⟩
    go_upto_region 4 with (fail)
    have b33 := ((b3.kept B1).kept B2).kept B3
    have b23 := ((b2.kept B1).kept B2).kept B3
    have hT3 := (hT.kept B2).kept B3
    have B30 := bOn (bOn (bOn B0 B1) B2) B3
    have m1 := b33.cell 1
    simp only [Nd.cells, nodeCells, List.getElem?_toArray, List.getElem?_cons_zero, List.getElem?_cons_succ] at m1
    obtain ⟨⟨k1, k2⟩, l1, l2, _⟩ := probChk_ok hc
    have hNp : 3 ≤ p.N ∧ p.N ≤ 1055 := by unfold Pb.N; omega
    obtain ⟨hNp1, hNp2⟩ := hNp
    have hN1 : wrap64 (p.N + 1) = p.N + 1 := by unfold wrap64; omega
    have hN0 : p.N + 1 ≠ 0 := by omega
    obtain ⟨D, hD⟩ : ∃ D, D = (wrap64 (wrap64 (n.d.tmod (p.N + 1) + p.N) + 1)).tmod (p.N + 1) := ⟨_, rfl⟩
    have hD0 : 0 ≤ D ∧ D ≤ p.N := hD ▸ tmod_in hNp1 hNp2 n.d
    obtain ⟨hD0, hD1⟩ := hD0
    (refine wp_region_det_tail 15 (by kernel_rfl) (by kernel_rfl) ?_; simp only [List.take_succ_cons, List.take_zero, List.drop_succ_cons, List.drop_zero])
    have q1 := KeptW.cell m1
    repeat first
      | ((refine det_plain rfl ?_); (go_big_quiet_step (fail)); (refine wpQuiet_nil ?_))
      | ((with_reducible apply det_call); rfl; infer_instance; rfl; (intro w1 B1; exact tree_Steps p _ (hT3.kept B1)); (simp only [List.set_cons_zero, List.set_cons_succ]; rfl))
      | ((with_reducible apply det_nilG); rfl; rfl; (simp only [List.set_cons_zero, List.set_cons_succ]; rfl))
    refine wpDet_nil ?_
    intro w4 B4
    rw [← hD]
    have HD := Lib.hid hD
    clear hD q1 m1 hN1
    have b34 := b33.kept B4
    have b24 := b23.kept B4
    have hT4 := hT3.kept B4
    have c1 := b34.cell 1
    simp only [Nd.cells, nodeCells, List.getElem?_toArray, List.getElem?_cons_zero, List.getElem?_cons_succ] at c1
    have z1 := b34.frozen 1
    have hlt0 := b3.lt
    go_upto_region 5 with (fail)
    refine nameAny (fun W => Box W (w.heap.size + 1) (Nd.mk n.s D n.m).cells ∧ Box W w.heap.size (p.cells (.slice a p.B.length cap)) ∧ TreeIn W p tb pb rb g c ∧ Below w.heap.size w W) ⟨(b34.setCell _).cast rfl, b24.setOther (by simp) _, hT4.setOther (by simp; omega) _, (bOn B30 B4).setCell (by simp) _⟩ ?_
    rintro w5 ⟨b35, b25, hT5, B50⟩
    clear c1 z1
    obtain ⟨fk, fr, flev, fl, fwin, fcode, ftable, fall5⟩ := b25.prob hp
    clear fr flev fl fwin fcode ftable fall5
    have c0 := b35.cell 0
    simp only [Nd.cells, nodeCells, List.getElem?_toArray, List.getElem?_cons_zero, List.getElem?_cons_succ] at c0
    have z0 := b35.frozen 0
    obtain ⟨s0, s1, d0, d1, m0, m1⟩ := hn
    have hshl := one_shl64 k1 k2
    rw [Int.one_mul] at hshl
    have hws : IntKind.u64.wrap n.s = n.s := by
      simp only [IntKind.wrap, IntKind.bits, IntKind.signed]
      simp
      omega
    have hK1 : wrap64 (p.C.K - 1) = p.C.K - 1 := by unfold wrap64; omega
    have hp31 : (2 : Int) ^ (p.C.K.toNat - 1) ≤ 2147483648 := pow31 (by omega)
    have hpp : (0 : Int) < 2 ^ (p.C.K.toNat - 1) := Int.pow_pos (by decide)
    go_upto_region 6 with (fail)
    have hS0 : 0 ≤ n.s % 2 ^ (p.C.K.toNat - 1) := Int.emod_nonneg _ (by omega)
    have hS1 : n.s % 2 ^ (p.C.K.toNat - 1) < 2 ^ (p.C.K.toNat - 1) := Int.emod_lt_of_pos _ hpp
    obtain ⟨S, hS⟩ : ∃ S, S = n.s % 2 ^ (p.C.K.toNat - 1) := ⟨_, rfl⟩
    rw [← hS] at hS0 hS1 ⊢
    have HS := Lib.hid hS
    clear hS hws hK1 hshl fk c0 z0
    refine nameAny (fun W => Box W (w.heap.size + 1) (Nd.mk S D n.m).cells ∧ TreeIn W p tb pb rb g c ∧ Box W w.heap.size (p.cells (.slice a p.B.length cap)) ∧ Below w.heap.size w W) ⟨(b35.setCell _).cast rfl, hT5.setOther (by simp; omega) _, b25.setOther (by simp) _, B50.setCell (by simp) _⟩ ?_
    rintro w6 ⟨b36, hT6, b26, B60⟩
    have c2 := b36.cell 2
    simp only [Nd.cells, nodeCells, List.getElem?_toArray, List.getElem?_cons_zero, List.getElem?_cons_succ] at c2
    have z2 := b36.frozen 2
    go_upto_region 7 with (fail)
    obtain ⟨M, hM⟩ : ∃ M, M = n.m.tmod 10000000 := ⟨_, rfl⟩
    rw [← hM]
    have HM := Lib.hid hM
    clear hM c2 z2
    refine nameAny (fun W => Box W (w.heap.size + 1) (Nd.mk S D M).cells ∧ TreeIn W p tb pb rb g c ∧ Box W w.heap.size (p.cells (.slice a p.B.length cap)) ∧ Below w.heap.size w W) ⟨(b36.setCell _).cast rfl, hT6.setOther (by simp; omega) _, b26.setOther (by simp) _, B60.setCell (by simp) _⟩ ?_
    rintro w7 ⟨b37, hT7, b27, B70⟩
    have gN := b37.load (off := 0) (n := 3) (cs' := (Nd.mk S D M).cells) (Nat.le_refl _) (Array.extract_eq_self_of_le (Nat.le_refl _))
    by_cases hDN : D = p.N
    · have hd : (D == p.N) = true := by simp [hDN]
      have HDN := Lib.hid hDN
      clear hDN
      go_wp2_with ((with_reducible apply ld); rfl; (with_reducible assumption); (simp only [List.set_cons_zero, List.set_cons_succ]; rfl))
      refine (tree_Kids_bare p hc ⟨S, D, M⟩ hS0 (by simp; omega) (.inr (.inl (Int.le_of_eq HDN.out.symm))) _ hT7).mono ?_
      rintro e w8 ⟨rfl, B8⟩
      go_upto_region 10 with (fail)
      have b38 := b37.kept B8
      have hT8 := hT7.kept B8
      have m1 := b38.cell 1
      simp only [Nd.cells, nodeCells, List.getElem?_toArray, List.getElem?_cons_zero, List.getElem?_cons_succ] at m1
      clear gN
      (refine wp_region_det_tail 5 (by kernel_rfl) (by kernel_rfl) ?_; simp only [List.take_succ_cons, List.take_zero, List.drop_succ_cons, List.drop_zero])
      have q1 := KeptW.cell m1
      repeat first
        | ((refine det_plain rfl ?_); (go_big_quiet_step (fail)); (refine wpQuiet_nil ?_))
        | ((with_reducible apply det_call); rfl; infer_instance; rfl; (intro w1 B1; exact tree_Steps p _ (hT8.kept B1)); (simp only [List.set_cons_zero, List.set_cons_succ]; rfl))
        | ((with_reducible apply det_nilG); rfl; rfl; (simp only [List.set_cons_zero, List.set_cons_succ]; rfl))
      refine wpDet_nil ?_
      intro w9 B9
      go_wp2
      go_ret
      exact ⟨rfl, bOn (bOn B70 B8) B9⟩
    · have hd : (D == p.N) = false := by simp [hDN]
      have hin : p.In ⟨S, D, M⟩ := ⟨hS0, hS1, hD0, by show D < p.N; omega⟩
      clear hDN
      by_cases hL : p.L ≤ D
      · have e1 : p.kids ⟨S, D, M⟩ = [p.kid ⟨S, D, M⟩ 0] := if_pos hL
        have e2 : p.kidBits ⟨S, D, M⟩ = [0] := if_pos hL
        have hg : decide (p.L ≤ D) = true := by simpa using hL
        clear hL
        go_wp2_with ((with_reducible apply ld); rfl; (with_reducible assumption); (simp only [List.set_cons_zero, List.set_cons_succ]; rfl))
        refine (tree_Kids p hp hc ⟨S, D, M⟩ hin _ hT7).mono ?_
        rintro e w8 ⟨⟨nb, bb, rfl, x1, x2, x3, x4, x5⟩, B8⟩
        rw [e1] at x1 ⊢
        rw [e2] at x2 ⊢
        obtain ⟨q1, q2, q3⟩ := kid_facts k1 k2 hNp2 hS0 hS1 hD0 hD1 M (b := 0) (by decide) (by decide)
        clear e1 e2
        generalize p.kid ⟨S, D, M⟩ 0 = k at x1 q1 q2 q3 ⊢
        obtain ⟨ks, kd, km⟩ := k
        simp only at q1 q2 q3
        subst q1
        go_upto_region 10 with (fail)
        have b38 := b37.kept B8
        have hT8 := hT7.kept B8
        have b28 := b27.kept B8
        have m1 := b38.cell 1
        simp only [Nd.cells, nodeCells, List.getElem?_toArray, List.getElem?_cons_zero, List.getElem?_cons_succ] at m1
        clear gN
        (refine wp_region_det_tail 5 (by kernel_rfl) (by kernel_rfl) ?_; simp only [List.take_succ_cons, List.take_zero, List.drop_succ_cons, List.drop_zero])
        have q1 := KeptW.cell m1
        repeat first
          | ((refine det_plain rfl ?_); (go_big_quiet_step (fail)); (refine wpQuiet_nil ?_))
          | ((with_reducible apply det_call); rfl; infer_instance; rfl; (intro w1 B1; exact tree_Steps p _ (hT8.kept B1)); (simp only [List.set_cons_zero, List.set_cons_succ]; rfl))
          | ((with_reducible apply det_nilG); rfl; rfl; (simp only [List.set_cons_zero, List.set_cons_succ]; rfl))
        refine wpDet_nil ?_
        intro w9 B9
        have b39 := b38.kept B9
        obtain ⟨fk, fr, flev, fl, fwin, fcode, ftable, fall5⟩ := (b28.kept B9).prob hp
        clear fk fr flev fwin fcode ftable fall5 q1 m1
        have m1 := b39.cell 1
        simp only [Nd.cells, nodeCells, List.getElem?_toArray, List.getElem?_cons_zero, List.getElem?_cons_succ] at m1
        go_upto_region 13 with (fail)
        have y1 := (x1.kept B9).cell 0
        have y2 := (x1.kept B9).cell 1
        have y3 := (x2.kept B9).cell 0
        simp only [ndCells_one, u8s, List.map_cons, List.map_nil, List.getElem?_toArray, List.getElem?_cons_zero, List.getElem?_cons_succ] at y1 y2 y3
        have hwD : wrap64 (D + 1) = D + 1 := by unfold wrap64; omega
        have hDD : (D + 1 == D + 1) = true := by simp
        (refine wp_region_kept_tail 27 (by kernel_rfl) (by kernel_rfl) ?_; simp only [List.take_succ_cons, List.take_zero, List.drop_succ_cons, List.drop_zero])
        have z1 := KeptW.cell y1
        have z2 := KeptW.cell y2
        have z3 := KeptW.cell y3
        have z4 := KeptW.cell m1
        clear y1 y2 y3 m1
        repeat first
          | go_big_quiet_skip
          | go_big_quiet_step (fail)
        refine wpQuiet_nil ?_
        intro w10 B10
        go_wp2
        go_ret
        exact ⟨rfl, bOn (bOn (bOn B70 B8) B9) B10⟩
      · have e1 : p.kids ⟨S, D, M⟩ = p.twoK ⟨S, D, M⟩ := if_neg hL
        have e2 : p.kidBits ⟨S, D, M⟩ = p.twoB ⟨S, D, M⟩ := if_neg hL
        have hg : decide (p.L ≤ D) = false := by simpa using hL
        clear hL
        go_wp2_with ((with_reducible apply ld); rfl; (with_reducible assumption); (simp only [List.set_cons_zero, List.set_cons_succ]; rfl))
        refine (tree_Kids p hp hc ⟨S, D, M⟩ hin _ hT7).mono ?_
        rintro e w8 ⟨⟨nb, bb, rfl, x1, x2, x3, x4, x5⟩, B8⟩
        rw [e1] at x1 ⊢
        rw [e2] at x2 ⊢
        obtain ⟨q1, q2, q3⟩ := kid_facts k1 k2 hNp2 hS0 hS1 hD0 hD1 M (b := 0) (by decide) (by decide)
        obtain ⟨r1, r2, r3⟩ := kid_facts k1 k2 hNp2 hS0 hS1 hD0 hD1 M (b := 1) (by decide) (by decide)
        clear e1 e2
        unfold Pb.twoK at x1 ⊢
        unfold Pb.twoB at x2 ⊢
        generalize p.kid ⟨S, D, M⟩ 0 = k at x1 x2 q1 q2 q3 ⊢
        generalize p.kid ⟨S, D, M⟩ 1 = k' at x1 x2 r1 r2 r3 ⊢
        obtain ⟨ks, kd, km⟩ := k
        obtain ⟨ks', kd', km'⟩ := k'
        simp only at q1 q2 q3 r1 r2 r3 x1 x2 ⊢
        subst q1 r1
        by_cases hm : km < km'
        · rw [if_pos hm] at x1 x2 ⊢
          rw [if_pos hm]
          have hm2 : decide (km < km') = true := by simpa using hm
          clear hm
          have hwD : wrap64 (D + 1) = D + 1 := by unfold wrap64; omega
          go_upto_region 10 with (fail)
          have b38 := b37.kept B8
          have hT8 := hT7.kept B8
          have b28 := b27.kept B8
          have m1 := b38.cell 1
          simp only [Nd.cells, nodeCells, List.getElem?_toArray, List.getElem?_cons_zero, List.getElem?_cons_succ] at m1
          clear gN
          (refine wp_region_det_tail 5 (by kernel_rfl) (by kernel_rfl) ?_; simp only [List.take_succ_cons, List.take_zero, List.drop_succ_cons, List.drop_zero])
          have g1 := KeptW.cell m1
          repeat first
            | ((refine det_plain rfl ?_); (go_big_quiet_step (fail)); (refine wpQuiet_nil ?_))
            | ((with_reducible apply det_call); rfl; infer_instance; rfl; (intro w1 B1; exact tree_Steps p _ (hT8.kept B1)); (simp only [List.set_cons_zero, List.set_cons_succ]; rfl))
            | ((with_reducible apply det_nilG); rfl; rfl; (simp only [List.set_cons_zero, List.set_cons_succ]; rfl))
          refine wpDet_nil ?_
          intro w9 B9
          have b39 := b38.kept B9
          obtain ⟨fk, fr, flev, fl, fwin, fcode, ftable, fall5⟩ := (b28.kept B9).prob hp
          clear fk fr flev fwin fcode ftable fall5 g1 m1
          have m1 := b39.cell 1
          simp only [Nd.cells, nodeCells, List.getElem?_toArray, List.getElem?_cons_zero, List.getElem?_cons_succ] at m1
          go_upto_region 14 with (fail)
          have y0 := (x1.kept B9).cell 0
          have y3 := (x1.kept B9).cell 3
          have y6 := (x2.kept B9).cell 0
          have y7 := (x2.kept B9).cell 1
          simp only [ndCells_two, u8s, List.map_cons, List.map_nil, List.getElem?_toArray, List.getElem?_cons_zero, List.getElem?_cons_succ] at y0 y3 y6 y7
          (refine wp_region_kept_tail 45 (by kernel_rfl) (by kernel_rfl) ?_; simp only [List.take_succ_cons, List.take_zero, List.drop_succ_cons, List.drop_zero])
          have z0 := KeptW.cell y0
          have z3 := KeptW.cell y3
          have z6 := KeptW.cell y6
          have z7 := KeptW.cell y7
          clear y0 y3 y6 y7
          repeat first
            | go_big_quiet_skip
            | go_big_quiet_step (fail)
          refine wpQuiet_nil ?_
          intro w10 B10
          go_upto_region 15 with (fail)
          have y2 := ((x1.kept B9).kept B10).cell 2
          have y5 := ((x1.kept B9).kept B10).cell 5
          have y6 := ((x2.kept B9).kept B10).cell 0
          simp only [ndCells_two, u8s, List.map_cons, List.map_nil, List.getElem?_toArray, List.getElem?_cons_zero, List.getElem?_cons_succ] at y2 y5 y6
          clear z0 z3 z6 z7
          (refine wp_region_kept_tail 29 (by kernel_rfl) (by kernel_rfl) ?_; simp only [List.take_succ_cons, List.take_zero, List.drop_succ_cons, List.drop_zero])
          have z2 := KeptW.cell y2
          have z5 := KeptW.cell y5
          have z6 := KeptW.cell y6
          clear y2 y5 y6
          repeat first
            | go_big_quiet_skip
            | go_big_quiet_step (fail)
          refine wpQuiet_nil ?_
          intro w11 B11
          go_wp2
          go_ret
          exact ⟨rfl, bOn (bOn (bOn (bOn B70 B8) B9) B10) B11⟩
        · rw [if_neg hm] at x1 x2 ⊢
          rw [if_neg hm]
          have hwD : wrap64 (D + 1) = D + 1 := by unfold wrap64; omega
          go_upto_region 10 with (fail)
          have b38 := b37.kept B8
          have hT8 := hT7.kept B8
          have b28 := b27.kept B8
          have m1 := b38.cell 1
          simp only [Nd.cells, nodeCells, List.getElem?_toArray, List.getElem?_cons_zero, List.getElem?_cons_succ] at m1
          clear gN
          (refine wp_region_det_tail 5 (by kernel_rfl) (by kernel_rfl) ?_; simp only [List.take_succ_cons, List.take_zero, List.drop_succ_cons, List.drop_zero])
          have g1 := KeptW.cell m1
          repeat first
            | ((refine det_plain rfl ?_); (go_big_quiet_step (fail)); (refine wpQuiet_nil ?_))
            | ((with_reducible apply det_call); rfl; infer_instance; rfl; (intro w1 B1; exact tree_Steps p _ (hT8.kept B1)); (simp only [List.set_cons_zero, List.set_cons_succ]; rfl))
            | ((with_reducible apply det_nilG); rfl; rfl; (simp only [List.set_cons_zero, List.set_cons_succ]; rfl))
          refine wpDet_nil ?_
          intro w9 B9
          have b39 := b38.kept B9
          obtain ⟨fk, fr, flev, fl, fwin, fcode, ftable, fall5⟩ := (b28.kept B9).prob hp
          clear fk fr flev fwin fcode ftable fall5 g1 m1
          have m1 := b39.cell 1
          simp only [Nd.cells, nodeCells, List.getElem?_toArray, List.getElem?_cons_zero, List.getElem?_cons_succ] at m1
          go_upto_region 14 with (fail)
          have y0 := (x1.kept B9).cell 0
          have y3 := (x1.kept B9).cell 3
          have y6 := (x2.kept B9).cell 0
          have y7 := (x2.kept B9).cell 1
          simp only [ndCells_two, u8s, List.map_cons, List.map_nil, List.getElem?_toArray, List.getElem?_cons_zero, List.getElem?_cons_succ] at y0 y3 y6 y7
          (refine wp_region_kept_tail 45 (by kernel_rfl) (by kernel_rfl) ?_; simp only [List.take_succ_cons, List.take_zero, List.drop_succ_cons, List.drop_zero])
          have z0 := KeptW.cell y0
          have z3 := KeptW.cell y3
          have z6 := KeptW.cell y6
          have z7 := KeptW.cell y7
          clear y0 y3 y6 y7
          repeat first
            | go_big_quiet_skip
            | go_big_quiet_step (fail)
          refine wpQuiet_nil ?_
          intro w10 B10
          go_upto_region 15 with (fail)
          have y2 := ((x1.kept B9).kept B10).cell 2
          have y5 := ((x1.kept B9).kept B10).cell 5
          have y6 := ((x2.kept B9).kept B10).cell 0
          simp only [ndCells_two, u8s, List.map_cons, List.map_nil, List.getElem?_toArray, List.getElem?_cons_zero, List.getElem?_cons_succ] at y2 y5 y6
          clear z0 z3 z6 z7
          by_cases hq : km' < km
          · have hm3 : decide (km' < km) = true := by simpa using hq
            clear hq
            (refine wp_region_kept_tail 29 (by kernel_rfl) (by kernel_rfl) ?_; simp only [List.take_succ_cons, List.take_zero, List.drop_succ_cons, List.drop_zero])
            have z2 := KeptW.cell y2
            have z5 := KeptW.cell y5
            have z6 := KeptW.cell y6
            clear y2 y5 y6
            repeat first
              | go_big_quiet_skip
              | go_big_quiet_step (fail)
            refine wpQuiet_nil ?_
            intro w11 B11
            go_wp2
            go_ret
            exact ⟨rfl, bOn (bOn (bOn (bOn B70 B8) B9) B10) B11⟩
          · have hm3 : decide (km' < km) = false := by simpa using hq
            have hm4 : (km' == km) = true := by simp; omega
            clear hq hm
            (refine wp_region_kept_tail 29 (by kernel_rfl) (by kernel_rfl) ?_; simp only [List.take_succ_cons, List.take_zero, List.drop_succ_cons, List.drop_zero])
            have z2 := KeptW.cell y2
            have z5 := KeptW.cell y5
            have z6 := KeptW.cell y6
            clear y2 y5 y6
            repeat first
              | go_big_quiet_skip
              | go_big_quiet_step (fail)
            refine wpQuiet_nil ?_
            intro w11 B11
            go_wp2
            go_ret
            exact ⟨rfl, bOn (bOn (bOn (bOn B70 B8) B9) B10) B11⟩
  · have hz : (probChk p != 0) = true := by simp [hc]
    go_wp2_with ((with_reducible apply ld); rfl; (with_reducible assumption); (simp only [List.set_cons_zero, List.set_cons_succ]; rfl))
    refine (tree_New_bad p a cap hp hc _ hw0).mono ?_
    rintro e w1 ⟨rfl, B1⟩
    go_wp2_with (fail)
    refine (law15_num _ _).mono ?_
    rintro e w2 ⟨rfl, B2⟩
    go_wp2_with (fail)
    refine (law15_knows _).mono ?_
    rintro e w3 ⟨rfl, B3⟩
    go_wp2
    go_ret
    exact ⟨rfl, bOn (bOn (bOn B0 B1) B2) B3⟩
end Go.Proofs.Ytiiljecocajdpaa
