/- The walk of the document's Kids. -/
import Derived.Test.YtiiljecocajdpaaDocKid
namespace Go.Proofs.Ytiiljecocajdpaa
open Go.RowKit

theorem build_oneN (a : Nd) (w : World) : (Instr.buildSlice 44 1 #[(0, .agg a.cells)]).run Try.prog w = .ok (.slice (some ⟨w.heap.size, 0, none⟩) 1 1) (w.alloc (.cells (ndCells [a]) 34)) := by
  simp only [Nd.cells, nodeCells]
  go_simp
  rfl
set_option maxRecDepth 5000 in
set_option maxHeartbeats 1000000 in
theorem doc_Kids (p : Pb) (hp : p.Ok) (h : probChk p = 0) {tb g c : Nat} (n : Nd) (hn : p.In n) (w : World) (hT : DocIn w p tb g c) :
    Calls Try.prog 39 #[.pointer (some ⟨tb, 0, none⟩), .agg n.cells] w (KidsPost (p.kids n) (p.kidBits n) w) := by
  obtain ⟨⟨k1, k2⟩, l1, l2, cr, hwin, ⟨v1, v2⟩, hlev, hcc, htt⟩ := probChk_ok h
  obtain ⟨s0, s1, d0, d1⟩ := hn
  have hn : p.In n := ⟨s0, s1, d0, d1⟩
  clear cr hwin
  go_enter Try.func39, Try.ntmps39
  go_upto_region 1 with (fail)
  refine name1 ?_
  intro w0 b3 B0
  have hT0 := hT.kept B0
  obtain ⟨fk, fr, flev, fl, fwin, fcode, ftable, fall⟩ := hT0.tree.prob hp
  clear fr flev fl fwin fcode ftable fall
  have m0 := b3.cell 0
  have m1 := b3.cell 1
  simp only [Nd.cells, nodeCells, List.getElem?_toArray, List.getElem?_cons_zero, List.getElem?_cons_succ] at m0 m1
  have g1 : decide (n.d < 0) = false := by simp; omega
  have g2 : decide (p.N ≤ n.d) = false := by simp; omega
  have hp31 : (2 : Int) ^ (p.C.K.toNat - 1) ≤ 2147483648 := pow31 (by omega)
  have hws : IntKind.u64.wrap n.s = n.s := by
    simp only [IntKind.wrap, IntKind.bits, IntKind.signed]
    simp
    omega
  have hK1 : wrap64 (p.C.K - 1) = p.C.K - 1 := by unfold wrap64; omega
  have hsd : n.s / 2 ^ (p.C.K.toNat - 1) = 0 := Int.ediv_eq_zero_of_lt s0 s1
  clear hp31
  refine wp_region_kept (by kernel_rfl) (by kernel_rfl) ?_
  have q0 := KeptW.cell m0
  have q1 := KeptW.cell m1
  have q2 := KeptW.cell fk
  clear m0 m1 fk
  repeat first
    | go_big_quiet_skip
    | go_big_quiet_step (exact Calls.kept (doc_Steps p hp h _ (hT0.kept (Subtype.property _))))
  refine wpQuiet_nil ?_
  intro w1 B1
  clear q0 q1 q2 hws hK1 hsd
  have b31 := b3.kept B1
  have hT1 := hT0.kept B1
  have B10 := bOn B0 B1
  have gN := b31.load (off := 0) (n := 3) (cs' := n.cells) (Nat.le_refl _) (Array.extract_eq_self_of_le (Nat.le_refl _))
  go_wp2_with ((with_reducible apply ld); rfl; (with_reducible assumption); (simp only [List.set_cons_zero, List.set_cons_succ]; rfl))
  refine (doc_kid p hp h n hn 0 (by omega) (by omega) _ hT1).mono ?_
  rintro e w2 ⟨rfl, B2⟩
  clear gN
  obtain ⟨z, hz⟩ : ∃ z, z = p.kid n 0 := ⟨_, rfl⟩
  rw [← hz]
  have HZ := Lib.hid hz; clear hz
  have fz : Flat z.cells := nodeCells_flat _ _ _
  have bz := Box.new w2 #[.int .u32 0, .int .i64 0, .int .i64 0] 34
  go_upto_region 4 with ((with_reducible apply stO); rfl; rfl; exact bz; rfl; rfl; exact fz; intro w3 b6 B3 o3 s3)
  have B31 : Below w2.heap.size w2 w3 := ((Below.refl _ _).alloc (Nat.le_refl _) _).trans B3
  have B30 := bOn (bOn B10 B2) B31
  have b33 := (b31.kept B2).kept B31
  have hT3 := (hT1.kept B2).kept B31
  clear o3 s3 bz
  obtain ⟨fk, fr, flev, fl, fwin, fcode, ftable, fall⟩ := hT3.tree.prob hp
  clear fk fr flev fwin fcode ftable fall
  have m1 := b33.cell 1
  simp only [Nd.cells, nodeCells, List.getElem?_toArray, List.getElem?_cons_zero, List.getElem?_cons_succ] at m1
  by_cases hL : p.L ≤ n.d
  · have g3 : decide (p.L ≤ n.d) = true := by simpa using hL
    have e1 : p.kids n = [z] := by rw [HZ.out]; exact if_pos hL
    have e2 : p.kidBits n = [0] := if_pos hL
    have E1 := Lib.hid e1
    have E2 := Lib.hid e2
    clear e1 e2 hL
    refine wp_region_kept (by kernel_rfl) (by kernel_rfl) ?_
    have q1 := KeptW.cell m1
    have q2 := KeptW.cell fl
    clear m1 fl
    repeat first
      | go_big_quiet_skip
      | go_big_quiet_step (fail)
    refine wpQuiet_nil ?_
    intro w4 B4
    clear q1 q2
    have b64 := b6.kept B4
    have gz := b64.load (off := 0) (n := 3) (cs' := z.cells) (Nat.le_refl _) (Array.extract_eq_self_of_le (Nat.le_refl _))
    have B40 := bOn B30 B4
    go_wp2_with (first | ((with_reducible apply ld); rfl; (with_reducible assumption); (simp only [List.set_cons_zero, List.set_cons_succ]; rfl)) | ((with_reducible apply w_slice (d := 49) (cs := ndCells [z]) (e := 34)); ((simp only [List.map_toArray, List.map_cons, List.map_nil]); exact build_oneN z _)))
    go_ret2
    rw [E1.out, E2.out]
    have fin1 := (Box.new w4 (ndCells [z]) 34).alloc (.cells #[.int .u8 0] 5)
    have fin2 : Box ((w4.alloc (.cells (ndCells [z]) 34)).alloc (.cells #[.int .u8 0] 5)) (w4.heap.size + 1) #[.int .u8 0] := by simpa using Box.new (w4.alloc (.cells (ndCells [z]) 34)) #[.int .u8 0] 5
    have hsz := B40.size
    refine (show KidsPost _ _ _ _ _ from ⟨⟨w4.heap.size, w4.heap.size + 1, rfl, fin1, fin2, by omega, hsz, by omega⟩, B40.trans (((Below.refl _ _).alloc hsz _).alloc (by simp; omega) _)⟩)
  · have g3 : decide (p.L ≤ n.d) = false := by simpa using hL
    have e1 : p.kids n = p.twoK n := if_neg hL
    have e2 : p.kidBits n = p.twoB n := if_neg hL
    have E1 := Lib.hid e1
    have E2 := Lib.hid e2
    clear e1 e2 hL
    refine wp_region_kept (by kernel_rfl) (by kernel_rfl) ?_
    have q1 := KeptW.cell m1
    have q2 := KeptW.cell fl
    clear m1 fl
    repeat first
      | go_big_quiet_skip
      | go_big_quiet_step (fail)
    refine wpQuiet_nil ?_
    intro w4 B4
    clear q1 q2
    have b64 := b6.kept B4
    have b34 := b33.kept B4
    have hT4 := hT3.kept B4
    have gN := b34.load (off := 0) (n := 3) (cs' := n.cells) (Nat.le_refl _) (Array.extract_eq_self_of_le (Nat.le_refl _))
    have B40 := bOn B30 B4
    go_wp2_with ((with_reducible apply ld); rfl; (with_reducible assumption); (simp only [List.set_cons_zero, List.set_cons_succ]; rfl))
    refine (doc_kid p hp h n hn 1 (by omega) (by omega) _ hT4).mono ?_
    rintro e w5 ⟨rfl, B5⟩
    clear gN
    obtain ⟨o, ho⟩ : ∃ o, o = p.kid n 1 := ⟨_, rfl⟩
    rw [← ho]
    have HO := Lib.hid ho; clear ho
    have fo : Flat o.cells := nodeCells_flat _ _ _
    have bz := Box.new w5 #[.int .u32 0, .int .i64 0, .int .i64 0] 34
    go_upto_region 7 with ((with_reducible apply stO); rfl; rfl; exact bz; rfl; rfl; exact fo; intro w6 b7 B6 o6 s6)
    have B61 : Below w5.heap.size w5 w6 := ((Below.refl _ _).alloc (Nat.le_refl _) _).trans B6
    have B60 := bOn (bOn B40 B5) B61
    have b66 := (b64.kept B5).kept B61
    clear o6 s6 bz
    have mz := b66.cell 2
    have mo := b7.cell 2
    simp only [Nd.cells, nodeCells, List.getElem?_toArray, List.getElem?_cons_zero, List.getElem?_cons_succ] at mz mo
    have gz := b66.load (off := 0) (n := 3) (cs' := z.cells) (Nat.le_refl _) (Array.extract_eq_self_of_le (Nat.le_refl _))
    have go := b7.load (off := 0) (n := 3) (cs' := o.cells) (Nat.le_refl _) (Array.extract_eq_self_of_le (Nat.le_refl _))
    have hsz := B60.size
    by_cases hm : z.m < o.m
    · have g4 : decide (o.m ≤ z.m) = false := by simp; omega
      have e3 : p.twoK n = [z, o] := by unfold Pb.twoK; rw [← HZ.out, ← HO.out, if_pos hm]
      have e4 : p.twoB n = [0, 1] := by unfold Pb.twoB; rw [← HZ.out, ← HO.out, if_pos hm]
      have E3 := Lib.hid e3
      have E4 := Lib.hid e4
      clear e3 e4 hm
      go_upto_region 9 with (fail)
      clear mz mo
      go_wp2_with (first | ((with_reducible apply ld); rfl; (with_reducible assumption); (simp only [List.set_cons_zero, List.set_cons_succ]; rfl)) | ((with_reducible apply w_slice (d := 65) (cs := ndCells [z, o]) (e := 34)); ((simp only [List.map_toArray, List.map_cons, List.map_nil]); exact build_two z o _)))
      go_ret2
      rw [E1.out, E2.out, E3.out, E4.out]
      have fin1 := (Box.new w6 (ndCells [z, o]) 34).alloc (.cells #[.int .u8 0, .int .u8 1] 5)
      have fin2 : Box ((w6.alloc (.cells (ndCells [z, o]) 34)).alloc (.cells #[.int .u8 0, .int .u8 1] 5)) (w6.heap.size + 1) #[.int .u8 0, .int .u8 1] := by simpa using Box.new (w6.alloc (.cells (ndCells [z, o]) 34)) #[.int .u8 0, .int .u8 1] 5
      refine (show KidsPost _ _ _ _ _ from ⟨⟨w6.heap.size, w6.heap.size + 1, rfl, fin1, fin2, by omega, hsz, by omega⟩, B60.trans (((Below.refl _ _).alloc hsz _).alloc (by simp; omega) _)⟩)
    · have g4 : decide (o.m ≤ z.m) = true := by simp; omega
      have e3 : p.twoK n = [o, z] := by unfold Pb.twoK; rw [← HZ.out, ← HO.out, if_neg hm]
      have e4 : p.twoB n = [1, 0] := by unfold Pb.twoB; rw [← HZ.out, ← HO.out, if_neg hm]
      have E3 := Lib.hid e3
      have E4 := Lib.hid e4
      clear e3 e4 hm
      go_upto_region 8 with (fail)
      clear mz mo
      go_wp2_with (first | ((with_reducible apply ld); rfl; (with_reducible assumption); (simp only [List.set_cons_zero, List.set_cons_succ]; rfl)) | ((with_reducible apply w_slice (d := 61) (cs := ndCells [o, z]) (e := 34)); ((simp only [List.map_toArray, List.map_cons, List.map_nil]); exact build_two o z _)))
      go_ret2
      rw [E1.out, E2.out, E3.out, E4.out]
      have fin1 := (Box.new w6 (ndCells [o, z]) 34).alloc (.cells #[.int .u8 1, .int .u8 0] 5)
      have fin2 : Box ((w6.alloc (.cells (ndCells [o, z]) 34)).alloc (.cells #[.int .u8 1, .int .u8 0] 5)) (w6.heap.size + 1) #[.int .u8 1, .int .u8 0] := by simpa using Box.new (w6.alloc (.cells (ndCells [o, z]) 34)) #[.int .u8 1, .int .u8 0] 5
      refine (show KidsPost _ _ _ _ _ from ⟨⟨w6.heap.size, w6.heap.size + 1, rfl, fin1, fin2, by omega, hsz, by omega⟩, B60.trans (((Below.refl _ _).alloc hsz _).alloc (by simp; omega) _)⟩)
set_option maxRecDepth 5000 in
set_option maxHeartbeats 1000000 in
theorem doc_Kids_bare (p : Pb) (hp : p.Ok) (h : probChk p = 0) {tb g c : Nat} (n : Nd) (s0 : 0 ≤ n.s) (s1 : n.s < 4294967296) (hn : p.bare n) (w : World) (hT : DocIn w p tb g c) :
    Pure Try.prog 39 #[.pointer (some ⟨tb, 0, none⟩), .agg n.cells] w (.tuple #[.slice none 0 0, .slice none 0 0]) := by
  obtain ⟨⟨k1, k2⟩, l1, l2, cr, hwin, ⟨v1, v2⟩, hlev, hcc, htt⟩ := probChk_ok h
  clear cr hwin
  go_enter Try.func39, Try.ntmps39
  go_upto_region 1 with (fail)
  refine name1 ?_
  intro w0 b3 B0
  have hT0 := hT.kept B0
  obtain ⟨fk, fr, flev, fl, fwin, fcode, ftable, fall⟩ := hT0.tree.prob hp
  clear fr flev fl fwin fcode ftable fall
  have m0 := b3.cell 0
  have m1 := b3.cell 1
  simp only [Nd.cells, nodeCells, List.getElem?_toArray, List.getElem?_cons_zero, List.getElem?_cons_succ] at m0 m1
  have hws : IntKind.u64.wrap n.s = n.s := by
    simp only [IntKind.wrap, IntKind.bits, IntKind.signed]
    simp
    omega
  have hK1 : wrap64 (p.C.K - 1) = p.C.K - 1 := by unfold wrap64; omega
  by_cases c1 : n.d < 0
  · have g1 : decide (n.d < 0) = true := by simp; omega
    refine wp_region_kept (by kernel_rfl) (by kernel_rfl) ?_
    have q0 := KeptW.cell m0
    have q1 := KeptW.cell m1
    have q2 := KeptW.cell fk
    clear m0 m1 fk
    repeat first
      | go_big_quiet_skip
      | go_big_quiet_step (exact Calls.kept (doc_Steps p hp h _ (hT0.kept (Subtype.property _))))
    refine wpQuiet_nil ?_
    intro w1 B1
    clear q0 q1 q2 hws
    go_wp2
    go_ret2
    exact ⟨rfl, bOn B0 B1⟩
  have g1 : decide (n.d < 0) = false := by simp; omega
  by_cases c2 : p.N ≤ n.d
  · have g2 : decide (p.N ≤ n.d) = true := by simp; omega
    refine wp_region_kept (by kernel_rfl) (by kernel_rfl) ?_
    have q0 := KeptW.cell m0
    have q1 := KeptW.cell m1
    have q2 := KeptW.cell fk
    clear m0 m1 fk
    repeat first
      | go_big_quiet_skip
      | go_big_quiet_step (exact Calls.kept (doc_Steps p hp h _ (hT0.kept (Subtype.property _))))
    refine wpQuiet_nil ?_
    intro w1 B1
    clear q0 q1 q2 hws
    go_wp2
    go_ret2
    exact ⟨rfl, bOn B0 B1⟩
  have g2 : decide (p.N ≤ n.d) = false := by simp; omega
  have c3 : 2 ^ (p.C.K.toNat - 1) ≤ n.s := by rcases hn with h | h | h <;> first | exact h | omega
  have hpp : (0 : Int) < 2 ^ (p.C.K.toNat - 1) := Int.pow_pos (by decide)
  have hsd : 0 < n.s / 2 ^ (p.C.K.toNat - 1) := Int.lt_of_lt_of_le (by decide) (Int.le_ediv_of_mul_le (a := 1) hpp (by rw [Int.one_mul]; exact c3))
  obtain ⟨D, hD⟩ : ∃ D, n.s / 2 ^ (p.C.K.toNat - 1) = D := ⟨_, rfl⟩
  rw [hD] at hsd
  have g3 : decide (0 < D) = true := by simpa using hsd
  clear c1 c2 c3 hpp hsd
  refine wp_region_kept (by kernel_rfl) (by kernel_rfl) ?_
  have q0 := KeptW.cell m0
  have q1 := KeptW.cell m1
  have q2 := KeptW.cell fk
  clear m0 m1 fk
  repeat first
    | go_big_quiet_skip
    | go_big_quiet_step (exact Calls.kept (doc_Steps p hp h _ (hT0.kept (Subtype.property _))))
  refine wpQuiet_nil ?_
  intro w1 B1
  clear q0 q1 q2 hws
  go_wp2
  go_ret2
  exact ⟨rfl, bOn B0 B1⟩
end Go.Proofs.Ytiiljecocajdpaa
