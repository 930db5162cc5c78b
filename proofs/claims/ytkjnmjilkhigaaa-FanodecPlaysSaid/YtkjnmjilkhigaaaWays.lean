import Derived.Test.YtkjnmjilkhigaaaDocKid
import Derived.Test.YtkjnmjilkhigaaaCount
set_option linter.unusedSimpArgs false
set_option linter.unusedVariables false
set_option linter.unnecessarySimpa false
/- The walk of the document's Kids. -/
namespace Go.Proofs.Ytkjnmjilkhigaaa
open Go.RowKit

theorem build_oneN (a : Nd) (w : World) : (Instr.buildSlice 85 1 #[(0, .agg a.cells)]).run Try.prog w = .ok (.slice (some ⟨w.heap.size, 0, none⟩) 1 1) (w.alloc (.cells (ndCells [a]) 80)) := by
  simp only [Nd.cells, nodeCells]
  go_simp
  rfl
set_option maxRecDepth 5000 in
set_option maxHeartbeats 1000000 in
theorem doc_Kids (p : Pb) (hp : p.Ok) (h : probChk p = 0) {tb g c : Nat} (n : Nd) (hn : p.In n) (w : World) (hT : DocIn w p tb g c) :
    Calls Try.prog 36 #[.pointer (some ⟨tb, 0, none⟩), .agg n.cells] w (KidsPost (p.kids n) (p.kidBits n) w) := by
  obtain ⟨⟨k1, k2⟩, l1, l2, cr, hwin, ⟨v1, v2⟩, hlev, hcc, htt⟩ := probChk_ok h
  obtain ⟨s0, s1, d0, d1⟩ := hn
  have hn : p.In n := ⟨s0, s1, d0, d1⟩
  clear cr hwin
  go_enter Try.func36, Try.ntmps36
  go_upto_region 1 with (fail)
  refine name1 ?_
  intro w0 b3 B0
  have hT0 := hT.kept B0
  obtain ⟨fk, fr, flev, fl, fwin, fcode, ftable, fall⟩ := hT0.tree.prob hp
  clear fr flev fl fwin fcode ftable fall
  have m0 := b3.cell 0
  have m1 := b3.cell 1
  simp only [Nd.cells, nodeCells, List.getElem?_toArray, List.getElem?_cons_zero, List.getElem?_cons_succ] at m0 m1
  have g1 : decide (n.d < 0) = false := by simp; omega
  have g2 : decide (p.N ≤ n.d) = false := by simp; omega
  have hp31 : (2 : Int) ^ (p.C.K.toNat - 1) ≤ 2147483648 := pow31 (by omega)
  have hws : IntKind.u64.wrap n.s = n.s := by
    simp only [IntKind.wrap, IntKind.bits, IntKind.signed]
    simp
    omega
  have hK1 : wrap64 (p.C.K - 1) = p.C.K - 1 := by unfold wrap64; omega
  have hsd : n.s / 2 ^ (p.C.K.toNat - 1) = 0 := Int.ediv_eq_zero_of_lt s0 s1
  clear hp31
  refine wp_region_kept (by kernel_rfl) (by kernel_rfl) ?_
  have q0 := KeptW.cell m0
  have q1 := KeptW.cell m1
  have q2 := KeptW.cell fk
  clear m0 m1 fk
  repeat first
    | go_big_quiet_skip
    | go_big_quiet_step (exact Calls.kept (doc_Steps p hp h _ (hT0.kept (Subtype.property _))))
  refine wpQuiet_nil ?_
  intro w1 B1
  clear q0 q1 q2 hws hK1 hsd
  have b31 := b3.kept B1
  have hT1 := hT0.kept B1
  have B10 := bOn B0 B1
  have gN := b31.load (off := 0) (n := 3) (cs' := n.cells) (Nat.le_refl _) (Array.extract_eq_self_of_le (Nat.le_refl _))
  go_wp2_with ((with_reducible apply ld); rfl; (with_reducible assumption); (simp only [List.set_cons_zero, List.set_cons_succ]; rfl))
  refine (doc_kid p hp h n hn 0 (by omega) (by omega) _ hT1).mono ?_
  rintro e w2 ⟨rfl, B2⟩
  clear gN
  obtain ⟨z, hz⟩ : ∃ z, z = p.kid n 0 := ⟨_, rfl⟩
  rw [← hz]
  have HZ := Lib.hid hz; clear hz
  have fz : Flat z.cells := nodeCells_flat _ _ _
  have bz := Box.new w2 #[.int .u32 0, .int .i64 0, .int .i64 0] 80
  go_upto_region 4 with ((with_reducible apply stO); rfl; rfl; exact bz; rfl; rfl; exact fz; intro w3 b6 B3 o3 s3)
  have B31 : Below w2.heap.size w2 w3 := ((Below.refl _ _).alloc (Nat.le_refl _) _).trans B3
  have B30 := bOn (bOn B10 B2) B31
  have b33 := (b31.kept B2).kept B31
  have hT3 := (hT1.kept B2).kept B31
  clear o3 s3 bz
  obtain ⟨fk, fr, flev, fl, fwin, fcode, ftable, fall⟩ := hT3.tree.prob hp
  clear fk fr flev fwin fcode ftable fall
  have m1 := b33.cell 1
  simp only [Nd.cells, nodeCells, List.getElem?_toArray, List.getElem?_cons_zero, List.getElem?_cons_succ] at m1
  by_cases hL : p.L ≤ n.d
  · have g3 : decide (p.L ≤ n.d) = true := by simpa using hL
    have e1 : p.kids n = [z] := by rw [HZ.out]; exact if_pos hL
    have e2 : p.kidBits n = [0] := if_pos hL
    have E1 := Lib.hid e1
    have E2 := Lib.hid e2
    clear e1 e2 hL
    refine wp_region_kept (by kernel_rfl) (by kernel_rfl) ?_
    have q1 := KeptW.cell m1
    have q2 := KeptW.cell fl
    clear m1 fl
    repeat first
      | go_big_quiet_skip
      | go_big_quiet_step (fail)
    refine wpQuiet_nil ?_
    intro w4 B4
    clear q1 q2
    have b64 := b6.kept B4
    have gz := b64.load (off := 0) (n := 3) (cs' := z.cells) (Nat.le_refl _) (Array.extract_eq_self_of_le (Nat.le_refl _))
    have B40 := bOn B30 B4
    go_wp2_with (first | ((with_reducible apply ld); rfl; (with_reducible assumption); (simp only [List.set_cons_zero, List.set_cons_succ]; rfl)) | ((with_reducible apply w_slice (d := 49) (cs := ndCells [z]) (e := 80)); ((simp only [List.map_toArray, List.map_cons, List.map_nil]); exact build_oneN z _)))
    go_ret2
    rw [E1.out, E2.out]
    have fin1 := (Box.new w4 (ndCells [z]) 80).alloc (.cells #[.int .u8 0] 5)
    have fin2 : Box ((w4.alloc (.cells (ndCells [z]) 80)).alloc (.cells #[.int .u8 0] 5)) (w4.heap.size + 1) #[.int .u8 0] := by simpa using Box.new (w4.alloc (.cells (ndCells [z]) 80)) #[.int .u8 0] 5
    have hsz := B40.size
    refine (show KidsPost _ _ _ _ _ from ⟨⟨w4.heap.size, w4.heap.size + 1, rfl, fin1, fin2, by omega, hsz, by omega⟩, B40.trans (((Below.refl _ _).alloc hsz _).alloc (by simp; omega) _)⟩)
  · have g3 : decide (p.L ≤ n.d) = false := by simpa using hL
    have e1 : p.kids n = p.twoK n := if_neg hL
    have e2 : p.kidBits n = p.twoB n := if_neg hL
    have E1 := Lib.hid e1
    have E2 := Lib.hid e2
    clear e1 e2 hL
    refine wp_region_kept (by kernel_rfl) (by kernel_rfl) ?_
    have q1 := KeptW.cell m1
    have q2 := KeptW.cell fl
    clear m1 fl
    repeat first
      | go_big_quiet_skip
      | go_big_quiet_step (fail)
    refine wpQuiet_nil ?_
    intro w4 B4
    clear q1 q2
    have b64 := b6.kept B4
    have b34 := b33.kept B4
    have hT4 := hT3.kept B4
    have gN := b34.load (off := 0) (n := 3) (cs' := n.cells) (Nat.le_refl _) (Array.extract_eq_self_of_le (Nat.le_refl _))
    have B40 := bOn B30 B4
    go_wp2_with ((with_reducible apply ld); rfl; (with_reducible assumption); (simp only [List.set_cons_zero, List.set_cons_succ]; rfl))
    refine (doc_kid p hp h n hn 1 (by omega) (by omega) _ hT4).mono ?_
    rintro e w5 ⟨rfl, B5⟩
    clear gN
    obtain ⟨o, ho⟩ : ∃ o, o = p.kid n 1 := ⟨_, rfl⟩
    rw [← ho]
    have HO := Lib.hid ho; clear ho
    have fo : Flat o.cells := nodeCells_flat _ _ _
    have bz := Box.new w5 #[.int .u32 0, .int .i64 0, .int .i64 0] 80
    go_upto_region 7 with ((with_reducible apply stO); rfl; rfl; exact bz; rfl; rfl; exact fo; intro w6 b7 B6 o6 s6)
    have B61 : Below w5.heap.size w5 w6 := ((Below.refl _ _).alloc (Nat.le_refl _) _).trans B6
    have B60 := bOn (bOn B40 B5) B61
    have b66 := (b64.kept B5).kept B61
    clear o6 s6 bz
    have mz := b66.cell 2
    have mo := b7.cell 2
    simp only [Nd.cells, nodeCells, List.getElem?_toArray, List.getElem?_cons_zero, List.getElem?_cons_succ] at mz mo
    have gz := b66.load (off := 0) (n := 3) (cs' := z.cells) (Nat.le_refl _) (Array.extract_eq_self_of_le (Nat.le_refl _))
    have go := b7.load (off := 0) (n := 3) (cs' := o.cells) (Nat.le_refl _) (Array.extract_eq_self_of_le (Nat.le_refl _))
    have hsz := B60.size
    by_cases hm : z.m < o.m
    · have g4 : decide (o.m ≤ z.m) = false := by simp; omega
      have e3 : p.twoK n = [z, o] := by unfold Pb.twoK; rw [← HZ.out, ← HO.out, if_pos hm]
      have e4 : p.twoB n = [0, 1] := by unfold Pb.twoB; rw [← HZ.out, ← HO.out, if_pos hm]
      have E3 := Lib.hid e3
      have E4 := Lib.hid e4
      clear e3 e4 hm
      go_upto_region 9 with (fail)
      clear mz mo
      go_wp2_with (first | ((with_reducible apply ld); rfl; (with_reducible assumption); (simp only [List.set_cons_zero, List.set_cons_succ]; rfl)) | ((with_reducible apply w_slice (d := 65) (cs := ndCells [z, o]) (e := 80)); ((simp only [List.map_toArray, List.map_cons, List.map_nil]); exact build_two z o _)))
      go_ret2
      rw [E1.out, E2.out, E3.out, E4.out]
      have fin1 := (Box.new w6 (ndCells [z, o]) 80).alloc (.cells #[.int .u8 0, .int .u8 1] 5)
      have fin2 : Box ((w6.alloc (.cells (ndCells [z, o]) 80)).alloc (.cells #[.int .u8 0, .int .u8 1] 5)) (w6.heap.size + 1) #[.int .u8 0, .int .u8 1] := by simpa using Box.new (w6.alloc (.cells (ndCells [z, o]) 80)) #[.int .u8 0, .int .u8 1] 5
      refine (show KidsPost _ _ _ _ _ from ⟨⟨w6.heap.size, w6.heap.size + 1, rfl, fin1, fin2, by omega, hsz, by omega⟩, B60.trans (((Below.refl _ _).alloc hsz _).alloc (by simp; omega) _)⟩)
    · have g4 : decide (o.m ≤ z.m) = true := by simp; omega
      have e3 : p.twoK n = [o, z] := by unfold Pb.twoK; rw [← HZ.out, ← HO.out, if_neg hm]
      have e4 : p.twoB n = [1, 0] := by unfold Pb.twoB; rw [← HZ.out, ← HO.out, if_neg hm]
      have E3 := Lib.hid e3
      have E4 := Lib.hid e4
      clear e3 e4 hm
      go_upto_region 8 with (fail)
      clear mz mo
      go_wp2_with (first | ((with_reducible apply ld); rfl; (with_reducible assumption); (simp only [List.set_cons_zero, List.set_cons_succ]; rfl)) | ((with_reducible apply w_slice (d := 61) (cs := ndCells [o, z]) (e := 80)); ((simp only [List.map_toArray, List.map_cons, List.map_nil]); exact build_two o z _)))
      go_ret2
      rw [E1.out, E2.out, E3.out, E4.out]
      have fin1 := (Box.new w6 (ndCells [o, z]) 80).alloc (.cells #[.int .u8 1, .int .u8 0] 5)
      have fin2 : Box ((w6.alloc (.cells (ndCells [o, z]) 80)).alloc (.cells #[.int .u8 1, .int .u8 0] 5)) (w6.heap.size + 1) #[.int .u8 1, .int .u8 0] := by simpa using Box.new (w6.alloc (.cells (ndCells [o, z]) 80)) #[.int .u8 1, .int .u8 0] 5
      refine (show KidsPost _ _ _ _ _ from ⟨⟨w6.heap.size, w6.heap.size + 1, rfl, fin1, fin2, by omega, hsz, by omega⟩, B60.trans (((Below.refl _ _).alloc hsz _).alloc (by simp; omega) _)⟩)
set_option maxRecDepth 5000 in
set_option maxHeartbeats 1000000 in
theorem doc_Kids_bare (p : Pb) (hp : p.Ok) (h : probChk p = 0) {tb g c : Nat} (n : Nd) (s0 : 0 ≤ n.s) (s1 : n.s < 4294967296) (hn : p.bare n) (w : World) (hT : DocIn w p tb g c) :
    Pure Try.prog 36 #[.pointer (some ⟨tb, 0, none⟩), .agg n.cells] w (.tuple #[.slice none 0 0, .slice none 0 0]) := by
  obtain ⟨⟨k1, k2⟩, l1, l2, cr, hwin, ⟨v1, v2⟩, hlev, hcc, htt⟩ := probChk_ok h
  clear cr hwin
  go_enter Try.func36, Try.ntmps36
  go_upto_region 1 with (fail)
  refine name1 ?_
  intro w0 b3 B0
  have hT0 := hT.kept B0
  obtain ⟨fk, fr, flev, fl, fwin, fcode, ftable, fall⟩ := hT0.tree.prob hp
  clear fr flev fl fwin fcode ftable fall
  have m0 := b3.cell 0
  have m1 := b3.cell 1
  simp only [Nd.cells, nodeCells, List.getElem?_toArray, List.getElem?_cons_zero, List.getElem?_cons_succ] at m0 m1
  have hws : IntKind.u64.wrap n.s = n.s := by
    simp only [IntKind.wrap, IntKind.bits, IntKind.signed]
    simp
    omega
  have hK1 : wrap64 (p.C.K - 1) = p.C.K - 1 := by unfold wrap64; omega
  by_cases c1 : n.d < 0
  · have g1 : decide (n.d < 0) = true := by simp; omega
    refine wp_region_kept (by kernel_rfl) (by kernel_rfl) ?_
    have q0 := KeptW.cell m0
    have q1 := KeptW.cell m1
    have q2 := KeptW.cell fk
    clear m0 m1 fk
    repeat first
      | go_big_quiet_skip
      | go_big_quiet_step (exact Calls.kept (doc_Steps p hp h _ (hT0.kept (Subtype.property _))))
    refine wpQuiet_nil ?_
    intro w1 B1
    clear q0 q1 q2 hws
    go_wp2
    go_ret2
    exact ⟨rfl, bOn B0 B1⟩
  have g1 : decide (n.d < 0) = false := by simp; omega
  by_cases c2 : p.N ≤ n.d
  · have g2 : decide (p.N ≤ n.d) = true := by simp; omega
    refine wp_region_kept (by kernel_rfl) (by kernel_rfl) ?_
    have q0 := KeptW.cell m0
    have q1 := KeptW.cell m1
    have q2 := KeptW.cell fk
    clear m0 m1 fk
    repeat first
      | go_big_quiet_skip
      | go_big_quiet_step (exact Calls.kept (doc_Steps p hp h _ (hT0.kept (Subtype.property _))))
    refine wpQuiet_nil ?_
    intro w1 B1
    clear q0 q1 q2 hws
    go_wp2
    go_ret2
    exact ⟨rfl, bOn B0 B1⟩
  have g2 : decide (p.N ≤ n.d) = false := by simp; omega
  have c3 : 2 ^ (p.C.K.toNat - 1) ≤ n.s := by rcases hn with h | h | h <;> first | exact h | omega
  have hpp : (0 : Int) < 2 ^ (p.C.K.toNat - 1) := Int.pow_pos (by decide)
  have hsd : 0 < n.s / 2 ^ (p.C.K.toNat - 1) := Int.lt_of_lt_of_le (by decide) (Int.le_ediv_of_mul_le (a := 1) hpp (by rw [Int.one_mul]; exact c3))
  obtain ⟨D, hD⟩ : ∃ D, n.s / 2 ^ (p.C.K.toNat - 1) = D := ⟨_, rfl⟩
  rw [hD] at hsd
  have g3 : decide (0 < D) = true := by simpa using hsd
  clear c1 c2 c3 hpp hsd
  refine wp_region_kept (by kernel_rfl) (by kernel_rfl) ?_
  have q0 := KeptW.cell m0
  have q1 := KeptW.cell m1
  have q2 := KeptW.cell fk
  clear m0 m1 fk
  repeat first
    | go_big_quiet_skip
    | go_big_quiet_step (exact Calls.kept (doc_Steps p hp h _ (hT0.kept (Subtype.property _))))
  refine wpQuiet_nil ?_
  intro w1 B1
  clear q0 q1 q2 hws
  go_wp2
  go_ret2
  exact ⟨rfl, bOn B0 B1⟩
end Go.Proofs.Ytkjnmjilkhigaaa

/- The walks of the document's Range and Count. -/
namespace Go.Proofs.Ytkjnmjilkhigaaa
open Go.RowKit

theorem ret_two {a b c d : Int} (h1 : a = c) (h2 : b = d) : Ending.returned (.tuple #[.int .i64 a, .int .i64 b]) = .returned (.tuple #[.int .i64 c, .int .i64 d]) := by rw [h1, h2]
/-- How many ways begin with the one to a node. -/
def Pb.ways (p : Pb) (dip : Int) : Nat → Nd → Int
  | 0, x => if x.m < dip then 0 else 1
  | f + 1, x => if x.m < dip then 0 else (p.kids x).foldl (fun c k => c + p.ways dip f k) 1
theorem foldl_ge {α : Type} {F : α → Int} : ∀ (l : List α) (v : Int), (∀ k ∈ l, 0 ≤ F k) → v ≤ l.foldl (fun c k => c + F k) v
  | [], v, _ => Int.le_refl _
  | a :: l, v, h => by
    have h1 := h a (by simp)
    have := foldl_ge l (v + F a) (fun k hk => h k (by simp [hk]))
    simp only [List.foldl_cons]
    omega
theorem Pb.ways_nonneg (p : Pb) (dip : Int) : ∀ (f : Nat) (x : Nd), 0 ≤ p.ways dip f x
  | 0, x => by unfold Pb.ways; split <;> omega
  | f + 1, x => by
    unfold Pb.ways
    split
    · omega
    · have := foldl_ge (p.kids x) (F := p.ways dip f) 1 (fun k _ => p.ways_nonneg dip f k)
      omega
/-- What is counted up to a bound. -/
theorem foldl_look {α : Type} {G : α → Int → Int} {F : α → Int} {M : Int} : ∀ (l : List α) (v : Int), (∀ k ∈ l, 0 ≤ F k) → (∀ k ∈ l, ∀ c, c ≤ M → G k c = min M (c + F k)) → v ≤ M → l.foldl (fun c k => G k c) v = min M (l.foldl (fun c k => c + F k) v)
  | [], v, _, _, h => by simp only [List.foldl_nil]; omega
  | a :: l, v, hF, h, hv => by
    simp only [List.foldl_cons]
    rw [h a (by simp) v hv, foldl_look l _ (fun k hk => hF k (by simp [hk])) (fun k hk => h k (by simp [hk])) (by omega)]
    by_cases hc : v + F a ≤ M
    · rw [show min M (v + F a) = v + F a by omega]
    · rw [show min M (v + F a) = M by omega]
      have h1 := foldl_ge l M (F := F) (fun k hk => hF k (by simp [hk]))
      have h2 := foldl_ge l (v + F a) (F := F) (fun k hk => hF k (by simp [hk]))
      omega
theorem Pb.look_eq (p : Pb) (dip M : Int) : ∀ (f : Nat) (x : Nd) (v : Int), v ≤ M → p.look dip M f x v = min M (v + p.ways dip f x)
  | 0, x, v, h => by
    unfold Pb.look Pb.ways
    by_cases h1 : x.m < dip
    · rw [if_pos (.inr h1), if_pos h1]; omega
    · by_cases h2 : M ≤ v
      · rw [if_pos (.inl h2), if_neg h1]; omega
      · rw [if_neg (by omega), if_neg h1]; omega
  | f + 1, x, v, h => by
    unfold Pb.look Pb.ways
    by_cases h1 : x.m < dip
    · rw [if_pos (.inr h1), if_pos h1]; omega
    · rw [if_neg h1]
      have hs : ∀ (l : List Nd) (a b : Int), l.foldl (fun c k => c + p.ways dip f k) (a + b) = a + l.foldl (fun c k => c + p.ways dip f k) b := fun l => by
        induction l with
        | nil => intro a b; rfl
        | cons k l ih => intro a b; simp only [List.foldl_cons]; rw [Int.add_assoc, ih]
      have hg := foldl_ge (p.kids x) 1 (F := p.ways dip f) (fun k _ => p.ways_nonneg dip f k)
      by_cases h2 : M ≤ v
      · rw [if_pos (.inl h2)]; omega
      · rw [if_neg (by omega), foldl_look (p.kids x) (v + 1) (fun k _ => p.ways_nonneg dip f k) (fun k _ c hc => p.look_eq dip M f k c hc) (by omega), hs]
/-- Of the count: what it comes to. -/
theorem Pb.count_eq (p : Pb) (dip most : Int) : p.count dip most = if most < 1 then 0 else min (min most 1048577) (p.ways dip p.N.toNat ⟨0, 0, 0⟩) := by
  unfold Pb.count
  by_cases h : most < 1
  · rw [if_pos h]
    have hm : min most 1048577 ≤ 0 := by omega
    generalize min most 1048577 = M at hm ⊢
    cases p.N.toNat with
    | zero => unfold Pb.look; rw [if_pos (.inl hm)]
    | succ f => unfold Pb.look; rw [if_pos (.inl hm)]
  · rw [if_neg h, p.look_eq _ _ _ _ _ (by omega), Int.zero_add]
end Go.Proofs.Ytkjnmjilkhigaaa

/- The walk of the statement that fewer ways stay above a higher line. -/
namespace Go.Proofs.Ytkjnmjilkhigaaa
open Go.RowKit

theorem foldl_mono {α : Type} {F G : α → Int} : ∀ (l : List α) (u v : Int), (∀ k ∈ l, F k ≤ G k) → u ≤ v → l.foldl (fun c k => c + F k) u ≤ l.foldl (fun c k => c + G k) v
  | [], u, v, _, h => h
  | a :: l, u, v, h, huv => by
    have h1 := h a (by simp)
    simp only [List.foldl_cons]
    exact foldl_mono l _ _ (fun k hk => h k (by simp [hk])) (by omega)
theorem Pb.ways_anti (p : Pb) {dip dip' : Int} (hd : dip ≤ dip') : ∀ (f : Nat) (x : Nd), p.ways dip' f x ≤ p.ways dip f x
  | 0, x => by unfold Pb.ways; split <;> split <;> omega
  | f + 1, x => by
    have h0 := foldl_ge (p.kids x) (F := p.ways dip f) 1 (fun k _ => p.ways_nonneg dip f k)
    have h1 := foldl_mono (p.kids x) (F := p.ways dip' f) (G := p.ways dip f) 1 1 (fun k _ => p.ways_anti hd f k) (Int.le_refl _)
    unfold Pb.ways
    split <;> split <;> omega
theorem Pb.ways_pos (p : Pb) (dip : Int) (f : Nat) (x : Nd) : (0 < p.ways dip f x) ↔ dip ≤ x.m := by
  cases f with
  | zero => unfold Pb.ways; split <;> omega
  | succ f =>
    have h0 := foldl_ge (p.kids x) (F := p.ways dip f) 1 (fun k _ => p.ways_nonneg dip f k)
    unfold Pb.ways
    split <;> omega
theorem Pb.count_anti (p : Pb) {dip dip' : Int} (hd : dip ≤ dip') (most : Int) : p.count dip' most ≤ p.count dip most := by
  have := p.ways_anti hd p.N.toNat ⟨0, 0, 0⟩
  rw [p.count_eq, p.count_eq]
  split <;> omega
theorem Pb.count_le (p : Pb) (dip : Int) {most : Int} (h : 0 ≤ most) : p.count dip most ≤ most ∧ 0 ≤ p.count dip most := by
  have := p.ways_nonneg dip p.N.toNat ⟨0, 0, 0⟩
  rw [p.count_eq]
  split <;> omega
theorem Pb.count_up (p : Pb) (dip : Int) {most : Int} : p.count dip most ≤ p.count dip (most + 1) := by
  have := p.ways_nonneg dip p.N.toNat ⟨0, 0, 0⟩
  rw [p.count_eq, p.count_eq]
  split <;> split <;> omega
theorem Pb.count_pos (p : Pb) (dip : Int) {most : Int} (h : 1 ≤ most) : decide (0 < p.count dip most) = decide (dip ≤ 0) := by
  have := p.ways_pos dip p.N.toNat ⟨0, 0, 0⟩
  rw [p.count_eq, if_neg (by omega)]
  apply decide_eq_decide.2
  simp only at this
  omega
theorem tmod300 (m : Int) : 0 ≤ (wrap64 (m.tmod 300 + 300)).tmod 300 ∧ (wrap64 (m.tmod 300 + 300)).tmod 300 ≤ 299 := by
  have h1 : -300 < m.tmod 300 ∧ m.tmod 300 < 300 := by
    refine ⟨?_, Int.tmod_lt_of_pos _ (by omega)⟩
    have := Int.tmod_lt_of_pos (-m) (b := 300) (by omega)
    rw [Int.neg_tmod] at this
    omega
  have h2 : wrap64 (m.tmod 300 + 300) = m.tmod 300 + 300 := by unfold wrap64; omega
  rw [h2, Int.tmod_eq_emod_of_nonneg (by omega)]
  omega
end Go.Proofs.Ytkjnmjilkhigaaa

/- Laws: a complete path is a way of the tree. No walk. -/
namespace Go.Proofs.Ytkjnmjilkhigaaa
open Go.RowKit

/-- The node of a path, so many steps from the root. -/
def Pb.nd (p : Pb) (bs : List Nat) (i : Nat) : Nd := ⟨p.st bs i, i, p.psum ((p.pathL bs).take i)⟩
theorem Pb.nd_zero (p : Pb) (bs : List Nat) : p.nd bs 0 = ⟨0, 0, 0⟩ := rfl
theorem Pb.N_le {p : Pb} (h : probChk p = 0) : 3 ≤ p.N ∧ p.N ≤ 1055 := by
  obtain ⟨⟨k1, k2⟩, l1, l2, _⟩ := probChk_ok h
  unfold Pb.N; omega
theorem Pb.nd_bd {p : Pb} (h : probChk p = 0) (bs : List Nat) (i : Nat) : -12288 * 1055 ≤ (p.nd bs i).m ∧ (p.nd bs i).m ≤ 12288 * 1055 := by
  have h1 := p.psum_bd h ((p.pathL bs).take i)
  have h2 : ((p.pathL bs).take i).length ≤ 1055 := by
    have := p.pathL_len bs
    have := Pb.N_le h
    rw [List.length_take]; omega
  show -12288 * 1055 ≤ p.psum ((p.pathL bs).take i) ∧ p.psum ((p.pathL bs).take i) ≤ 12288 * 1055
  omega
theorem Pb.nd_succ {p : Pb} (h : probChk p = 0) (bs : List Nat) {i : Nat} (hi : i < p.N.toNat) : p.kid (p.nd bs i) (p.bit bs i) = p.nd bs (i + 1) := by
  have h1 := p.nd_bd h bs (i + 1)
  have e1 : p.psum ((p.pathL bs).take (i + 1)) = p.psum ((p.pathL bs).take i) + p.br i (p.reg bs i) := by
    rw [Pb.pathL_take hi, p.psum_snoc]
  have e2 : (p.nd bs (i + 1)).m = p.psum ((p.pathL bs).take i) + p.br i (p.reg bs i) := e1
  rw [e2] at h1
  unfold Pb.kid Pb.nd
  congr 1
  rw [e1]
  show wrap64 (p.psum ((p.pathL bs).take i) + p.br (i : Int).toNat (p.reg bs i)) = _
  rw [Int.toNat_natCast]
  unfold wrap64; omega
theorem Pb.nd_in {p : Pb} (bs : List Nat) {i : Nat} (hi : (i : Int) < p.N) : p.In (p.nd bs i) := by
  obtain ⟨h1, h2⟩ := p.st_in bs i
  exact ⟨h1, h2, Int.natCast_nonneg _, hi⟩
/-- Behind the information the bit is 0; ahead of it both may come. -/
theorem Pb.nd_mem {p : Pb} (h : probChk p = 0) {bs : List Nat} (hb : p.Path bs) {i : Nat} (hi : i < p.N.toNat) : p.nd bs (i + 1) ∈ p.kids (p.nd bs i) := by
  rw [← Pb.nd_succ h bs hi]
  unfold Pb.kids
  by_cases hL : p.L ≤ (p.nd bs i).d
  · rw [if_pos hL]
    have hz : p.bit bs i = 0 := if_neg (by show ¬ (i : Int) < p.L; have : (p.nd bs i).d = i := rfl; omega)
    rw [hz]
    exact List.mem_singleton.2 rfl
  · rw [if_neg hL]
    have hb2 := Pb.bit_lt hb i
    unfold Pb.twoK
    rcases (by omega : p.bit bs i = 0 ∨ p.bit bs i = 1) with e | e <;> rw [e] <;> split <;> simp
theorem foldl_mem {α : Type} {F : α → Int} : ∀ (l : List α) (v : Int) (a : α), (∀ k ∈ l, 0 ≤ F k) → a ∈ l → v + F a ≤ l.foldl (fun c k => c + F k) v
  | x :: l, v, a, h, ha => by
    have hx := h x (by simp)
    simp only [List.foldl_cons]
    rcases List.mem_cons.1 ha with rfl | ha
    · exact foldl_ge l _ (fun k hk => h k (by simp [hk]))
    · have := foldl_mem l (v + F x) a (fun k hk => h k (by simp [hk])) ha
      omega
theorem Pb.ways_path {p : Pb} (h : probChk p = 0) {bs : List Nat} (hb : p.Path bs) {dip : Int} (hd : ∀ i, i ≤ p.N.toNat → dip ≤ (p.nd bs i).m) : ∀ (f i : Nat), i + f = p.N.toNat → (f : Int) + 1 ≤ p.ways dip f (p.nd bs i)
  | 0, i, hi => by
    have := hd i (by omega)
    unfold Pb.ways
    rw [if_neg (by omega)]
    omega
  | f + 1, i, hi => by
    have h0 := hd i (by omega)
    have ih := p.ways_path h hb hd f (i + 1) (by omega)
    have hm := foldl_mem (p.kids (p.nd bs i)) (F := p.ways dip f) 1 _ (fun k _ => p.ways_nonneg dip f k) (Pb.nd_mem h hb (i := i) (by omega))
    unfold Pb.ways
    rw [if_neg (by omega)]
    omega
theorem Pb.count_path {p : Pb} (h : probChk p = 0) {bs : List Nat} (hb : p.Path bs) : p.count (dipOf (p.pm bs)) (p.N + 1) = p.N + 1 := by
  obtain ⟨h3, hN⟩ := Pb.N_le h
  obtain ⟨_, hd, _⟩ := p.pm_dip bs
  have h1 := p.ways_path h hb (dip := dipOf (p.pm bs)) (fun i hi => hd i _ (p.pm_get bs hi)) p.N.toNat 0 (by omega)
  rw [p.nd_zero] at h1
  rw [p.count_eq, if_neg (by omega)]
  omega
/-- The path ends in the state 0. -/
theorem Pb.st_tail (p : Pb) (bs : List Nat) : ∀ j : Nat, p.st bs (p.L.toNat + j) = (2 ^ j * p.st bs p.L.toNat) % 2 ^ (p.C.K.toNat - 1)
  | 0 => by
    have := p.st_in bs p.L.toNat
    rw [Nat.add_zero, Int.pow_zero, Int.one_mul, Int.emod_eq_of_lt this.1 this.2]
  | j + 1 => by
    have hz : p.bit bs (p.L.toNat + j) = 0 := if_neg (by omega)
    show (2 * p.st bs (p.L.toNat + j) + p.bit bs (p.L.toNat + j)) % 2 ^ (p.C.K.toNat - 1) = _
    rw [hz, p.st_tail bs j, Int.natCast_zero, Int.add_zero, Int.mul_emod, Int.emod_emod_of_dvd _ (Int.dvd_refl _), ← Int.mul_emod, Int.pow_succ, ← Int.mul_assoc, Int.mul_comm 2 (2 ^ j)]
theorem Pb.st_end {p : Pb} (h : probChk p = 0) (bs : List Nat) : p.st bs p.N.toNat = 0 := by
  obtain ⟨⟨k1, k2⟩, l1, l2, _⟩ := probChk_ok h
  have e : p.N.toNat = p.L.toNat + (p.C.K.toNat - 1) := by unfold Pb.N; omega
  rw [e, p.st_tail bs, Int.mul_emod_right]
/-! ### The range of a tree's metrics -/
theorem Tb.loRow_le (t : Tb) (k : Nat) (a : Int) : ∀ r, t.loRow k a r ≤ a ∧ ∀ j, j < r → t.loRow k a r ≤ t.m k j
  | 0 => ⟨Int.le_refl _, fun j hj => by omega⟩
  | r + 1 => by
    obtain ⟨h1, h2⟩ := t.loRow_le k a r
    simp only [Tb.loRow]
    refine ⟨by omega, fun j hj => ?_⟩
    rcases Nat.lt_succ_iff_lt_or_eq.1 hj with h | rfl
    · have := h2 j h; omega
    · omega
theorem Tb.hiRow_ge (t : Tb) (k : Nat) (a : Int) : ∀ r, a ≤ t.hiRow k a r ∧ ∀ j, j < r → t.m k j ≤ t.hiRow k a r
  | 0 => ⟨Int.le_refl _, fun j hj => by omega⟩
  | r + 1 => by
    obtain ⟨h1, h2⟩ := t.hiRow_ge k a r
    simp only [Tb.hiRow]
    refine ⟨by omega, fun j hj => ?_⟩
    rcases Nat.lt_succ_iff_lt_or_eq.1 hj with h | rfl
    · have := h2 j h; omega
    · omega
theorem Tb.lo_le (t : Tb) {b r : Nat} (hb : b < 2) (hr : r < t.lev.toNat) : t.lo ≤ t.m b r ∧ t.m b r ≤ t.hi := by
  have a0 := (t.loRow_le 0 (t.loK 0) t.lev.toNat)
  have a1 := (t.loRow_le 1 (t.loK 1) t.lev.toNat)
  have c0 := (t.hiRow_ge 0 (t.hiK 0) t.lev.toNat)
  have c1 := (t.hiRow_ge 1 (t.hiK 1) t.lev.toNat)
  have e1 : t.lo = t.loRow 1 (t.loK 1) t.lev.toNat := rfl
  have e2 : t.loK 1 = t.loRow 0 (t.loK 0) t.lev.toNat := rfl
  have e3 : t.hi = t.hiRow 1 (t.hiK 1) t.lev.toNat := rfl
  have e4 : t.hiK 1 = t.hiRow 0 (t.hiK 0) t.lev.toNat := rfl
  rcases (by omega : b = 0 ∨ b = 1) with rfl | rfl
  · have := a0.2 r hr
    have := c0.2 r hr
    omega
  · have := a1.2 r hr
    have := c1.2 r hr
    omega
theorem brS_range {t : Tb} {y : Nat → Nat} {ls : List Nat} (hy : ∀ j, y j < 2) : ∀ k : Nat, k ≤ ls.length → (∀ x ∈ ls, x < t.lev.toNat) → (k : Int) * t.lo ≤ brS t y ls k ∧ brS t y ls k ≤ (k : Int) * t.hi
  | 0, _, _ => by simp [brS]
  | k + 1, hk, hl => by
    obtain ⟨h1, h2⟩ := brS_range hy k (by omega) hl
    have hx : ls.getD k 0 < t.lev.toNat := by
      rw [List.getD_eq_getElem?_getD, List.getElem?_eq_getElem (by omega)]
      exact hl _ (List.getElem_mem _)
    obtain ⟨h3, h4⟩ := t.lo_le (hy k) hx
    unfold brS
    have e1 : ((k + 1 : Nat) : Int) * t.lo = k * t.lo + t.lo := by push_cast; rw [Int.add_mul, Int.one_mul]
    have e2 : ((k + 1 : Nat) : Int) * t.hi = k * t.hi + t.hi := by push_cast; rw [Int.add_mul, Int.one_mul]
    omega
theorem Pb.br_range {p : Pb} (h : probChk p = 0) {d : Nat} (hd : (d : Int) < p.N) (v : Nat) : p.C.R * p.T.lo ≤ p.br d v ∧ p.br d v ≤ p.C.R * p.T.hi := by
  obtain ⟨⟨k1, k2⟩, l1, l2, cr, hwin, ⟨v1, v2⟩, hlev, hcc, htt⟩ := probChk_ok h
  have hlen := Pb.lv_len h hd
  have := brS_range (t := p.T) (ls := p.lv d) (p.C.y_lt v) p.C.R.toNat (by omega) (fun x hx => by
    have := hlev x (List.mem_of_mem_drop (List.mem_of_mem_take hx))
    omega)
  have e : ((p.C.R.toNat : Nat) : Int) = p.C.R := by omega
  rw [e] at this
  exact this
theorem Pb.nd_range0 {p : Pb} (h : probChk p = 0) (bs : List Nat) : ∀ i : Nat, i ≤ p.N.toNat → (i : Int) * (p.C.R * p.T.lo) ≤ (p.nd bs i).m ∧ (p.nd bs i).m ≤ (i : Int) * (p.C.R * p.T.hi)
  | 0, _ => by rw [p.nd_zero]; simp
  | i + 1, hi => by
    obtain ⟨h1, h2⟩ := Pb.nd_range0 h bs i (by omega)
    obtain ⟨h3, h4⟩ := Pb.br_range h (d := i) (by omega) (p.reg bs i)
    have e0 : (p.nd bs (i + 1)).m = (p.nd bs i).m + p.br i (p.reg bs i) := by
      show p.psum ((p.pathL bs).take (i + 1)) = p.psum ((p.pathL bs).take i) + _
      rw [Pb.pathL_take (by omega), p.psum_snoc]
    have e1 : ((i + 1 : Nat) : Int) * (p.C.R * p.T.lo) = i * (p.C.R * p.T.lo) + p.C.R * p.T.lo := by push_cast; rw [Int.add_mul, Int.one_mul]
    have e2 : ((i + 1 : Nat) : Int) * (p.C.R * p.T.hi) = i * (p.C.R * p.T.hi) + p.C.R * p.T.hi := by push_cast; rw [Int.add_mul, Int.one_mul]
    omega
theorem mul_le_max {i n x : Int} (h0 : 0 ≤ i) (h1 : i ≤ n) : min (n * x) 0 ≤ i * x ∧ i * x ≤ max (n * x) 0 := by
  by_cases hx : 0 ≤ x
  · have a := Int.mul_le_mul_of_nonneg_right h1 hx
    have b := Int.mul_nonneg h0 hx
    omega
  · have a := Int.mul_le_mul_of_nonpos_right h1 (by omega : x ≤ 0)
    have b := Int.mul_nonneg h0 (by omega : 0 ≤ -x)
    rw [Int.mul_neg] at b
    omega
theorem Pb.nd_range {p : Pb} (h : probChk p = 0) (bs : List Nat) {i : Nat} (hi : i ≤ p.N.toNat) : min (p.C.R * p.N * p.T.lo) 0 ≤ (p.nd bs i).m ∧ (p.nd bs i).m ≤ max (p.C.R * p.N * p.T.hi) 0 := by
  obtain ⟨h1, h2⟩ := Pb.nd_range0 h bs i hi
  obtain ⟨h3, hN⟩ := Pb.N_le h
  have a := (mul_le_max (i := i) (n := p.N) (x := p.C.R * p.T.lo) (Int.natCast_nonneg _) (by omega)).1
  have b := (mul_le_max (i := i) (n := p.N) (x := p.C.R * p.T.hi) (Int.natCast_nonneg _) (by omega)).2
  rw [Int.mul_comm p.C.R p.N, Int.mul_assoc, Int.mul_assoc]
  omega
theorem lw_bit {p : Pb} {A : List Nat} {j : Nat} (h : (j : Int) < p.L) (hl : j < A.length) : A[j] = p.bit A j := by
  unfold Pb.bit
  rw [if_pos h, List.getD_eq_getElem?_getD, List.getElem?_eq_getElem hl]
  rfl
theorem lw_but {w w' : World} {b : Nat} (hs : w'.heap.size = w.heap.size) (ho : ∀ k, k ≠ b → w'.heap[k]? = w.heap[k]?) (hB : Below b w w') : But b w w' := ⟨hB.os, hB.tape, hB.output, Nat.le_of_eq hs.symm, fun k _ hk => ho k hk⟩
end Go.Proofs.Ytkjnmjilkhigaaa
