/- outpostlaw18.FanodecPieces: two pieces are as one. -/
import Derived.Test.YtkjnmjilkhigaaaLDecodes
import Derived.Test.YtkjnmjilkhigaaaTreeE
set_option linter.unusedSimpArgs false
set_option linter.unusedVariables false
set_option linter.unnecessarySimpa false
namespace Go.Proofs.Ytkjnmjilkhigaaa
open Go.RowKit

theorem Hu.size {u : Hu} (hp : u.p.Ok) (vw vb vp : Value) : (u.cells vw vb vp).size = 43 := by simp [Hu.cells, hp.size]
theorem Hu.prob {u : Hu} (hp : u.p.Ok) (vw vb vp : Value) : (u.cells vw vb vp).extract 0 40 = u.p.cells vw := by
  unfold Hu.cells
  have h := hp.size vw
  have : (u.p.cells vw ++ #[.int .i64 u.D, vb, vp]).extract 0 (u.p.cells vw).size = (u.p.cells vw).extract := Array.extract_append_left
  rw [h] at this
  rw [this]
  exact Array.extract_eq_self_of_le (by omega)
theorem Hu.c40 {u : Hu} (hp : u.p.Ok) (vw vb vp : Value) : (u.cells vw vb vp)[40]? = some (.int .i64 u.D) := by
  unfold Hu.cells
  rw [Array.getElem?_append_right (by rw [hp.size]; omega), hp.size]
  rfl
theorem Hu.c41 {u : Hu} (hp : u.p.Ok) (vw vb vp : Value) : (u.cells vw vb vp)[41]? = some vb := by
  unfold Hu.cells
  rw [Array.getElem?_append_right (by rw [hp.size]; omega), hp.size]
  rfl
theorem Hu.c42 {u : Hu} (hp : u.p.Ok) (vw vb vp : Value) : (u.cells vw vb vp)[42]? = some vp := by
  unfold Hu.cells
  rw [Array.getElem?_append_right (by rw [hp.size]; omega), hp.size]
  rfl
theorem pure_ld {P : Program} {a : Act} {w : World} {d t n b off : Nat} {x : Operand} {v : Value} {ty : TypeId} {ps : String} {af : Array Edge} {gd : Option (Nat × Bool)} (hx : a.eval x = .pointer (some ⟨b, off, none⟩)) [T : AggTy P t n] (hl : loadAgg w b off n = .ok v w) :
    (execOp a.eval ⟨some d, .load t x, ty, ps, af, gd⟩).run P w = .ok (.value v) w := by
  obtain ⟨d, h1, h2, h3⟩ := T.out
  have := run_loadVar_agg (P := P) (w := w) (b := b) (off := off) h1 h2 h3 (by rw [hl]; rfl)
  unfold execOp
  simp only [hx, Instr.loadAt, Instr.sureAddr, Sem.run_bind, Sem.run_pure, Result.andThen_ok, this, hl]
set_option maxRecDepth 5000 in
theorem law18_PiecesBad (u : Hu) (a ab ap : Option Addr) (c cb cp : Nat) (hu : u.Ok) (x : Int) (hx0 : -9223372036854775808 ≤ x) (hx1 : x ≤ 9223372036854775807) (y : Int) (hy0 : -9223372036854775808 ≤ y) (hy1 : y ≤ 9223372036854775807) (hbad : x < 0 ∨ y < 0 ∨ 1048576 < x ∨ 1048576 - x < y) (w : World) (hw : u.At w a ab ap) :
    Pure Try.prog 9 #[.agg (u.v a ab ap c cb cp), .int .i64 x, .int .i64 y] w (.bool true) := by
  by_cases h1 : x < 0
  · have t1 : decide (x < 0) = true := by simpa using h1
    clear hbad
    go_enter Try.func9, Try.ntmps9
    go_upto_region 1 with fail
    refine name1 ?_
    intro w0 b0 B0
    have hw0 := hw.kept B0
    go_upto_region 2 with fail
    go_wp2_with fail
    refine (o18_live w0).mono ?_
    rintro e w1 ⟨rfl, B1⟩
    go_wp2
    go_ret
    exact ⟨rfl, bOn B0 B1⟩
  by_cases h2 : y < 0
  · have t1 : decide (x < 0) = false := by simpa using h1
    have t2 : decide (y < 0) = true := by simpa using h2
    clear hbad
    go_enter Try.func9, Try.ntmps9
    go_upto_region 1 with fail
    refine name1 ?_
    intro w0 b0 B0
    have hw0 := hw.kept B0
    go_upto_region 2 with fail
    go_wp2_with fail
    refine (o18_live w0).mono ?_
    rintro e w1 ⟨rfl, B1⟩
    go_wp2
    go_ret
    exact ⟨rfl, bOn B0 B1⟩
  by_cases h3 : 1048576 < x
  · have t1 : decide (x < 0) = false := by simpa using h1
    have t2 : decide (y < 0) = false := by simpa using h2
    have t3 : decide (1048576 < x) = true := by simpa using h3
    clear hbad
    go_enter Try.func9, Try.ntmps9
    go_upto_region 1 with fail
    refine name1 ?_
    intro w0 b0 B0
    have hw0 := hw.kept B0
    go_upto_region 2 with fail
    go_wp2_with fail
    refine (o18_live w0).mono ?_
    rintro e w1 ⟨rfl, B1⟩
    go_wp2
    go_ret
    exact ⟨rfl, bOn B0 B1⟩
  · have t1 : decide (x < 0) = false := by simpa using h1
    have t2 : decide (y < 0) = false := by simpa using h2
    have t3 : decide (1048576 < x) = false := by simpa using h3
    have t4 : decide (1048576 - x < y) = true := by simp; omega
    clear hbad
    go_enter Try.func9, Try.ntmps9
    go_upto_region 1 with fail
    refine name1 ?_
    intro w0 b0 B0
    have hw0 := hw.kept B0
    go_upto_region 2 with fail
    go_wp2_with fail
    refine (o18_live w0).mono ?_
    rintro e w1 ⟨rfl, B1⟩
    go_wp2
    go_ret
    exact ⟨rfl, bOn B0 B1⟩
theorem fano_New_no (p : Pb) (D : Int) (hp : p.Ok) (h : ¬(probChk p = 0 ∧ 1 ≤ D ∧ D ≤ 65536)) : ∃ E : Int, E ≠ 0 ∧ ∀ (a : Option Addr) (cap : Nat) (w : World), Bytes w a p.B →
    Pure Try.prog 27 #[.agg (p.cells (.slice a p.B.length cap)), .int .i64 D] w (.tuple #[.pointer none, .int .i64 E]) := by
  by_cases hc : probChk p = 0
  · exact ⟨140, by decide, fun a cap w hw => fano_New_delta p a cap D (by omega) hp hc w hw⟩
  · exact ⟨probChk p, hc, fun a cap w hw => fano_New_bad p a cap D hp hc w hw⟩
/-- What of two machines stays apart when the one's way moves. -/
theorem FA.apart_way {A B : FA} {g c n : Nat} (h : ∀ k, A.has k → ¬ B.has k) (hn : ∀ k, B.has k → k < n) (hg : g = A.way ∨ n ≤ g) : ∀ k, ({ A with way := g, cap := c } : FA).has k → ¬ B.has k := by
  intro k hk hb
  rcases hk with h1 | h1 | h1 | h1 | h1 | h1 | h1
  · exact h k (.inl h1) hb
  · have h1' : k = g := h1
    rcases hg with hg | hg
    · exact h k (.inr (.inl (h1'.trans hg))) hb
    · have := hn k hb; omega
  · exact h k (.inr (.inr (.inl h1))) hb
  · exact h k (.inr (.inr (.inr (.inl h1)))) hb
  · exact h k (.inr (.inr (.inr (.inr (.inl h1))))) hb
  · exact h k (.inr (.inr (.inr (.inr (.inr (.inl h1)))))) hb
  · exact h k (.inr (.inr (.inr (.inr (.inr (.inr h1)))))) hb
theorem FA.wr_has {A : FA} {k : Nat} (h : A.wr k) : A.has k := by rcases h with h | h; exact .inl h; exact .inr (.inl h)
set_option maxRecDepth 5000 in
set_option maxHeartbeats 2000000 in
theorem law18_Pieces (u : Hu) (a ab ap : Option Addr) (c cb cp : Nat) (hu : u.Ok) (hB : u.p.B.length ≤ 140737488351232) (x : Int) (hx0 : -9223372036854775808 ≤ x) (hx1 : x ≤ 9223372036854775807) (y : Int) (hy0 : -9223372036854775808 ≤ y) (hy1 : y ≤ 9223372036854775807) (w : World) (hw : u.At w a ab ap) :
    Pure Try.prog 9 #[.agg (u.v a ab ap c cb cp), .int .i64 x, .int .i64 y] w (.bool true) := by
  by_cases hbad : x < 0 ∨ y < 0 ∨ 1048576 < x ∨ 1048576 - x < y
  · exact law18_PiecesBad u a ab ap c cb cp hu x hx0 hx1 y hy0 hy1 hbad w hw
  · obtain ⟨x, rfl⟩ : ∃ n : Nat, x = (n : Int) := ⟨x.toNat, by omega⟩
    obtain ⟨y, rfl⟩ : ∃ n : Nat, y = (n : Int) := ⟨y.toNat, by omega⟩
    have hbx : x ≤ 1048576 := by omega
    have hby : y ≤ 1048576 := by omega
    have hbxy : x + y ≤ 1048576 := by omega
    go_enter Try.func9, Try.ntmps9
    go_upto_region 1 with fail
    refine name1 ?_
    intro w0 b0 B0
    have hw0 := hw.kept B0
    have t1 : decide ((x : Int) < 0) = false := by simp
    have t2 : decide ((y : Int) < 0) = false := by simp
    have t3 : decide (1048576 < (x : Int)) = false := by simp; omega
    have t4 : decide (wrap64 (1048576 - (x : Int)) < (y : Int)) = false := by rw [show wrap64 (1048576 - (x : Int)) = 1048576 - (x : Int) by unfold wrap64; omega]; simp; omega
    go_upto_region 3 with fail
    (refine wp_region_treeI (fun W => Box W w.heap.size (u.v a ab ap c cb cp)) 10 (.pure 0 (.pure 3 (.pure 1 (.pure 4 (.one 2 (.one 5 (.pure 6 (.pure 7 (.pure 8 (.one 9 (.one 10 .nil))))))))))) (by kernel_rfl) (by kernel_rfl) ?_; simp only [List.getD_cons_zero, List.getD_cons_succ, wpOTI])
    intro w1 B1
    have b1 := b0.kept B1
    have hw1 := hw0.kept B1
    have ldp : ∀ W : World, Box W w.heap.size (u.v a ab ap c cb cp) → loadAgg W w.heap.size 0 40 = .ok (.agg (u.p.cells (.slice a u.p.B.length c))) W := fun W h => h.load (by rw [Hu.v, Hu.size hu.p]; omega) (Hu.prob hu.p _ _ _)
    have ldd : ∀ W : World, Box W w.heap.size (u.v a ab ap c cb cp) → W.cell? ⟨w.heap.size, 40, none⟩ = some (.int .i64 u.D) := fun W h => by rw [h.cell]; exact Hu.c40 hu.p _ _ _
    refine ⟨fun _ => b1, _, fun W hI => by go_simp; first | done | rfl, ?_⟩
    try simp only [put_list, List.set_cons_zero, List.set_cons_succ]
    refine ⟨fun _ => b1, _, fun W hI => by go_simp; first | done | rfl, ?_⟩
    try simp only [put_list, List.set_cons_zero, List.set_cons_succ]
    refine ⟨fun _ => b1, .agg (u.p.cells (.slice a u.p.B.length c)), fun W hI => pure_ld rfl (ldp W hI), ?_⟩
    try simp only [put_list, List.set_cons_zero, List.set_cons_succ]
    refine ⟨fun _ => b1, .int .i64 u.D, fun W hI => by have c := ldd W hI; go_simp, ?_⟩
    try simp only [put_list, List.set_cons_zero, List.set_cons_succ]
    refine ⟨fun _ => b1, ?_⟩
    go_wp2_with fail
    refine (o18_own u.p a c hu.p hB w1 hw1.win).mono ?_
    rintro e w2 ⟨⟨g2, c2, rfl, o2⟩, B2⟩
    have b2 := b1.kept B2
    have hw2 := hw1.kept B2
    go_wp2_with fail
    by_cases hgood : probChk u.p = 0 ∧ 1 ≤ u.D ∧ u.D ≤ 65536
    · obtain ⟨hc, hD1, hD2⟩ := hgood
      refine (fano_New u.p (some ⟨g2, 0, none⟩) c2 u.D hD1 hD2 hu.p hc w2 (o2.bytes hu.p.b)).mono ?_
      rintro e w3 ⟨⟨A, rfl, F3, hA⟩, B3⟩
      have b3 := b2.kept B3
      have hw3 := hw2.kept B3
      go_wp2_with fail
      refine ⟨_, fun _ _ => rfl, ?_⟩
      refine ⟨.pointer (some ⟨A.mb, 0, none⟩), fun _ _ => by go_simp; first | done | rfl, ?_⟩
      refine ⟨.int .i64 0, fun _ _ => by go_simp; first | done | rfl, ?_⟩
      go_upto_region 4 with fail
      (refine wp_region_treeI (fun W => Box W w.heap.size (u.v a ab ap c cb cp)) 10 (.pure 0 (.pure 3 (.pure 1 (.pure 4 (.one 2 (.one 5 (.pure 6 (.pure 7 (.pure 8 (.one 9 (.one 10 .nil))))))))))) (by kernel_rfl) (by kernel_rfl) ?_; simp only [List.getD_cons_zero, List.getD_cons_succ, wpOTI])
      intro w4 B4
      have b4 := b3.kept B4
      have hw4 := hw3.kept B4
      have F4 := F3.kept B4
      refine ⟨fun _ => b4, _, fun W hI => by go_simp; first | done | rfl, ?_⟩
      try simp only [put_list, List.set_cons_zero, List.set_cons_succ]
      refine ⟨fun _ => b4, _, fun W hI => by go_simp; first | done | rfl, ?_⟩
      try simp only [put_list, List.set_cons_zero, List.set_cons_succ]
      refine ⟨fun _ => b4, .agg (u.p.cells (.slice a u.p.B.length c)), fun W hI => pure_ld rfl (ldp W hI), ?_⟩
      try simp only [put_list, List.set_cons_zero, List.set_cons_succ]
      refine ⟨fun _ => b4, .int .i64 u.D, fun W hI => by have c := ldd W hI; go_simp, ?_⟩
      try simp only [put_list, List.set_cons_zero, List.set_cons_succ]
      refine ⟨fun _ => b4, ?_⟩
      go_wp2_with fail
      refine (o18_own u.p a c hu.p hB w4 hw4.win).mono ?_
      rintro e w5 ⟨⟨g5, c5, rfl, o5⟩, B5⟩
      have b5 := b4.kept B5
      have F5 := F4.kept B5
      go_wp2_with fail
      refine (fano_New u.p (some ⟨g5, 0, none⟩) c5 u.D hD1 hD2 hu.p hc w5 (o5.bytes hu.p.b)).mono ?_
      rintro e w6 ⟨⟨A', rfl, G6, hA'⟩, B6⟩
      have b6 := b5.kept B6
      have F6 := F5.kept B6
      go_wp2_with fail
      refine ⟨_, fun _ _ => rfl, ?_⟩
      refine ⟨.pointer (some ⟨A'.mb, 0, none⟩), fun _ _ => by go_simp; first | done | rfl, ?_⟩
      refine ⟨.int .i64 0, fun _ _ => by go_simp; first | done | rfl, ?_⟩
      have hsep : ∀ k, A.has k → ¬ A'.has k := fun k hk hk' => by
        have h1 := F5.lt hk
        have h2 := hA' k hk'
        omega
      have B60 : Below w.heap.size w w6 := bOn (bOn (bOn (bOn (bOn B0 B1) B2) B3) B4) (bOn B5 B6)
      have hA0 : ∀ k, A.has k → w.heap.size ≤ k := fun k hk => Nat.le_trans (bOn (bOn B0 B1) B2).size (hA k hk)
      have hA0' : ∀ k, A'.has k → w.heap.size ≤ k := fun k hk => Nat.le_trans (bOn (bOn (bOn (bOn B0 B1) B2) B3) (bOn B4 B5)).size (hA' k hk)
      clear F3 F4 F5 b1 b2 b3 b4 b5 hw0 hw1 hw2 hw3 hw4 o2 o5 hA hA' B0 B1 B2 B3 B4 B5 B6 b0 ldp ldd
      go_upto_region 5 with fail
      go_wp2_with fail
      refine (o18_num 0 w6).mono ?_
      rintro e w7 ⟨rfl, B7⟩
      go_wp2_with fail
      refine (o18_num 0 w7).mono ?_
      rintro e w8 ⟨rfl, B8⟩
      have B78 := bOn B7 B8
      have F8 := F6.kept B78
      have G8 := G6.kept B78
      have B80 := bOn B60 B78
      clear F6 G6 B7 B8 B78 B60 b6
      go_wp2_with fail
      refine (fano_Run u.p hu.p hc u.D hD1 hD2 Fm.start (Fm.Ok.start hc hD1) A x hbx w8 F8).mono ?_
      rintro e w9 ⟨rfl, ⟨g9, c9, F9, hg9⟩, T9⟩
      have G9 := G8.turn T9 (fun k hk hk' => hsep k (FA.wr_has hk') hk)
      have hs1 := Fm.Ok.run hc hD1 x (Fm.Ok.start hc hD1)
      have hsep9 : ∀ k, ({ A with way := g9, cap := c9 } : FA).has k → ¬ A'.has k := FA.apart_way hsep (fun k hk => G8.lt hk) hg9
      go_wp2_with fail
      refine (fano_Run u.p hu.p hc u.D hD1 hD2 _ hs1 { A with way := g9, cap := c9 } y hby w9 F9).mono ?_
      rintro e w10 ⟨rfl, ⟨g10, c10, F10, hg10⟩, T10⟩
      have G10 := G9.turn T10 (fun k hk hk' => hsep9 k (FA.wr_has hk') hk)
      have hsep10 : ∀ k, ({ A with way := g10, cap := c10 } : FA).has k → ¬ A'.has k := FA.apart_way (A := { A with way := g9, cap := c9 }) hsep9 (fun k hk => G9.lt hk) hg10
      go_wp2_with fail
      rw [show ((x : Int) + (y : Int)) = ((x + y : Nat) : Int) by omega]
      have hrun := fano_Run u.p hu.p hc u.D hD1 hD2 Fm.start (Fm.Ok.start hc hD1) A' (x + y) hbxy w10 G10
      have hs2 := Fm.Ok.run hc hD1 (x + y) (Fm.Ok.start hc hD1)
      rw [Pb.frun_add] at hrun hs2
      obtain ⟨S, hS⟩ : ∃ S, S = u.p.frun u.D y (u.p.frun u.D x Fm.start) := ⟨_, rfl⟩
      rw [← hS] at hrun hs2 F10 ⊢
      clear hS
      refine hrun.mono ?_
      rintro e w11 ⟨rfl, ⟨g11, c11, G11, hg11⟩, T11⟩
      have F11 := F10.turn T11 (fun k hk hk' => hsep10 k hk (FA.wr_has hk'))
      have B110 : Below w.heap.size w w11 := B80.trans ((T9.below' B80.size (fun k hk hh => hA0 k (FA.wr_has hh))).trans ((T10.below' (Nat.le_trans B80.size T9.size) (fun k hk hh => ?_)).trans (T11.below' (Nat.le_trans (Nat.le_trans B80.size T9.size) T10.size) (fun k hk hh => hA0' k (FA.wr_has hh)))))
      rotate_left
      · rcases hh with h | h
        · exact hA0 k (.inl h)
        · have h' : k = g9 := h
          rcases hg9 with h2 | h2
          · exact hA0 k (.inr (.inl (h'.trans h2)))
          · have := B80.size; omega
      clear hrun hs1 hsep hsep9 hsep10 hA0 hA0' F8 G8 F9 G9 F10 G10 T9 T10 T11 hg9 hg10 hg11 B80
      go_upto_region 10 with fail
      go_wp2_with fail
      refine (fano_Node u.p hu.p hc u.D S hs2 _ w11 F11).mono ?_
      rintro e w12 ⟨rfl, B12⟩
      have F12 := F11.kept B12
      have G12 := G11.kept B12
      have B120 := bOn B110 B12
      have bz := Box.new w12 #[.int .u32 0, .int .i64 0, .int .i64 0] 80
      clear F11 G11 B110 B12
      go_upto_region 11 with (first | ((with_reducible apply ld); rfl; (with_reducible assumption); (simp only [List.set_cons_zero, List.set_cons_succ]; rfl)) | ((with_reducible apply stO); rfl; rfl; exact bz; rfl; rfl; exact nodeCells_flat _ _ _; intro w13 b13 B13 ho3 hs3))
      have B13' : Below w12.heap.size w12 w13 := ((Below.refl _ w12).alloc (Nat.le_refl _) _).trans B13
      have F13 := F12.kept B13'
      have G13 := G12.kept B13'
      have B130 := bOn B120 B13'
      clear bz F12 G12 B120 B13 B13' ho3 hs3
      go_wp2_with fail
      refine (fano_Node u.p hu.p hc u.D S hs2 _ w13 G13).mono ?_
      rintro e w14 ⟨rfl, B14⟩
      have F14 := F13.kept B14
      have G14 := G13.kept B14
      have b14 := b13.kept B14
      have B140 := bOn B130 B14
      have bz := Box.new w14 #[.int .u32 0, .int .i64 0, .int .i64 0] 80
      clear F13 G13 B130 B14 b13
      go_upto_region 12 with (first | ((with_reducible apply ld); rfl; (with_reducible assumption); (simp only [List.set_cons_zero, List.set_cons_succ]; rfl)) | ((with_reducible apply stO); rfl; rfl; exact bz; rfl; rfl; exact nodeCells_flat _ _ _; intro w15 b15 B15 ho5 hs5))
      have B15' : Below w14.heap.size w14 w15 := ((Below.refl _ w14).alloc (Nat.le_refl _) _).trans B15
      have F15 := F14.kept B15'
      have G15 := G14.kept B15'
      have b16 := b14.kept B15'
      have B150 := bOn B140 B15'
      clear bz F14 G14 B140 B15 B15' ho5 hs5 b14
      (refine wp_region_treeE (.pure 0 (.pure 1 (.pure 2 (.pure 3 (.pure 4 (.one 5 (.pure 6 (.pure 7 (.pure 8 (.pure 9 (.one 10 (.pure 11 (.pure 12 (.pure 13 (.pure 14 (.pure 16 (.one 15 (.one 17 (.one 18 (.pure 19 (.pure 20 (.pure 21 (.pure 22 (.pure 23 (.pure 24 (.pure 25 (.pure 26 (.pure 27 (.pure 28 (.pure 29 (.pure 30 (.pure 31 (.pure 33 (.one 32 (.one 34 (.pure 35 (.pure 36 (.pure 37 (.pure 38 (.pure 40 (.one 39 (.one 41 (.pure 42 (.pure 43 (.pure 44 (.pure 45 (.pure 48 (.one 46 (.pure 47 (.one 49 (.pure 50 (.pure 51 (.pure 52 (.pure 53 (.one 54 (.pure 55 (.one 56 .nil))))))))))))))))))))))))))))))))))))))))))))))))))))))))) (by kernel_rfl) (by kernel_rfl) ?_; simp only [List.getD_cons_zero, List.getD_cons_succ, wpOTE])
      intro w17 B17
      have F17 := F15.kept B17
      have G17 := G15.kept B17
      have b17 := b15.kept B17
      have b18 := b16.kept B17
      have B170 := bOn B150 B17
      clear F15 G15 b15 b16 B150 B17
      iterate 5
        refine ⟨rfl, _, fun W hW => by go_simp; first | done | rfl, ?_⟩
        try simp only [put_list, List.set_cons_zero, List.set_cons_succ]
      refine one_call rfl rfl inferInstance rfl ?_
      refine (o18_num 0 w17).mono ?_
      rintro e w19 ⟨rfl, B19⟩
      refine ⟨_, rfl, rfl, B19, ?_⟩
      simp only [List.set_cons_zero, List.set_cons_succ]
      iterate 4
        refine ⟨rfl, _, fun W hW => by go_simp; first | done | rfl, ?_⟩
        try simp only [put_list, List.set_cons_zero, List.set_cons_succ]
      refine one_call rfl rfl inferInstance rfl ?_
      refine (o18_num 0 w19).mono ?_
      rintro e w20 ⟨rfl, B20⟩
      refine ⟨_, rfl, rfl, B20, ?_⟩
      simp only [List.set_cons_zero, List.set_cons_succ]
      iterate 5
        refine ⟨rfl, _, fun W hW => by go_simp; first | done | rfl, ?_⟩
        try simp only [put_list, List.set_cons_zero, List.set_cons_succ]
      have F20 := (F17.kept B19).kept B20
      have G20 := (G17.kept B19).kept B20
      have b20 := (b17.kept B19).kept B20
      have d20 := (b18.kept B19).kept B20
      have B200 := bOn (bOn B170 B19) B20
      clear F17 G17 b17 b18 B170 B19 B20
      refine one_call rfl rfl inferInstance rfl ?_
      refine (fano_Result u.p hu.p hc u.D S hs2 _ w20 F20).mono ?_
      rintro e w21 ⟨⟨r1, k1, rfl, o1⟩, B21⟩
      refine ⟨_, rfl, rfl, B21, ?_⟩
      simp only [List.set_cons_zero, List.set_cons_succ]
      have hbl : ∀ x ∈ (u.p.fres S).bits, x < 256 := by
        intro x hx
        have hx' : x ∈ u.p.fbits S := hx
        unfold Pb.fbits at hx'
        split at hx'
        · rename_i hd
          have := (hs2.path hc hd).lt x hx'
          omega
        · cases hx'
      have y21 := res_bytes o1 hbl
      have F21 := F20.kept B21
      have G21 := G20.kept B21
      refine one_call rfl rfl inferInstance rfl ?_
      refine (fano_Result u.p hu.p hc u.D S hs2 _ w21 G21).mono ?_
      rintro e w22 ⟨⟨r2, k2, rfl, o2⟩, B22⟩
      refine ⟨_, rfl, rfl, B22, ?_⟩
      simp only [List.set_cons_zero, List.set_cons_succ]
      have z22 := res_bytes o2 hbl
      have y22 := y21.kept B22
      refine one_call rfl rfl inferInstance rfl ?_
      refine (o18_same (u.p.fres S) r1 r2 k1 k2 w22 y22 z22).mono ?_
      rintro e w23 ⟨rfl, B23⟩
      refine ⟨_, rfl, rfl, B23, ?_⟩
      simp only [List.set_cons_zero, List.set_cons_succ]
      have F23 := (F21.kept B22).kept B23
      have G23 := (G21.kept B22).kept B23
      have b23 := ((b20.kept B21).kept B22).kept B23
      have d23 := ((d20.kept B21).kept B22).kept B23
      have B230 := bOn (bOn (bOn B200 B21) B22) B23
      clear F20 G20 F21 G21 b20 d20 B200 B21 B22 B23 y21 y22 z22 o1 o2
      iterate 2
        refine ⟨rfl, _, fun W hW => by go_simp; first | done | rfl, ?_⟩
        try simp only [put_list, List.set_cons_zero, List.set_cons_succ]
      refine ⟨rfl, .agg S.top.n.cells, fun W hW => pure_ld rfl ((d23.kept hW).load (off := 0) (n := 3) (Nat.le_refl _) (Array.extract_eq_self_of_le (Nat.le_refl _))), ?_⟩
      try simp only [put_list, List.set_cons_zero, List.set_cons_succ]
      refine ⟨rfl, .agg S.top.n.cells, fun W hW => pure_ld rfl ((b23.kept hW).load (off := 0) (n := 3) (Nat.le_refl _) (Array.extract_eq_self_of_le (Nat.le_refl _))), ?_⟩
      try simp only [put_list, List.set_cons_zero, List.set_cons_succ]
      have heq : ∀ W : World, (binOp .eql 80 (.agg S.top.n.cells) (.agg S.top.n.cells)).run Try.prog W = .ok (.bool true) W := fun W => by
        have := eqlNode S.top.n S.top.n W
        rwa [show S.top.n.same S.top.n = true by simp [Nd.same]] at this
      refine ⟨rfl, .bool true, fun W hW => by have c := heq W; go_simp, ?_⟩
      try simp only [put_list, List.set_cons_zero, List.set_cons_succ]
      iterate 9
        refine ⟨rfl, _, fun W hW => by go_simp; first | done | rfl, ?_⟩
        try simp only [put_list, List.set_cons_zero, List.set_cons_succ]
      refine one_call rfl rfl inferInstance rfl ?_
      refine (fano_Threshold u.p hu.p u.D S _ w23 F23).mono ?_
      rintro e w24 ⟨rfl, B24⟩
      refine ⟨_, rfl, rfl, B24, ?_⟩
      simp only [List.set_cons_zero, List.set_cons_succ]
      refine one_call rfl rfl inferInstance rfl ?_
      refine (fano_Threshold u.p hu.p u.D S _ w24 (G23.kept B24)).mono ?_
      rintro e w25 ⟨rfl, B25⟩
      refine ⟨_, rfl, rfl, B25, ?_⟩
      simp only [List.set_cons_zero, List.set_cons_succ]
      iterate 5
        refine ⟨rfl, _, fun W hW => by go_simp; first | done | rfl, ?_⟩
        try simp only [put_list, List.set_cons_zero, List.set_cons_succ]
      refine one_call rfl rfl inferInstance rfl ?_
      refine (fano_Least u.p hu.p u.D S _ w25 ((F23.kept B24).kept B25)).mono ?_
      rintro e w26 ⟨rfl, B26⟩
      refine ⟨_, rfl, rfl, B26, ?_⟩
      simp only [List.set_cons_zero, List.set_cons_succ]
      refine one_call rfl rfl inferInstance rfl ?_
      refine (fano_Least u.p hu.p u.D S _ w26 (((G23.kept B24).kept B25).kept B26)).mono ?_
      rintro e w27 ⟨rfl, B27⟩
      refine ⟨_, rfl, rfl, B27, ?_⟩
      simp only [List.set_cons_zero, List.set_cons_succ]
      have F27 := (((F23.kept B24).kept B25).kept B26).kept B27
      have G27 := (((G23.kept B24).kept B25).kept B26).kept B27
      have B270 := bOn (bOn (bOn (bOn B230 B24) B25) B26) B27
      clear F23 G23 B230 B24 B25 B26 B27 b23 d23
      have hbs : ∀ x ∈ S.bits, x < 256 := fun x hx => by have := (hs2.way.facts hc).2.2.1 x hx; omega
      iterate 5
        refine ⟨rfl, _, fun W hW => by go_simp; first | done | rfl, ?_⟩
        try simp only [put_list, List.set_cons_zero, List.set_cons_succ]
      refine one_call rfl rfl inferInstance rfl ?_
      refine (fano_Path u.p hu.p hc u.D S hs2 _ w27 F27).mono ?_
      rintro e w28 ⟨⟨q1, rfl, p1, _⟩, B28⟩
      refine ⟨_, rfl, rfl, B28, ?_⟩
      simp only [List.set_cons_zero, List.set_cons_succ]
      have x28 := Box.bytes p1.box hbs
      refine ⟨rfl, .string (byteStr S.bits), fun W hW => by have c := run_conv (P := Try.prog) (src := 30) (dst := 9) (cap := S.bits.length) (x28.kept hW) rfl; go_simp, ?_⟩
      try simp only [put_list, List.set_cons_zero, List.set_cons_succ]
      refine one_call rfl rfl inferInstance rfl ?_
      refine (fano_Path u.p hu.p hc u.D S hs2 _ w28 (G27.kept B28)).mono ?_
      rintro e w29 ⟨⟨q2, rfl, p2, _⟩, B29⟩
      refine ⟨_, rfl, rfl, B29, ?_⟩
      simp only [List.set_cons_zero, List.set_cons_succ]
      have x29 := Box.bytes p2.box hbs
      refine ⟨rfl, .string (byteStr S.bits), fun W hW => by have c := run_conv (P := Try.prog) (src := 30) (dst := 9) (cap := S.bits.length) (x29.kept hW) rfl; go_simp, ?_⟩
      try simp only [put_list, List.set_cons_zero, List.set_cons_succ]
      iterate 3
        refine ⟨rfl, _, fun W hW => by go_simp; first | done | rfl, ?_⟩
        try simp only [put_list, List.set_cons_zero, List.set_cons_succ]
      refine one_call rfl rfl inferInstance rfl ?_
      refine (o18_live w29).mono ?_
      rintro e w30 ⟨rfl, B30⟩
      refine ⟨_, rfl, rfl, B30, ?_⟩
      simp only [List.set_cons_zero, List.set_cons_succ]
      iterate 1
        refine ⟨rfl, _, fun W hW => by go_simp; first | done | rfl, ?_⟩
        try simp only [put_list, List.set_cons_zero, List.set_cons_succ]
      go_wp2
      refine ⟨Below.refl _ _, ?_⟩
      go_wp2
      go_ret
      exact ⟨rfl, bOn (bOn (bOn B270 B28) B29) B30⟩
    · obtain ⟨E, hE0, hnew⟩ := fano_New_no u.p u.D hu.p hgood
      have hne : (E != 0) = true := by simpa using hE0
      refine (hnew (some ⟨g2, 0, none⟩) c2 w2 (o2.bytes hu.p.b)).mono ?_
      rintro e w3 ⟨rfl, B3⟩
      have b3 := b2.kept B3
      have hw3 := hw2.kept B3
      go_wp2_with fail
      refine ⟨_, fun _ _ => rfl, ?_⟩
      refine ⟨.pointer none, fun _ _ => by go_simp; first | done | rfl, ?_⟩
      refine ⟨.int .i64 E, fun _ _ => by go_simp; first | done | rfl, ?_⟩
      go_upto_region 4 with fail
      (refine wp_region_treeI (fun W => Box W w.heap.size (u.v a ab ap c cb cp)) 10 (.pure 0 (.pure 3 (.pure 1 (.pure 4 (.one 2 (.one 5 (.pure 6 (.pure 7 (.pure 8 (.one 9 (.one 10 .nil))))))))))) (by kernel_rfl) (by kernel_rfl) ?_; simp only [List.getD_cons_zero, List.getD_cons_succ, wpOTI])
      intro w4 B4
      have b4 := b3.kept B4
      have hw4 := hw3.kept B4
      refine ⟨fun _ => b4, _, fun W hI => by go_simp; first | done | rfl, ?_⟩
      try simp only [put_list, List.set_cons_zero, List.set_cons_succ]
      refine ⟨fun _ => b4, _, fun W hI => by go_simp; first | done | rfl, ?_⟩
      try simp only [put_list, List.set_cons_zero, List.set_cons_succ]
      refine ⟨fun _ => b4, .agg (u.p.cells (.slice a u.p.B.length c)), fun W hI => pure_ld rfl (ldp W hI), ?_⟩
      try simp only [put_list, List.set_cons_zero, List.set_cons_succ]
      refine ⟨fun _ => b4, .int .i64 u.D, fun W hI => by have c := ldd W hI; go_simp, ?_⟩
      try simp only [put_list, List.set_cons_zero, List.set_cons_succ]
      refine ⟨fun _ => b4, ?_⟩
      go_wp2_with fail
      refine (o18_own u.p a c hu.p hB w4 hw4.win).mono ?_
      rintro e w5 ⟨⟨g5, c5, rfl, o5⟩, B5⟩
      have b5 := b4.kept B5
      go_wp2_with fail
      refine (hnew (some ⟨g5, 0, none⟩) c5 w5 (o5.bytes hu.p.b)).mono ?_
      rintro e w6 ⟨rfl, B6⟩
      have b6 := b5.kept B6
      go_wp2_with fail
      refine ⟨_, fun _ _ => rfl, ?_⟩
      refine ⟨.pointer none, fun _ _ => by go_simp; first | done | rfl, ?_⟩
      refine ⟨.int .i64 E, fun _ _ => by go_simp; first | done | rfl, ?_⟩
      have B60 : Below w.heap.size w w6 := bOn (bOn (bOn (bOn (bOn B0 B1) B2) B3) B4) (bOn B5 B6)
      clear b1 b2 b3 b4 b5 hw0 hw1 hw2 hw3 hw4 o2 o5 B0 B1 B2 B3 B4 B5 B6 b0 ldp ldd
      go_upto_region 5 with fail
      go_wp2_with fail
      refine (o18_num E w6).mono ?_
      rintro e w7 ⟨rfl, B7⟩
      go_wp2_with fail
      refine (o18_num E w7).mono ?_
      rintro e w8 ⟨rfl, B8⟩
      go_wp2_with fail
      refine (o18_num E w8).mono ?_
      rintro e w9 ⟨rfl, B9⟩
      go_wp2_with fail
      refine (o18_live w9).mono ?_
      rintro e w10 ⟨rfl, B10⟩
      go_wp2
      go_ret
      exact ⟨rfl, bOn (bOn (bOn (bOn B60 B7) B8) B9) B10⟩
end Go.Proofs.Ytkjnmjilkhigaaa
