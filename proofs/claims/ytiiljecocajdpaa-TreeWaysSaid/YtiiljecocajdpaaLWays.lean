/- The walk of the statement that each complete path is a way of the tree. -/
import Derived.Test.YtiiljecocajdpaaDown
import Derived.Test.YtiiljecocajdpaaLOrder
namespace Go.Proofs.Ytiiljecocajdpaa
open Go.RowKit

theorem lw_dec {c M : Nat} (h : c ≤ M) : decide ((c : Int) < (M : Int) + 1) = true ∧ (c : Int) < (M : Int) + 1 := by constructor; (simp; omega); omega
theorem lw_in {m lo hi : Int} (h0 : lo ≤ m) (h1 : m ≤ hi) : decide (m < lo) = false ∧ decide (hi < m) = false := by constructor <;> simp <;> omega
theorem IntsAt.but {w w' : World} {b g : Nat} {l : List Int} (h : IntsAt w g l) (hB : But b w w') (hb : g ≠ b) : IntsAt w' g l :=
  ⟨Nat.lt_of_lt_of_le h.1 hB.size, fun i x hx => (World.cell?_of_block (hB.block g h.1 hb)).trans (h.2 i x hx)⟩
theorem lw_cast {j m l : Nat} {L : Int} (h : (j : Int) < L) (hm : (m : Int) = L) (hl : l = m) : j < l := by omega
theorem lw_cast2 {j m : Nat} {L : Int} (h : (j : Int) < L) (hm : (m : Int) = L) : (j : Int) < (m : Int) := by omega
theorem lw_bit {p : Pb} {A : List Nat} {j : Nat} (h : (j : Int) < p.L) (hl : j < A.length) : A[j] = p.bit A j := by
  unfold Pb.bit
  rw [if_pos h, List.getD_eq_getElem?_getD, List.getElem?_eq_getElem hl]
  rfl
theorem law15_down0 (p : Pb) (hp : p.Ok) (h : probChk p = 0) {tb pb rb g c : Nat} (n : Nd) (hn : p.In n) (w : World) (hT : TreeIn w p tb pb rb g c) :
    Pure Try.prog 56 #[.pointer (some ⟨tb, 0, none⟩), .agg n.cells, .int .u8 0] w (.tuple #[.agg (p.kid n 0).cells, .bool true]) :=
  law15_down p hp h n hn 0 (by decide) (fun _ => rfl) w hT
theorem law15_down_bare0 (p : Pb) (hp : p.Ok) (h : probChk p = 0) {tb pb rb g c : Nat} (n : Nd) (s0 : 0 ≤ n.s) (s1 : n.s < 4294967296) (hn : p.bare n) (w : World) (hT : TreeIn w p tb pb rb g c) :
    Pure Try.prog 56 #[.pointer (some ⟨tb, 0, none⟩), .agg n.cells, .int .u8 0] w (.tuple #[.agg (Nd.mk 0 0 0).cells, .bool false]) :=
  law15_down_bare p hp h n s0 s1 hn 0 w hT
theorem lw_pow {x : Int} {k : Int} (h : x < 2 ^ (k.toNat - 1)) (hk : k ≤ 32) : x < 4294967296 := by
  have := pow31 (n := k.toNat - 1) (by omega)
  omega
theorem lw_but {w w' : World} {b : Nat} (hs : w'.heap.size = w.heap.size) (ho : ∀ k, k ≠ b → w'.heap[k]? = w.heap[k]?) (hB : Below b w w') : But b w w' := ⟨hB.os, hB.tape, hB.output, Nat.le_of_eq hs.symm, fun k _ hk => ho k hk⟩
set_option maxRecDepth 5000 in
set_option maxHeartbeats 2000000 in
theorem law15_TreeWays (p : Pb) (a : Option Addr) (cap : Nat) (hp : p.Ok) (hcap : p.B.length ≤ cap) (xs : List Nat) (ax : Option Addr) (cx : Nat) (hx63 : (xs.length : Int) ≤ 9223372036854775807) (w : World) (hw : Bytes w a p.B) (hx : Bytes w ax xs) :
    Pure Try.prog 16 #[.agg (p.cells (.slice a p.B.length cap)), .slice ax xs.length cx] w (.bool true) := by
  go_enter Try.func16, Try.ntmps16
  go_upto_region 1 with (fail)
  refine name1 ?_
  intro w0 b2 B0
  have hw0 := hw.kept B0
  obtain ⟨fk, fr, flev, fl, fwin, fcode, ftable, fall⟩ := b2.prob hp
  clear fk fr flev fl fwin fcode ftable
  by_cases hc : probChk p = 0
  · go_wp2_with ((with_reducible apply ld); rfl; (with_reducible assumption); (simp only [List.set_cons_zero, List.set_cons_succ]; rfl))
    refine (tree_New p a cap hp hc _ hw0).mono ?_
    rintro e w1 ⟨⟨tb, pb, rb, g, c, rfl, hT, _⟩, B1⟩
    go_wp2_with (fail)
    refine (law15_num 0 _).mono ?_
    rintro e w2 ⟨rfl, B2⟩
    go_wp2_with (fail)
    refine (law15_knows _).mono ?_
    rintro e w3 ⟨rfl, B3⟩
    have B30 := bOn (bOn (bOn B0 B1) B2) B3
    have b23 := ((b2.kept B1).kept B2).kept B3
    have hT3 := (hT.kept B2).kept B3
    clear fall
    obtain ⟨⟨k1, k2⟩, l1, l2, cr, hwin, _⟩ := probChk_ok hc
    have HW := Lib.hid hwin
    have HR := Lib.hid cr
    clear hwin cr
    obtain ⟨fk, fr, flev, fl, fwin, fcode, ftable, fall⟩ := b23.prob hp
    clear fk fr flev fwin fcode ftable fall
    go_wp2_with (fail)
    refine (law11_Bits xs ax cx p.L (by omega) hx63 _ (hx.kept B30)).mono ?_
    rintro e w4 ⟨rfl, ba, B4⟩
    have B40 := bOn B30 B4
    have b24 := b23.kept B4
    have hT4 := hT3.kept B4
    clear fl
    obtain ⟨m, hm⟩ : ∃ m : Nat, m = p.L.toNat := ⟨_, rfl⟩
    rw [← hm] at ba ⊢
    have hmp : (m : Int) = p.L := by omega
    clear hm
    have lA := bitsOf_len xs m
    have tA : ∀ y ∈ bitsOf xs m, y < 2 := bitsOf_lt
    obtain ⟨A, hA⟩ : ∃ A, A = bitsOf xs m := ⟨_, rfl⟩
    rw [← hA] at ba lA tA
    have yA := ba.bytes (fun y hy => by have := tA y hy; omega)
    have pA : p.pathChk A = 0 := Pb.path_chk hc (by rw [lA]; exact hmp) tA
    have hPath := (Pb.pathChk_ok pA).2
    have zA : (A.length : Int) ≤ 9223372036854775807 := by rw [lA]; omega
    obtain ⟨ga, oa, rfl, _⟩ := hw.cell 0 (prob_slice hc)
    have HM := Lib.hid hmp
    have hw4 := hw.kept B40
    clear hmp hA tA ba
    obtain ⟨fk, fr, flev, fl, fwin, fcode, ftable, fall⟩ := b24.prob hp
    clear fk fr flev fl fwin fcode ftable
    have c1 := score_Prefixes p ga oa cap hp hcap A (some ⟨w3.heap.size, 0, none⟩) m zA pA w4 hw4 yA
    rw [lA] at c1
    go_wp2_with ((with_reducible apply ld); rfl; (with_reducible assumption); (simp only [List.set_cons_zero, List.set_cons_succ]; rfl))
    refine c1.mono ?_
    rintro e w5 ⟨⟨r1, rfl, R1⟩, B5⟩
    clear fall c1
    have B50 := bOn B40 B5
    have b25 := b24.kept B5
    have hw5 := hw4.kept B5
    have yA5 := yA.kept B5
    have hT5 := hT4.kept B5
    obtain ⟨fk, fr, flev, fl, fwin, fcode, ftable, fall⟩ := b25.prob hp
    clear fk fr flev fl fwin fcode ftable
    have c2 := score_Dip p (some ⟨ga, oa, none⟩) cap hp hcap A (some ⟨w3.heap.size, 0, none⟩) m zA w5 hw5 yA5
    have eD : p.dip A = dipOf (p.pm A) := by unfold Pb.dip; rw [if_neg (by simp [pA])]
    rw [lA, pA, eD] at c2
    go_wp2_with ((with_reducible apply ld); rfl; (with_reducible assumption); (simp only [List.set_cons_zero, List.set_cons_succ]; rfl))
    refine c2.mono ?_
    rintro e w6 ⟨rfl, B6⟩
    clear fall c2 eD
    obtain ⟨g1, c1, rfl, hg1, I1⟩ := R1.form (by rw [Pb.pm_len]; omega)
    have hN := Pb.N_le hc
    obtain ⟨hN3, hN5⟩ := hN
    have hcnt := Lib.hid (Pb.count_path hc hPath)
    have hpm := Lib.hid (fun i (hi : i ≤ p.N.toNat) => p.pm_get A hi)
    have hend := Lib.hid (Pb.st_end hc A)
    obtain ⟨M, hMN⟩ : ∃ M : Nat, M = p.N.toNat := ⟨_, rfl⟩
    have hNM : p.N = (M : Int) := by omega
    have lP := p.pm_len A
    rw [← hMN] at lP hpm hend
    obtain ⟨la, hla⟩ : ∃ l, l = p.pm A := ⟨_, rfl⟩
    rw [← hla] at I1 lP hpm hcnt ⊢
    rw [lP]
    obtain ⟨D, hD⟩ : ∃ D, D = dipOf la := ⟨_, rfl⟩
    rw [← hD] at hcnt ⊢
    have b26 := b25.kept B6
    have yA6 := yA5.kept B6
    have hT6 := hT5.kept B6
    have I16 := I1.kept B6
    have B60 := bOn B50 B6
    have hM2 : M ≤ 1055 := by omega
    have hM3 : 3 ≤ M := by omega
    clear hla hD hw5 hw4 yA5 yA hT5 hT4 hT3 hT b25 b24 b23 I1 R1 lP pA zA hMN hN3 hN5
    have HNM := Lib.hid hNM
    go_wp2_with (fail)
    refine (law15_num 0 _).mono ?_
    rintro e w7 ⟨rfl, B7⟩
    go_wp2_with (fail)
    refine (law15_num 0 _).mono ?_
    rintro e w8 ⟨rfl, B8⟩
    have hT8 := (hT6.kept B7).kept B8
    go_wp2_with (fail)
    refine (tree_Steps p _ hT8).mono ?_
    rintro e w9 ⟨rfl, B9⟩
    have hT9 := hT8.kept B9
    rw [hNM]
    go_wp2_with (fail)
    refine (tree_Root _ _).mono ?_
    rintro e w10 ⟨rfl, B10⟩
    have hbz := Box.new w10 #[.int .u32 0, .int .i64 0, .int .i64 0] 34
    clear hNM
    go_upto_region 10 with ((with_reducible apply stO); rfl; rfl; exact hbz; rfl; rfl; exact nodeCells_flat _ _ _; intro w11 b11 B11 ho11 hs11)
    have B1110 : Below w10.heap.size w10 w11 := ((Below.refl _ w10).alloc (Nat.le_refl _) _).trans B11
    have B110 := bOn (bOn (bOn (bOn (bOn B60 B7) B8) B9) B10) B1110
    have hT11 := (hT9.kept B10).kept B1110
    have b211 := ((((b26.kept B7).kept B8).kept B9).kept B10).kept B1110
    have yA11 := ((((yA6.kept B7).kept B8).kept B9).kept B10).kept B1110
    have I11 := ((((I16.kept B7).kept B8).kept B9).kept B10).kept B1110
    have J10 := (((I16.kept B7).kept B8).kept B9).kept B10
    have hT10 := hT9.kept B10
    have hyl : w3.heap.size < w10.heap.size := by
      obtain ⟨b, o, hbo, hcc⟩ := ((((yA6.kept B7).kept B8).kept B9).kept B10).cell 0 (by rw [lA]; have := HM.out; omega)
      obtain ⟨rfl, rfl⟩ : w3.heap.size = b ∧ 0 = o := by simpa using hbo
      exact lt_of_cell hcc
    clear hbz ho11 hs11 hT8 hT9 hT6 b26 yA6 I16
    -- LOOP
    go_wp2_with (fail)
    refine (tree_Range p _ hT11).mono ?_
    rintro e w12 ⟨rfl, B12⟩
    have hT12 := hT11.kept B12
    have b212 := b211.kept B12
    have yA12 := yA11.kept B12
    have I12 := I11.kept B12
    have b12 := b11.kept B12
    have B120 := bOn B110 B12
    have hlo := Lib.hid (fun i (hi : i ≤ p.N.toNat) => Pb.nd_range hc A hi)
    obtain ⟨lo, hlo1⟩ : ∃ lo, lo = min (p.C.R * p.N * p.T.lo) 0 := ⟨_, rfl⟩
    obtain ⟨hi, hhi1⟩ : ∃ hi, hi = max (p.C.R * p.N * p.T.hi) 0 := ⟨_, rfl⟩
    rw [← hlo1, ← hhi1] at hlo ⊢
    clear hlo1 hhi1
    have ne1 : tb ≠ w10.heap.size ∧ pb ≠ w10.heap.size ∧ rb ≠ w10.heap.size ∧ g ≠ w10.heap.size := by
      have h1 := hT10.tree.lt
      have h2 := hT10.prob.lt
      have h3 := hT10.rate.lt
      have h4 := hT10.glt hc
      omega
    have ne2 : g1 ≠ w10.heap.size := by have := J10.1; omega
    have ne3 : w.heap.size ≠ w10.heap.size := by have := b2.lt; have := B1.size; have := B2.size; have := B3.size; omega
    have ne4 : w3.heap.size ≠ w10.heap.size := by omega
    have lw10 : w.heap.size ≤ w10.heap.size := by have := b2.lt; have := B1.size; have := B2.size; have := B3.size; omega
    have HNE := Lib.hid (And.intro ne1 (And.intro ne2 (And.intro ne3 (And.intro ne4 lw10))))
    clear ne1 ne2 ne3 ne4 lw10 J10 hT10 hyl hT11 b211 yA11 I11 b11 hg1 hcap hx63
    go_wp2_with (fail)
    go_loopw [15] (fun i wr => ∃ c : Nat, c ≤ M + 1 ∧ i = .int .i64 c ∧ (∃ j : Nat, j ≤ c ∧ (c ≤ M → j = c) ∧ (c = M + 1 → j = M) ∧ Box wr w10.heap.size (p.nd A j).cells) ∧ But w10.heap.size w12 wr) (fun i _ => M + 1 - (intOf i).toNat)
    case atStart => exact ⟨0, Nat.zero_le _, rfl, ⟨0, Nat.le_refl _, fun _ => rfl, fun h => by omega, b12⟩, But.refl _ _⟩
    case round =>
      obtain ⟨i, hi, rfl, ⟨j, hj1, hj2, hj3, bn⟩, hB⟩ := hrel
      have lPa := HNE.out
      obtain ⟨ne1, ne2, ne3, ne4, lw10⟩ := lPa
      have hTr := hT12.but hB ne1
      have Ir := I12.but hB ne2
      have b2r := hB.box b212 ne3
      have yAr := Bytes.but hB yA12 ne4
      obtain ⟨h3, hM'⟩ := Pb.N_le hc
      by_cases hcl : i < M + 1
      · have hiM1 : i ≤ M := Nat.le_of_lt_succ hcl
        obtain rfl := hj2 hiM1
        obtain ⟨k1', k2'⟩ := lw_dec hiM1
        have hb1 : (j : Int) + 1 ≤ 9223372036854775807 := by omega
        have hjN : j ≤ p.N.toNat := by have := HNM.out; omega
        obtain ⟨r1, r2⟩ := hlo.out j hjN
        obtain ⟨r3, r4⟩ := lw_in r1 r2
        have n1 : wr.cell? ⟨w10.heap.size, 1, none⟩ = some (.int .i64 (j : Int)) := bn.cell 1
        have n2 : wr.cell? ⟨w10.heap.size, 2, none⟩ = some (.int .i64 (p.psum ((p.pathL A).take j))) := bn.cell 2
        have n3 := Ir.2 j _ (hpm.out j hiM1)
        have hnm : (p.nd A j).m = p.psum ((p.pathL A).take j) := rfl
        rw [hnm] at r1 r2 r3 r4
        obtain ⟨mm, hmm⟩ : ∃ mm, mm = p.psum ((p.pathL A).take j) := ⟨_, rfl⟩
        rw [← hmm] at n2 n3 r1 r2 r3 r4
        have hbl := Pb.bit_lt hPath j
        have hleaf : ∀ w', TreeIn w' p tb pb rb g c → Pure Try.prog 40 #[.pointer (some ⟨tb, 0, none⟩), .agg (p.nd A j).cells] w' (.bool ((j : Int) == (M : Int))) := fun w' hT' => by
          have := tree_Leaf p (p.nd A j) w' hT'
          rw [HNM.out] at this
          exact this
        have gN := bn.load (off := 0) (n := 3) (cs' := (p.nd A j).cells) (Nat.le_refl _) (Array.extract_eq_self_of_le (Nat.le_refl _))
        have hMn : (M : Int) + 1 - 1 = (M : Int) := by omega
        have q1 := KeptW.cell n1
        have q2 := KeptW.cell n2
        have q3 := KeptW.cell n3
        have hs0 := (p.st_in A j).1
        have hs1 : p.st A j < 4294967296 := lw_pow (p.st_in A j).2 k2
        clear hmm hnm r1 r2
        go_upto_region 14 with (fail)
        refine wp_region_kept (by kernel_rfl) (by kernel_rfl) ?_
        repeat first
          | go_big_quiet_skip
          | ((with_reducible apply q_ldG); rfl; rfl; (with_reducible assumption); (simp only [List.set_cons_zero, List.set_cons_succ]; rfl))
          | go_big_quiet_step (exact Calls.kept (hleaf _ (hTr.kept (Subtype.property _))))
        refine wpQuiet_nil ?_
        intro wq Bq
        clear q1 q2 q3 n1 n2 n3 r3 r4 hleaf gN hMn
        have hTr1 := hTr.kept Bq
        have bn1 := bn.kept Bq
        have hN1 := hB.on Bq
        have b2q := b2r.kept Bq
        have yAq := yAr.kept Bq
        have gN := bn1.load (off := 0) (n := 3) (cs' := (p.nd A j).cells) (Nat.le_refl _) (Array.extract_eq_self_of_le (Nat.le_refl _))
        obtain ⟨fk, fr, flev, fl, fwin, fcode, ftable, fall⟩ := b2q.prob hp
        clear fk fr flev fwin fcode ftable fall hTr bn hB b2r yAr Ir
        by_cases hiM : j < M
        · have hiN : (j : Int) < p.N := by have := HNM.out; omega
          have hiM2 : j < p.N.toNat := by have := HNM.out; omega
          have hbL : p.L ≤ (p.nd A j).d → p.bit A j = 0 := fun h => if_neg (by have h2 : p.L ≤ (j : Int) := h; omega)
          have hje : ((j : Int) == (M : Int)) = false := by simp; omega
          have hMn : (M : Int) + 1 - 1 = (M : Int) := by omega
          by_cases hL : (j : Int) < p.L
          · skip
            have hL2 : decide ((j : Int) < p.L) = true := decide_eq_true hL
            have hil : j < A.length := lw_cast hL HM.out lA
            have hil2 : (j : Int) < (m : Int) := lw_cast2 hL HM.out
            obtain ⟨bb, oo, hbo, cb⟩ := yAq.cell j hil
            obtain ⟨rfl, rfl⟩ : w3.heap.size = bb ∧ 0 = oo := by simpa using hbo
            rw [Nat.zero_add, lw_bit hL hil] at cb
            clear hbo
            go_upto_region 19 with (fail)
            go_wp2_with ((with_reducible apply ld); rfl; (with_reducible assumption); (simp only [List.set_cons_zero, List.set_cons_succ]; rfl))
            refine (law15_down p hp hc (p.nd A j) (Pb.nd_in A hiN) (p.bit A j) hbl hbL _ hTr1).mono ?_
            rintro e w13 ⟨rfl, B13⟩
            rw [Pb.nd_succ hc A hiM2]
            have hbz := Box.new w13 #[.int .u32 0, .int .i64 0, .int .i64 0] 34
            have bn13 := bn1.kept B13
            clear gN
            go_upto_region 20 with ((with_reducible apply stO); rfl; rfl; exact hbz; rfl; rfl; exact nodeCells_flat _ _ _; intro w14 b14 B14 ho14 hs14)
            have B1413 : Below w13.heap.size w13 w14 := ((Below.refl _ w13).alloc (Nat.le_refl _) _).trans B14
            have bn14 := bn13.kept B1413
            have hN14 := ((hN1.on B13).on B1413)
            clear hbz ho14 hs14 bn13
            have gM := b14.load (off := 0) (n := 3) (cs' := (p.nd A (j + 1)).cells) (Nat.le_refl _) (Array.extract_eq_self_of_le (Nat.le_refl _))
            go_wp2_with (first | ((with_reducible apply ld); rfl; (with_reducible assumption); (simp only [List.set_cons_zero, List.set_cons_succ]; rfl)) | ((with_reducible apply stO); rfl; rfl; exact bn14; rfl; rfl; exact nodeCells_flat _ _ _; intro w15 b15 B15 ho15 hs15))
            have hN15 : But w10.heap.size w12 w15 := hN14.trans (lw_but hs15 ho15 B15)
            go_roundw
            case measure => first | exact ap_meas' hcl | exact ap_meas hcl hb1
            case rel => exact ⟨j + 1, hcl, (by first | rfl | exact congrArg (Value.int .i64) (ap_succ hb1)), ⟨j + 1, Nat.le_refl _, fun _ => rfl, fun h => by omega, b15⟩, hN15⟩
          · skip
            have hL2 : decide ((j : Int) < p.L) = false := decide_eq_false hL
            have hbz0 : p.bit A j = 0 := if_neg hL
            have HBZ := Lib.hid hbz0
            clear hbz0
            go_upto_region 19 with (fail)
            go_wp2_with ((with_reducible apply ld); rfl; (with_reducible assumption); (simp only [List.set_cons_zero, List.set_cons_succ]; rfl))
            refine (law15_down0 p hp hc (p.nd A j) (Pb.nd_in A hiN) _ hTr1).mono ?_
            rintro e w13 ⟨rfl, B13⟩
            rw [show p.kid (p.nd A j) 0 = p.nd A (j + 1) from by rw [← Pb.nd_succ hc A hiM2, HBZ.out]; rfl]
            have hbz := Box.new w13 #[.int .u32 0, .int .i64 0, .int .i64 0] 34
            have bn13 := bn1.kept B13
            clear gN
            go_upto_region 20 with ((with_reducible apply stO); rfl; rfl; exact hbz; rfl; rfl; exact nodeCells_flat _ _ _; intro w14 b14 B14 ho14 hs14)
            have B1413 : Below w13.heap.size w13 w14 := ((Below.refl _ w13).alloc (Nat.le_refl _) _).trans B14
            have bn14 := bn13.kept B1413
            have hN14 := ((hN1.on B13).on B1413)
            clear hbz ho14 hs14 bn13
            have gM := b14.load (off := 0) (n := 3) (cs' := (p.nd A (j + 1)).cells) (Nat.le_refl _) (Array.extract_eq_self_of_le (Nat.le_refl _))
            go_wp2_with (first | ((with_reducible apply ld); rfl; (with_reducible assumption); (simp only [List.set_cons_zero, List.set_cons_succ]; rfl)) | ((with_reducible apply stO); rfl; rfl; exact bn14; rfl; rfl; exact nodeCells_flat _ _ _; intro w15 b15 B15 ho15 hs15))
            have hN15 : But w10.heap.size w12 w15 := hN14.trans (lw_but hs15 ho15 B15)
            go_roundw
            case measure => first | exact ap_meas' hcl | exact ap_meas hcl hb1
            case rel => exact ⟨j + 1, hcl, (by first | rfl | exact congrArg (Value.int .i64) (ap_succ hb1)), ⟨j + 1, Nat.le_refl _, fun _ => rfl, fun h => by omega, b15⟩, hN15⟩
        · have hiM : j = M := by omega
          have hbare : p.bare (p.nd A j) := .inr (.inl (by have h2 : (p.nd A j).d = (j : Int) := rfl; have := HNM.out; omega))
          have hje : ((j : Int) == (M : Int)) = true := by simp; omega
          have hMn : (M : Int) + 1 - 1 = (M : Int) := by omega
          have hjL : ¬ (j : Int) < p.L := by have := HNM.out; unfold Pb.N at this; omega
          have hL := hjL
          have HIM := Lib.hid hiM
          clear hiM
          have hL2 : decide ((j : Int) < p.L) = false := decide_eq_false hL
          have hbz0 : p.bit A j = 0 := if_neg hL
          have HBZ := Lib.hid hbz0
          clear hbz0
          go_upto_region 19 with (fail)
          go_wp2_with ((with_reducible apply ld); rfl; (with_reducible assumption); (simp only [List.set_cons_zero, List.set_cons_succ]; rfl))
          refine (law15_down_bare0 p hp hc (p.nd A j) hs0 hs1 hbare _ hTr1).mono ?_
          rintro e w13 ⟨rfl, B13⟩
          have hbz := Box.new w13 #[.int .u32 0, .int .i64 0, .int .i64 0] 34
          have bn13 := bn1.kept B13
          clear gN
          go_upto_region 20 with ((with_reducible apply stO); rfl; rfl; exact hbz; rfl; rfl; exact nodeCells_flat _ _ _; intro w14 b14 B14 ho14 hs14)
          have B1413 : Below w13.heap.size w13 w14 := ((Below.refl _ w13).alloc (Nat.le_refl _) _).trans B14
          have bn14 := bn13.kept B1413
          have hN14 := ((hN1.on B13).on B1413)
          clear hbz ho14 hs14 bn13
          go_wp2
          go_roundw
          case measure => first | exact ap_meas' hcl | exact ap_meas hcl hb1
          case rel => exact ⟨j + 1, hcl, (by first | rfl | exact congrArg (Value.int .i64) (ap_succ hb1)), ⟨j, Nat.le_succ _, fun h => by omega, fun _ => HIM.out, bn14⟩, hN14⟩
      · obtain rfl := ap_end hcl hi
        obtain rfl : j = M := hj3 rfl
        have k3 : decide ((j : Int) + 1 < (j : Int) + 1) = false := by simp
        have n0 : wr.cell? ⟨w10.heap.size, 0, none⟩ = some (.int .u32 (p.st A j)) := bn.cell 0
        rw [hend.out] at n0
        have hcn := tree_Count p hp hc (tb := tb) D ((j : Int) + 1) wr hTr
        have hc1 := hcnt.out
        rw [HNM.out] at hc1
        rw [hc1] at hcn
        have lw1 := lw10
        have hBf := hB
        clear hc1 hj3
        go_wp2_with fail
        refine hcn.mono ?_
        rintro e w13 ⟨rfl, B13⟩
        go_wp2
        go_ret
        exact ⟨rfl, bOn (B120.trans (hBf.below _ lw1 (Nat.le_trans lw1 (by have := B1110.size; have := B12.size; omega)))) B13⟩
  · have hne : (probChk p != 0) = true := by simpa using hc
    go_wp2_with ((with_reducible apply ld); rfl; (with_reducible assumption); (simp only [List.set_cons_zero, List.set_cons_succ]; rfl))
    refine (tree_New_bad p a cap hp hc _ hw0).mono ?_
    rintro e w1 ⟨rfl, B1⟩
    go_wp2_with (fail)
    refine (law15_num _ _).mono ?_
    rintro e w2 ⟨rfl, B2⟩
    have b22 := (b2.kept B1).kept B2
    have hw2 := (hw0.kept B1).kept B2
    have B20 := bOn (bOn B0 B1) B2
    clear fall
    obtain ⟨fk, fr, flev, fl, fwin, fcode, ftable, fall⟩ := b22.prob hp
    clear fk fr flev fl fwin fcode ftable
    go_upto_region 3 with (fail)
    refine wp_region_kept (by kernel_rfl) (by kernel_rfl) ?_
    repeat first
      | go_big_quiet_skip
      | ((with_reducible apply q_ldG); rfl; rfl; (with_reducible assumption); (simp only [List.set_cons_zero, List.set_cons_succ]; rfl))
      | go_big_quiet_step (first | exact Calls.kept (law15_num _ _) | exact Calls.kept (law15_knows _) | exact Calls.kept (score_Check p a cap hp _ (hw2.kept (Subtype.property _))))
    refine wpQuiet_nil ?_
    intro w3 B3
    go_wp2
    go_ret
    exact ⟨rfl, bOn B20 B3⟩
end Go.Proofs.Ytiiljecocajdpaa
