/- The walk of the statement on every tree and all its looks. -/
import Derived.Test.YtiiljecocajdpaaKidsG
import Derived.Test.YtiiljecocajdpaaQuietG
namespace Go.Proofs.Ytiiljecocajdpaa
open Go.RowKit

theorem neq_str_self {P : Program} {t : TypeId} (hu : P.underlying t = some .string) (s : ByteArray) (w : World) : (binOp .neq t (.string s) (.string s)).run P w = .ok (.bool false) w := by
  simp only [binOp]
  simp [Op.stringOp, Sem.run_pure]
theorem DocIn.glt {w : World} {p : Pb} {tb g c : Nat} (hT : DocIn w p tb g c) (h : probChk p = 0) : g < w.heap.size := by
  obtain ⟨⟨k1, k2⟩, l1, l2, cr, hwin, _⟩ := probChk_ok h
  have hne : 0 < p.B.length := by
    have h1 : 3 ≤ p.N := by unfold Pb.N; omega
    rcases cr with h | h <;> rw [h] at hwin <;> omega
  obtain ⟨b, o, ha, hc⟩ := hT.win.cell 0 hne
  obtain ⟨rfl, rfl⟩ : g = b ∧ 0 = o := by simpa using ha
  exact lt_of_cell hc
set_option maxRecDepth 5000 in
set_option maxHeartbeats 2000000 in
theorem law15_TreeKids (p : Pb) (a : Option Addr) (cap : Nat) (hp : p.Ok) (hB : p.B.length ≤ 140737488351232) (l : List Nd) (al : Option Addr) (capl : Nat) (hl : ∀ n ∈ l, n.Ok) (hll : (l.length : Int) ≤ 9223372036854775807) (w : World) (hw : Bytes w a p.B) (hnd : Nodes w al l) :
    Pure Try.prog 6 #[.agg (p.cells (.slice a p.B.length cap)), .slice al l.length capl] w (.bool true) := by
  go_enter Try.func6, Try.ntmps6
  go_upto_region 1 with (fail)
  refine name1 ?_
  intro w0 b2 B0
  have hw0 := hw.kept B0
  have hn0 := hnd.kept B0
  obtain ⟨fk, fr, flev, fl, fwin, fcode, ftable, fall⟩ := b2.prob hp
  clear fk fr flev fl fwin fcode ftable
  go_wp2_with ((with_reducible apply ld); rfl; (with_reducible assumption); (simp only [List.set_cons_zero, List.set_cons_succ]; rfl))
  refine (law01_Problem p a cap hp hB _ hw0).mono ?_
  rintro e w1 ⟨v, rfl, hv, B1⟩
  obtain ⟨g, c, rfl, hc, hgb, hgB, _⟩ := hv.open hp.b
  have hb5 := Box.new w1 zero32 32
  have hf := hp.flat (v := .slice (some ⟨g, 0, none⟩) p.B.length c) ⟨fun _ h => (by cases h), fun _ h => (by cases h)⟩
  have hs40 := hp.size (.slice (some ⟨g, 0, none⟩) p.B.length c)
  clear fall
  go_upto_region 2 with (first | ((with_reducible apply stO); rfl; rfl; exact hb5; rfl; exact hs40; exact hf; intro w2 b5 B2 ho2 hs2))
  have B21 : Below w1.heap.size w1 w2 := ((Below.refl _ w1).alloc (Nat.le_refl _) _).trans B2
  have B20 := bOn B1 B21
  have hv2 := hv.below B21 (Nat.le_refl _)
  have hg2 := hgb.kept B21
  clear ho2 hs2 hb5 B2 hgb hf hs40
  obtain ⟨fk, fr, flev, fl, fwin, fcode, ftable, fall⟩ := b5.prob hp
  clear fk fr flev fl fwin fcode ftable
  by_cases hc : probChk p = 0
  · go_wp2_with ((with_reducible apply ld); rfl; (with_reducible assumption); (simp only [List.set_cons_zero, List.set_cons_succ]; rfl))
    refine (tree_New p (some ⟨g, 0, none⟩) c hp hc _ hg2).mono ?_
    rintro e w3 ⟨⟨tb, pb, rb, g2, c2, rfl, hT, hTf⟩, B3⟩
    have B30 := bOn B20 B3
    clear fall
    obtain ⟨fk, fr, flev, fl, fwin, fcode, ftable, fall⟩ := (b2.kept B30).prob hp
    clear fk fr flev fl fwin fcode ftable
    go_wp2_with ((with_reducible apply ld); rfl; (with_reducible assumption); (simp only [List.set_cons_zero, List.set_cons_succ]; rfl))
    refine (doc_New p a cap hp hc _ (hw0.kept B30)).mono ?_
    rintro e w4 ⟨⟨td, gd, cd, rfl, hD, hDf⟩, B4⟩
    have B40 := bOn B30 B4
    clear fall
    go_wp2_with fail
    refine (law15_num 0 _).mono ?_
    rintro e w5 ⟨rfl, B5⟩
    have B50 := bOn B40 B5
    have x39 := (((b5.kept B3).kept B4).kept B5).cell 39
    have y39 := (b2.kept B50).cell 39
    rw [hp.cell39] at x39 y39
    go_wp2_with fail
    refine (law01_Stays a p.B cap hB _ _ _ (hw0.kept B50) (((hv2.below B3 (Nat.le_refl _)).below B4 (Nat.le_refl _)).below B5 (Nat.le_refl _))).mono ?_
    rintro e w6 ⟨rfl, B6⟩
    go_wp2_with fail
    refine (law15_knows _).mono ?_
    rintro e w7 ⟨rfl, B7⟩
    clear x39 y39
    have B70 := bOn (bOn B50 B6) B7
    have x39 := (((((b5.kept B3).kept B4).kept B5).kept B6).kept B7).cell 39
    rw [hp.cell39] at x39
    have hv7 := ((((hv2.below B3 (Nat.le_refl _)).below B4 (Nat.le_refl _)).below B5 (Nat.le_refl _)).below B6 (Nat.le_refl _)).below B7 (Nat.le_refl _)
    obtain ⟨g', c', hgg, hrow, _⟩ := hv7.row
    obtain ⟨rfl, rfl⟩ : g = g' ∧ c = c' := by simpa using hgg
    go_wp2_with fail
    refine (law01_Spoil g p.B.length c hp.n _ hrow).mono ?_
    rintro e w8 ⟨rfl, N8⟩
    have hgl : g < w2.heap.size := by
      obtain ⟨g', c', hgg, ⟨cs, hbx, _⟩, _⟩ := hv2.row
      obtain ⟨rfl, rfl⟩ : g = g' ∧ c = c' := by simpa using hgg
      exact hbx.lt
    have z3 := B3.size
    have z4 := B4.size
    have z70 := B70.size
    have z20 := B20.size
    have B80 : Below w0.heap.size w0 w8 := B70.trans (N8.below w0.heap.size hgB z70)
    have hT8 := ((((hT.kept B4).kept B5).kept B6).kept B7).but N8 (by omega)
    have hD8 := (((hD.kept B5).kept B6).kept B7).but N8 (by omega)
    clear x39 hrow hv7 hv2 hv B3 B4 B5 B6 B7 hT hD hTf hDf hg2 N8 hgl
    go_wp2_with fail
    refine (tree_Range p _ hT8).mono ?_
    rintro e w9 ⟨rfl, B9⟩
    have hT9 := hT8.kept B9
    have hD9 := hD8.kept B9
    have B90 := bOn B80 B9
    go_wp2_with fail
    refine (doc_Range p hp hc _ hD9).mono ?_
    rintro e w10 ⟨rfl, B10⟩
    have hT10 := hT9.kept B10
    have hD10 := hD9.kept B10
    have B100 := bOn B90 B10
    obtain ⟨lo, hlo⟩ : ∃ lo, lo = min (p.C.R * p.N * p.T.lo) 0 := ⟨_, rfl⟩
    obtain ⟨hi, hhi⟩ : ∃ hi, hi = max (p.C.R * p.N * p.T.hi) 0 := ⟨_, rfl⟩
    rw [← hlo, ← hhi]
    clear hlo hhi
    go_wp2_with fail
    refine (tree_Steps p _ hT10).mono ?_
    rintro e w11 ⟨rfl, B11⟩
    have hT11 := hT10.kept B11
    have hD11 := hD10.kept B11
    have B110 := bOn B100 B11
    go_wp2_with fail
    refine (doc_Steps p hp hc _ hD11).mono ?_
    rintro e w12 ⟨rfl, B12⟩
    have hT12 := hT11.kept B12
    have hD12 := hD11.kept B12
    have B120 := bOn B110 B12
    go_wp2_with fail
    refine (tree_Root _ _).mono ?_
    rintro e w13 ⟨rfl, B13⟩
    have hT13 := hT12.kept B13
    have hD13 := hD12.kept B13
    have B130 := bOn B120 B13
    go_wp2_with fail
    refine (doc_Root _ _).mono ?_
    rintro e w14 ⟨rfl, B14⟩
    have hT14 := hT13.kept B14
    have hD14 := hD13.kept B14
    have B140 := bOn B130 B14
    have hne := neqNode ⟨0, 0, 0⟩ ⟨0, 0, 0⟩
    rw [show (Nd.mk 0 0 0).same ⟨0, 0, 0⟩ = true from rfl] at hne
    simp only [Bool.not_true] at hne
    go_wp2_with fail
    clear hne
    go_loopw [14] (fun i wr => ∃ k : Nat, k ≤ l.length ∧ i = .int .i64 k ∧ Below w14.heap.size w14 wr) (fun i _ => l.length - (intOf i).toNat)
    case atStart => exact ⟨0, by omega, rfl, Below.refl _ _⟩
    case round =>
      obtain ⟨k, hk, rfl, Br⟩ := hrel
      have hTr := hT14.kept Br
      have hDr := hD14.kept Br
      have Br0 := bOn B140 Br
      by_cases hkl : k < l.length
      · have hk2 : decide ((k : Int) < l.length) = true := by simp; omega
        have hk3 : (k : Int) < l.length := by omega
        obtain ⟨bn, on, rfl, hload⟩ := (hn0.kept Br0) k hkl
        have hnk := hl _ (List.getElem_mem hkl)
        obtain ⟨nd, hnd'⟩ : ∃ nd, nd = l[k] := ⟨_, rfl⟩
        rw [← hnd'] at hload hnk
        have HND := Lib.hid hnd'
        clear hnd'
        have hbz := Box.new wr #[.int .u32 0, .int .i64 0, .int .i64 0] 34
        have hflat : Flat nd.cells := nodeCells_flat _ _ _
        go_upto_region 15 with (first | ((with_reducible apply ld); rfl; (with_reducible assumption); (simp only [List.set_cons_zero, List.set_cons_succ]; rfl)) | ((with_reducible apply stO); rfl; rfl; exact hbz; rfl; rfl; exact hflat; intro w16 b15 B16 ho16 hs16))
        have B16r : Below wr.heap.size wr w16 := ((Below.refl _ wr).alloc (Nat.le_refl _) _).trans B16
        have hT16 := hTr.kept B16r
        have hD16 := hDr.kept B16r
        have B160 := bOn Br B16r
        have hlt15 : wr.heap.size < w16.heap.size := b15.lt
        clear ho16 hs16 hbz hflat hload
        by_cases hpar : (k : Int) % 2 = 1
        · have hp1 : ((k : Int) % 2 == 1) = true := by simp [hpar]
          have hp2 : ((k : Int).tmod 2 == 1) = true := by rw [Int.tmod_eq_emod_of_nonneg (by omega)]; exact hp1
          clear hpar
          obtain ⟨⟨k1, k2⟩, l1, l2, _⟩ := probChk_ok hc
          have hNp1 : 3 ≤ p.N := by unfold Pb.N; omega
          have hNp2 : p.N ≤ 1055 := by unfold Pb.N; omega
          have hN1 : wrap64 (p.N + 1) = p.N + 1 := by unfold wrap64; omega
          have hN0 : p.N + 1 ≠ 0 := by omega
          obtain ⟨D, hD'⟩ : ∃ D, D = (wrap64 (wrap64 (nd.d.tmod (p.N + 1) + p.N) + 1)).tmod (p.N + 1) := ⟨_, rfl⟩
          have hD0 : 0 ≤ D ∧ D ≤ p.N := hD' ▸ tmod_in hNp1 hNp2 nd.d
          obtain ⟨hD0, hD1⟩ := hD0
          have m1 := b15.cell 1
          simp only [Nd.cells, nodeCells, List.getElem?_toArray, List.getElem?_cons_zero, List.getElem?_cons_succ] at m1
          go_upto_region 16 with (fail)
          (refine wp_region_det_tail 15 (by kernel_rfl) (by kernel_rfl) ?_; simp only [List.take_succ_cons, List.take_zero, List.drop_succ_cons, List.drop_zero])
          have q1 := KeptW.cell m1
          repeat first
            | ((refine det_plain rfl ?_); (go_big_quiet_step (fail)); (refine wpQuiet_nil ?_))
            | ((with_reducible apply det_call); rfl; infer_instance; rfl; (intro w1 B1; exact doc_Steps p hp hc _ (hD16.kept B1)); (simp only [List.set_cons_zero, List.set_cons_succ]; rfl))
            | ((with_reducible apply det_nilG); rfl; rfl; (simp only [List.set_cons_zero, List.set_cons_succ]; rfl))
          refine wpDet_nil ?_
          intro wa Ba
          rw [← hD']
          have HD := Lib.hid hD'
          clear hD' q1 m1 hN1
          have b15a := b15.kept Ba
          have hTa := hT16.kept Ba
          have hDa := hD16.kept Ba
          have c1 := b15a.cell 1
          simp only [Nd.cells, nodeCells, List.getElem?_toArray, List.getElem?_cons_zero, List.getElem?_cons_succ] at c1
          have z1 := b15a.frozen 1
          have t1 := hTr.tree.lt
          have t2 := hTr.prob.lt
          have t3 := hTr.rate.lt
          have t4 := hTr.glt hc
          have t5 := hDr.tree.lt
          have t6 := hDr.glt hc
          have hBr := Br.size
          go_upto_region 17 with (fail)
          refine nameAny (fun W => Box W wr.heap.size (Nd.mk nd.s D nd.m).cells ∧ TreeIn W p tb pb rb g2 c2 ∧ DocIn W p td gd cd ∧ Below w14.heap.size w14 W) ⟨(b15a.setCell _).cast rfl, hTa.setOther (by simp; omega) _, hDa.setOther (by simp; omega) _, (bOn B160 Ba).setCell (by simp; omega) _⟩ ?_
          rintro wb ⟨b15b, hTb, hDb, Bb⟩
          clear c1 z1
          obtain ⟨fk, fr, flev, fl, fwin, fcode, ftable, fall5⟩ := (b2.kept (bOn B140 Bb)).prob hp
          clear fr flev fl fwin fcode ftable fall5
          have c0 := b15b.cell 0
          simp only [Nd.cells, nodeCells, List.getElem?_toArray, List.getElem?_cons_zero, List.getElem?_cons_succ] at c0
          have z0 := b15b.frozen 0
          obtain ⟨s0, s1, d0, d1, m0, m1⟩ := hnk
          have hshl := one_shl64 k1 k2
          rw [Int.one_mul] at hshl
          have hws : IntKind.u64.wrap nd.s = nd.s := by
            simp only [IntKind.wrap, IntKind.bits, IntKind.signed]
            simp
            omega
          have hK1 : wrap64 (p.C.K - 1) = p.C.K - 1 := by unfold wrap64; omega
          have hp31 : (2 : Int) ^ (p.C.K.toNat - 1) ≤ 2147483648 := pow31 (by omega)
          have hpp : (0 : Int) < 2 ^ (p.C.K.toNat - 1) := Int.pow_pos (by decide)
          go_upto_region 18 with (fail)
          have hS0 : 0 ≤ nd.s % 2 ^ (p.C.K.toNat - 1) := Int.emod_nonneg _ (by omega)
          have hS1 : nd.s % 2 ^ (p.C.K.toNat - 1) < 2 ^ (p.C.K.toNat - 1) := Int.emod_lt_of_pos _ hpp
          obtain ⟨S, hS⟩ : ∃ S, S = nd.s % 2 ^ (p.C.K.toNat - 1) := ⟨_, rfl⟩
          rw [← hS] at hS0 hS1 ⊢
          have HS := Lib.hid hS
          clear hS hws hK1 hshl fk c0 z0
          refine nameAny (fun W => Box W wr.heap.size (Nd.mk S D nd.m).cells ∧ TreeIn W p tb pb rb g2 c2 ∧ DocIn W p td gd cd ∧ Below w14.heap.size w14 W) ⟨(b15b.setCell _).cast rfl, hTb.setOther (by simp; omega) _, hDb.setOther (by simp; omega) _, Bb.setCell (by simp; omega) _⟩ ?_
          rintro w17 ⟨b17, hT17, hD17, B170⟩
          have gN := b17.load (off := 0) (n := 3) (cs' := (Nd.mk S D nd.m).cells) (Nat.le_refl _) (Array.extract_eq_self_of_le (Nat.le_refl _))
          go_wp2_with ((with_reducible apply ld); rfl; (with_reducible assumption); (simp only [List.set_cons_zero, List.set_cons_succ]; rfl))
          refine (tree_KidsG p hp hc ⟨S, D, nd.m⟩ hS0 (by show S < _; omega) _ hT17).mono ?_
          rintro e w18 ⟨⟨a1, e1, c3, c4, rfl, y1, y2⟩, B18⟩
          clear gN
          have b18 := b17.kept B18
          have hT18 := hT17.kept B18
          have hD18 := hD17.kept B18
          have gN := b18.load (off := 0) (n := 3) (cs' := (Nd.mk S D nd.m).cells) (Nat.le_refl _) (Array.extract_eq_self_of_le (Nat.le_refl _))
          go_wp2_with ((with_reducible apply ld); rfl; (with_reducible assumption); (simp only [List.set_cons_zero, List.set_cons_succ]; rfl))
          refine (doc_KidsG p hp hc ⟨S, D, nd.m⟩ hS0 (by show S < _; omega) _ hD18).mono ?_
          rintro e w19 ⟨⟨a2, e2, c5, c6, rfl, y3, y4⟩, B19⟩
          clear gN
          have b19 := b18.kept B19
          have hT19 := hT18.kept B19
          have hD19 := hD18.kept B19
          have z1 := y1.kept B19
          have z2 := y2.kept B19
          have gN := b19.load (off := 0) (n := 3) (cs' := (Nd.mk S D nd.m).cells) (Nat.le_refl _) (Array.extract_eq_self_of_le (Nat.le_refl _))
          have hsame : ∀ w', Nodes w' a1 (p.kidsG ⟨S, D, nd.m⟩) → Nodes w' a2 (p.kidsG ⟨S, D, nd.m⟩) → Pure Try.prog 22 #[.slice a1 (p.kidsG ⟨S, D, nd.m⟩).length c3, .slice a2 (p.kidsG ⟨S, D, nd.m⟩).length c5] w' (.bool true) := fun w' h1 h2 => by
            have hlen := p.kidsG_len ⟨S, D, nd.m⟩
            have := law01_SameNodes a1 a2 _ _ c3 c5 (by omega) w' h1 h2
            rwa [sameNds_iff.2 rfl] at this
          have hstr := neq_str_self (P := Try.prog) (t := 9) Try.underlying9 (byteStr (p.bitsG ⟨S, D, nd.m⟩))
          have hbl : ∀ q : Bool, (q != q) = false := fun q => by cases q <;> rfl
          obtain ⟨q, hq⟩ : ∃ q, q = ((Nd.mk S D nd.m).d == p.N) := ⟨_, rfl⟩
          have hlf1 : ∀ w', TreeIn w' p tb pb rb g2 c2 → Pure Try.prog 40 #[.pointer (some ⟨tb, 0, none⟩), .agg (Nd.mk S D nd.m).cells] w' (.bool q) := fun w' h => hq ▸ tree_Leaf p _ w' h
          have hlf2 : ∀ w', DocIn w' p td gd cd → Pure Try.prog 41 #[.pointer (some ⟨td, 0, none⟩), .agg (Nd.mk S D nd.m).cells] w' (.bool q) := fun w' h => hq ▸ doc_Leaf p hp hc _ w' h
          clear hq
          go_upto_region 20 with (fail)
          refine wp_region_kept (by kernel_rfl) (by kernel_rfl) ?_
          repeat first
            | go_big_quiet_skip
            | ((with_reducible apply q_ldG); rfl; rfl; (with_reducible assumption); (simp only [List.set_cons_zero, List.set_cons_succ]; rfl))
            | ((with_reducible apply q_cvG); rfl; rfl; (with_reducible assumption); rfl; (simp only [List.set_cons_zero, List.set_cons_succ]; rfl))
            | go_big_quiet_step (first | exact Calls.kept (hsame _ (z1.kept (Subtype.property _)) (y3.kept (Subtype.property _))) | exact Calls.kept (hlf1 _ (hT19.kept (Subtype.property _))) | exact Calls.kept (hlf2 _ (hD19.kept (Subtype.property _))))
          refine wpQuiet_nil ?_
          intro w20 B20'
          go_wp2
          go_roundw
          case measure => simp only [intOf]; omega
          case rel => exact ⟨k + 1, by omega, by go_num, bOn (bOn (bOn B170 B18) B19) B20'⟩
        · have hp1 : ((k : Int) % 2 == 1) = false := by simp; omega
          have hp2 : ((k : Int).tmod 2 == 1) = false := by rw [Int.tmod_eq_emod_of_nonneg (by omega)]; exact hp1
          clear hpar
          have gN := b15.load (off := 0) (n := 3) (cs' := (nd).cells) (Nat.le_refl _) (Array.extract_eq_self_of_le (Nat.le_refl _))
          go_wp2_with ((with_reducible apply ld); rfl; (with_reducible assumption); (simp only [List.set_cons_zero, List.set_cons_succ]; rfl))
          refine (tree_KidsG p hp hc nd hnk.s0 hnk.s1 _ hT16).mono ?_
          rintro e w18 ⟨⟨a1, e1, c3, c4, rfl, y1, y2⟩, B18⟩
          clear gN
          have b18 := b15.kept B18
          have hT18 := hT16.kept B18
          have hD18 := hD16.kept B18
          have gN := b18.load (off := 0) (n := 3) (cs' := (nd).cells) (Nat.le_refl _) (Array.extract_eq_self_of_le (Nat.le_refl _))
          go_wp2_with ((with_reducible apply ld); rfl; (with_reducible assumption); (simp only [List.set_cons_zero, List.set_cons_succ]; rfl))
          refine (doc_KidsG p hp hc nd hnk.s0 hnk.s1 _ hD18).mono ?_
          rintro e w19 ⟨⟨a2, e2, c5, c6, rfl, y3, y4⟩, B19⟩
          clear gN
          have b19 := b18.kept B19
          have hT19 := hT18.kept B19
          have hD19 := hD18.kept B19
          have z1 := y1.kept B19
          have z2 := y2.kept B19
          have gN := b19.load (off := 0) (n := 3) (cs' := (nd).cells) (Nat.le_refl _) (Array.extract_eq_self_of_le (Nat.le_refl _))
          have hsame : ∀ w', Nodes w' a1 (p.kidsG nd) → Nodes w' a2 (p.kidsG nd) → Pure Try.prog 22 #[.slice a1 (p.kidsG nd).length c3, .slice a2 (p.kidsG nd).length c5] w' (.bool true) := fun w' h1 h2 => by
            have hlen := p.kidsG_len nd
            have := law01_SameNodes a1 a2 _ _ c3 c5 (by omega) w' h1 h2
            rwa [sameNds_iff.2 rfl] at this
          have hstr := neq_str_self (P := Try.prog) (t := 9) Try.underlying9 (byteStr (p.bitsG nd))
          have hbl : ∀ q : Bool, (q != q) = false := fun q => by cases q <;> rfl
          obtain ⟨q, hq⟩ : ∃ q, q = ((nd).d == p.N) := ⟨_, rfl⟩
          have hlf1 : ∀ w', TreeIn w' p tb pb rb g2 c2 → Pure Try.prog 40 #[.pointer (some ⟨tb, 0, none⟩), .agg (nd).cells] w' (.bool q) := fun w' h => hq ▸ tree_Leaf p _ w' h
          have hlf2 : ∀ w', DocIn w' p td gd cd → Pure Try.prog 41 #[.pointer (some ⟨td, 0, none⟩), .agg (nd).cells] w' (.bool q) := fun w' h => hq ▸ doc_Leaf p hp hc _ w' h
          clear hq
          go_upto_region 20 with (fail)
          refine wp_region_kept (by kernel_rfl) (by kernel_rfl) ?_
          repeat first
            | go_big_quiet_skip
            | ((with_reducible apply q_ldG); rfl; rfl; (with_reducible assumption); (simp only [List.set_cons_zero, List.set_cons_succ]; rfl))
            | ((with_reducible apply q_cvG); rfl; rfl; (with_reducible assumption); rfl; (simp only [List.set_cons_zero, List.set_cons_succ]; rfl))
            | go_big_quiet_step (first | exact Calls.kept (hsame _ (z1.kept (Subtype.property _)) (y3.kept (Subtype.property _))) | exact Calls.kept (hlf1 _ (hT19.kept (Subtype.property _))) | exact Calls.kept (hlf2 _ (hD19.kept (Subtype.property _))))
          refine wpQuiet_nil ?_
          intro w20 B20'
          go_wp2
          go_roundw
          case measure => simp only [intOf]; omega
          case rel => exact ⟨k + 1, by omega, by go_num, bOn (bOn (bOn B160 B18) B19) B20'⟩
      · go_wp2
        go_ret
        exact ⟨rfl, B0.trans (Br0.mono B0.size)⟩
  · go_wp2_with ((with_reducible apply ld); rfl; (with_reducible assumption); (simp only [List.set_cons_zero, List.set_cons_succ]; rfl))
    refine (tree_New_bad p (some ⟨g, 0, none⟩) c hp hc _ hg2).mono ?_
    rintro e w3 ⟨rfl, B3⟩
    have B30 := bOn B20 B3
    clear fall
    obtain ⟨fk, fr, flev, fl, fwin, fcode, ftable, fall⟩ := (b2.kept B30).prob hp
    clear fk fr flev fl fwin fcode ftable
    go_wp2_with ((with_reducible apply ld); rfl; (with_reducible assumption); (simp only [List.set_cons_zero, List.set_cons_succ]; rfl))
    refine (doc_New_bad p a cap hp hc _ (hw0.kept B30)).mono ?_
    rintro e w4 ⟨rfl, B4⟩
    have B40 := bOn B30 B4
    clear fall
    go_wp2_with fail
    refine (law15_num _ _).mono ?_
    rintro e w5 ⟨rfl, B5⟩
    have B50 := bOn B40 B5
    have x39 := (((b5.kept B3).kept B4).kept B5).cell 39
    have y39 := (b2.kept B50).cell 39
    rw [hp.cell39] at x39 y39
    have hqq : (probChk p != probChk p) = false := by simp
    go_wp2_with fail
    refine (law01_Stays a p.B cap hB _ _ _ (hw0.kept B50) (((hv2.below B3 (Nat.le_refl _)).below B4 (Nat.le_refl _)).below B5 (Nat.le_refl _))).mono ?_
    rintro e w6 ⟨rfl, B6⟩
    go_wp2_with fail
    refine (law15_knows _).mono ?_
    rintro e w7 ⟨rfl, B7⟩
    clear x39 y39
    have B70 := bOn (bOn B50 B6) B7
    have x39 := (((((b5.kept B3).kept B4).kept B5).kept B6).kept B7).cell 39
    rw [hp.cell39] at x39
    have hv7 := ((((hv2.below B3 (Nat.le_refl _)).below B4 (Nat.le_refl _)).below B5 (Nat.le_refl _)).below B6 (Nat.le_refl _)).below B7 (Nat.le_refl _)
    obtain ⟨g', c', hgg, hrow, _⟩ := hv7.row
    obtain ⟨rfl, rfl⟩ : g = g' ∧ c = c' := by simpa using hgg
    go_wp2_with fail
    refine (law01_Spoil g p.B.length c hp.n _ hrow).mono ?_
    rintro e w8 ⟨rfl, N8⟩
    have z70 := B70.size
    have B80 : Below w0.heap.size w0 w8 := B70.trans (N8.below w0.heap.size hgB z70)
    clear x39 hrow hv7 hv2 hv B3 B4 B5 B6 B7 hg2 N8
    have T0 : ∀ w, NoTree w (.pointer none) := fun w => .inl rfl
    go_wp2_with fail
    refine (noTree_Range _ _ (T0 _)).mono ?_
    rintro e w9 ⟨rfl, B9⟩
    have B90 := bOn B80 B9
    go_wp2_with fail
    refine (doc_Range_nil _).mono ?_
    rintro e w10 ⟨rfl, B10⟩
    have B100 := bOn B90 B10
    go_wp2_with fail
    refine (noTree_Steps _ _ (T0 _)).mono ?_
    rintro e w11 ⟨rfl, B11⟩
    have B110 := bOn B100 B11
    go_wp2_with fail
    refine (doc_Steps_nil _).mono ?_
    rintro e w12 ⟨rfl, B12⟩
    have B120 := bOn B110 B12
    go_wp2_with fail
    refine (tree_Root _ _).mono ?_
    rintro e w13 ⟨rfl, B13⟩
    have B130 := bOn B120 B13
    go_wp2_with fail
    refine (doc_Root _ _).mono ?_
    rintro e w14 ⟨rfl, B14⟩
    have B140 := bOn B130 B14
    have hne := neqNode ⟨0, 0, 0⟩ ⟨0, 0, 0⟩
    rw [show (Nd.mk 0 0 0).same ⟨0, 0, 0⟩ = true from rfl] at hne
    simp only [Bool.not_true] at hne
    go_wp2_with fail
    clear hne
    go_loopw [14] (fun i wr => ∃ k : Nat, k ≤ l.length ∧ i = .int .i64 k ∧ Below w14.heap.size w14 wr) (fun i _ => l.length - (intOf i).toNat)
    case atStart => exact ⟨0, by omega, rfl, Below.refl _ _⟩
    case round =>
      obtain ⟨k, hk, rfl, Br⟩ := hrel
      have Br0 := bOn B140 Br
      by_cases hkl : k < l.length
      · have hk2 : decide ((k : Int) < l.length) = true := by simp; omega
        have hk3 : (k : Int) < l.length := by omega
        obtain ⟨bn, on, rfl, hload⟩ := (hn0.kept Br0) k hkl
        obtain ⟨nd, hnd'⟩ : ∃ nd, nd = l[k] := ⟨_, rfl⟩
        rw [← hnd'] at hload
        have HND := Lib.hid hnd'
        clear hnd'
        have hbz := Box.new wr #[.int .u32 0, .int .i64 0, .int .i64 0] 34
        have hflat : Flat nd.cells := nodeCells_flat _ _ _
        go_upto_region 15 with (first | ((with_reducible apply ld); rfl; (with_reducible assumption); (simp only [List.set_cons_zero, List.set_cons_succ]; rfl)) | ((with_reducible apply stO); rfl; rfl; exact hbz; rfl; rfl; exact hflat; intro w16 b15 B16 ho16 hs16))
        have B16r : Below wr.heap.size wr w16 := ((Below.refl _ wr).alloc (Nat.le_refl _) _).trans B16
        have B160 := bOn Br B16r
        clear ho16 hs16 hbz hflat hload
        have hsame : ∀ w', Pure Try.prog 22 #[.slice none 0 0, .slice none 0 0] w' (.bool true) := fun w' => law01_SameNodes none none [] [] 0 0 (by decide) w' (Nodes.nil _) (Nodes.nil _)
        have hstr := neq_str_self (P := Try.prog) (t := 9) Try.underlying9 (byteStr [])
        have e0 := fun w => Bytes.nil w none
        by_cases hpar : (k : Int) % 2 = 1
        · have hp1 : ((k : Int) % 2 == 1) = true := by simp [hpar]
          have hp2 : ((k : Int).tmod 2 == 1) = true := by rw [Int.tmod_eq_emod_of_nonneg (by omega)]; exact hp1
          clear hpar
          have gN := b15.load (off := 0) (n := 3) (cs' := nd.cells) (Nat.le_refl _) (Array.extract_eq_self_of_le (Nat.le_refl _))
          go_wp2_with ((with_reducible apply ld); rfl; (with_reducible assumption); (simp only [List.set_cons_zero, List.set_cons_succ]; rfl))
          refine (noTree_Kids _ nd _ (T0 _)).mono ?_
          rintro e w18 ⟨rfl, B18⟩
          clear gN
          have b18 := b15.kept B18
          have gN := b18.load (off := 0) (n := 3) (cs' := nd.cells) (Nat.le_refl _) (Array.extract_eq_self_of_le (Nat.le_refl _))
          go_wp2_with ((with_reducible apply ld); rfl; (with_reducible assumption); (simp only [List.set_cons_zero, List.set_cons_succ]; rfl))
          refine (doc_Kids_nil nd _).mono ?_
          rintro e w19 ⟨rfl, B19⟩
          clear gN
          have b19 := b18.kept B19
          have gN := b19.load (off := 0) (n := 3) (cs' := nd.cells) (Nat.le_refl _) (Array.extract_eq_self_of_le (Nat.le_refl _))
          have e1 := e0 w19
          go_upto_region 20 with (fail)
          refine wp_region_kept (by kernel_rfl) (by kernel_rfl) ?_
          repeat first
            | go_big_quiet_skip
            | ((with_reducible apply q_ldG); rfl; rfl; (with_reducible assumption); (simp only [List.set_cons_zero, List.set_cons_succ]; rfl))
            | ((with_reducible apply q_cvG); rfl; rfl; (with_reducible assumption); rfl; (simp only [List.set_cons_zero, List.set_cons_succ]; rfl))
            | go_big_quiet_step (first | exact Calls.kept (hsame _) | exact Calls.kept (noTree_Leaf _ nd _ (T0 _)) | exact Calls.kept (doc_Leaf_nil nd _))
          refine wpQuiet_nil ?_
          intro w20 B20'
          go_wp2
          go_roundw
          case measure => simp only [intOf]; omega
          case rel => exact ⟨k + 1, by omega, by go_num, bOn (bOn (bOn B160 B18) B19) B20'⟩
        · have hp1 : ((k : Int) % 2 == 1) = false := by simp; omega
          have hp2 : ((k : Int).tmod 2 == 1) = false := by rw [Int.tmod_eq_emod_of_nonneg (by omega)]; exact hp1
          clear hpar
          have gN := b15.load (off := 0) (n := 3) (cs' := nd.cells) (Nat.le_refl _) (Array.extract_eq_self_of_le (Nat.le_refl _))
          go_wp2_with ((with_reducible apply ld); rfl; (with_reducible assumption); (simp only [List.set_cons_zero, List.set_cons_succ]; rfl))
          refine (noTree_Kids _ nd _ (T0 _)).mono ?_
          rintro e w18 ⟨rfl, B18⟩
          clear gN
          have b18 := b15.kept B18
          have gN := b18.load (off := 0) (n := 3) (cs' := nd.cells) (Nat.le_refl _) (Array.extract_eq_self_of_le (Nat.le_refl _))
          go_wp2_with ((with_reducible apply ld); rfl; (with_reducible assumption); (simp only [List.set_cons_zero, List.set_cons_succ]; rfl))
          refine (doc_Kids_nil nd _).mono ?_
          rintro e w19 ⟨rfl, B19⟩
          clear gN
          have b19 := b18.kept B19
          have gN := b19.load (off := 0) (n := 3) (cs' := nd.cells) (Nat.le_refl _) (Array.extract_eq_self_of_le (Nat.le_refl _))
          have e1 := e0 w19
          go_upto_region 20 with (fail)
          refine wp_region_kept (by kernel_rfl) (by kernel_rfl) ?_
          repeat first
            | go_big_quiet_skip
            | ((with_reducible apply q_ldG); rfl; rfl; (with_reducible assumption); (simp only [List.set_cons_zero, List.set_cons_succ]; rfl))
            | ((with_reducible apply q_cvG); rfl; rfl; (with_reducible assumption); rfl; (simp only [List.set_cons_zero, List.set_cons_succ]; rfl))
            | go_big_quiet_step (first | exact Calls.kept (hsame _) | exact Calls.kept (noTree_Leaf _ nd _ (T0 _)) | exact Calls.kept (doc_Leaf_nil nd _))
          refine wpQuiet_nil ?_
          intro w20 B20'
          go_wp2
          go_roundw
          case measure => simp only [intOf]; omega
          case rel => exact ⟨k + 1, by omega, by go_num, bOn (bOn (bOn B160 B18) B19) B20'⟩
      · go_wp2
        go_ret
        exact ⟨rfl, B0.trans (Br0.mono B0.size)⟩
end Go.Proofs.Ytiiljecocajdpaa
