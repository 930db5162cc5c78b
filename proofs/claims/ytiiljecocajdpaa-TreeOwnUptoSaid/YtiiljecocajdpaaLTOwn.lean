/- The walk of the statement that what a tree gives is the caller's own. -/
import Derived.Test.YtiiljecocajdpaaTOwnA
import Derived.Test.YtiiljecocajdpaaLKids
namespace Go.Proofs.Ytiiljecocajdpaa
open Go.RowKit

theorem build_two_rows (b1 b2 k1 k2 : Nat) (w : World) : (Instr.buildSlice 48 2 #[(0, .slice (some ⟨b1, 0, none⟩) k1 k1), (1, .slice (some ⟨b2, 0, none⟩) k2 k2)]).run Try.prog w = .ok (.slice (some ⟨w.heap.size, 0, none⟩) 2 2) (w.alloc (.cells #[.slice (some ⟨b1, 0, none⟩) k1 k1, .slice (some ⟨b2, 0, none⟩) k2 k2] 30)) := by
  go_simp
theorem to_bd {k n : Nat} (h : k < n) (hn : n ≤ 1048576) : decide ((k : Int) < n) = true ∧ (k : Int) < n ∧ (k : Int) + 1 ≤ 9223372036854775807 := by refine ⟨?_, ?_, ?_⟩ <;> (try simp) <;> omega
theorem ndCells_size (K : List Nd) : (ndCells K).size = K.length * 3 := by
  unfold ndCells
  induction K with
  | nil => rfl
  | cons x xs ih => simp [List.flatMap_cons, Nd.cells, nodeCells] at ih ⊢; omega
theorem to_inc {j n : Nat} (h : j < n) (hn : n ≤ 2) : wrap64 ((j : Int) + 1) = ((j + 1 : Nat) : Int) ∧ n - (intOf (.int .i64 ((j + 1 : Nat) : Int))).toNat < n - (intOf (.int .i64 (j : Int))).toNat := by
  refine ⟨by unfold wrap64; omega, by simp only [intOf]; omega⟩
theorem all77 : (#[Value.int .u32 77, .int .i64 0, .int .i64 0] : Array Value).all (·.oneCell') = true := by simp [Value.oneCell']
set_option maxRecDepth 5000 in
set_option maxHeartbeats 2000000 in
theorem law15_TreeOwn (p : Pb) (a : Option Addr) (cap : Nat) (hp : p.Ok) (l : List Nd) (al : Option Addr) (capl : Nat) (hl : ∀ n ∈ l, n.Ok) (hll : l.length ≤ 1048576) (w : World) (hw : Bytes w a p.B) (hnd : Nodes w al l) :
    Pure Try.prog 4 #[.agg (p.cells (.slice a p.B.length cap)), .slice al l.length capl] w (.bool true) := by
  go_enter Try.func4, Try.ntmps4
  go_upto_region 1 with (fail)
  refine name1 ?_
  intro w0 b2 B0
  have hw0 := hw.kept B0
  have hn0 := hnd.kept B0
  obtain ⟨fk, fr, flev, fl, fwin, fcode, ftable, fall⟩ := b2.prob hp
  clear fk fr flev fl fwin fcode ftable
  by_cases hc : probChk p = 0
  · go_wp2_with ((with_reducible apply ld); rfl; (with_reducible assumption); (simp only [List.set_cons_zero, List.set_cons_succ]; rfl))
    refine (tree_New p a cap hp hc _ hw0).mono ?_
    rintro e w1 ⟨⟨tb, pb, rb, g, c, rfl, hT, _⟩, B1⟩
    go_wp2_with (fail)
    refine (law15_num 0 _).mono ?_
    rintro e w2 ⟨rfl, B2⟩
    go_wp2_with (fail)
    refine (law15_knows _).mono ?_
    rintro e w3 ⟨rfl, B3⟩
    have hT3 := (hT.kept B2).kept B3
    have B30 := bOn (bOn (bOn B0 B1) B2) B3
    have hn3 := ((hn0.kept B1).kept B2).kept B3
    clear fall hT hnd hn0
    obtain ⟨hNp1, hNp2⟩ := (show 3 ≤ p.N ∧ p.N ≤ 1055 from by obtain ⟨⟨k1, k2⟩, l1, l2, _⟩ := probChk_ok hc; unfold Pb.N; omega)
    go_wp2_with (fail)
    go_loopw [7, 8] (fun v i wr => ∃ (k : Nat) (vs : List Value), k ≤ l.length ∧ i = .int .i64 k ∧ wr.ownsRow w3.heap.size 30 1 v (2 * k) vs ∧ ApOk wr w3.heap.size 5 vs mk8 0 0 ∧ ApSep vs ∧ Below w3.heap.size w3 wr) (fun _ i _ => l.length - (intOf i).toNat)
    case atStart => exact ⟨0, [], Nat.zero_le _, rfl, ⟨rfl, .inl ⟨rfl, rfl⟩⟩, fun i v h => by simp at h, fun i j v u k _ h => by simp at h, Below.refl _ _⟩
    case round =>
      obtain ⟨k, vs, hk, rfl, hO, hok, hsep, Br⟩ := hrel
      have hTr := hT3.kept Br
      by_cases hkl : k < l.length
      · obtain ⟨hk2, hk3, hk4⟩ := to_bd hkl hll
        obtain ⟨bn, on, rfl, hload⟩ := (hn3.kept Br) k hkl
        have hdep := Nodes.depth hload
        obtain ⟨nd, hnd'⟩ : ∃ nd, nd = l[k].d := ⟨_, rfl⟩
        rw [← hnd'] at hdep
        obtain ⟨D, hD⟩ : ∃ D, D = (wrap64 (nd.tmod p.N + p.N)).tmod p.N := ⟨_, rfl⟩
        obtain ⟨hD0, hD1⟩ : 0 ≤ D ∧ D < p.N := hD ▸ tmod_in0 hNp1 hNp2 nd
        have hNz : p.N ≠ 0 := by omega
        clear hnd' hload
        go_upto_region 8 with (fail)
        refine wp_region_free_tail 15 1 (by kernel_rfl) (by kernel_rfl) ?_
        simp only [List.take_succ_cons, List.take_zero, List.drop_succ_cons, List.drop_zero]
        have q0 := KeptW.cell hdep
        repeat first
          | ((refine det_plain rfl ?_); (go_big_quiet_step (fail)); (refine wpQuiet_nil ?_))
          | ((with_reducible apply det_call); rfl; infer_instance; rfl; (intro w1 B1; exact tree_Steps p _ (hTr.kept B1)); (simp only [List.set_cons_zero, List.set_cons_succ]; rfl))
          | ((with_reducible apply det_nilG); rfl; rfl; (simp only [List.set_cons_zero, List.set_cons_succ]; rfl))
        refine wpDet_nil ?_
        rw [← hD]
        have HD := Lib.hid hD
        clear hD q0 hdep hNz
        refine free_alloc anti_list (cs := #[.int .u32 0, .int .i64 0, .int .i64 0]) (by intro w1; go_simp) ?_
        intro b9 h9
        simp only [List.set_cons_zero, List.set_cons_succ]
        intro w4 B4 hS
        obtain ⟨_, x9⟩ := hS
        refine stO rfl rfl x9 rfl rfl (nodeCells_flat 0 D 0) ?_
        intro w5 y9 B5 o5 s5
        have y9 : Box w5 b9 (Nd.mk 0 D 0).cells := y9
        have B50 : Below wr.heap.size wr w5 := B4.trans (B5.mono h9)
        have hT5 := hTr.kept B50
        clear o5 s5 x9 B4 B5
        have hin : p.In ⟨0, D, 0⟩ := ⟨Int.le_refl 0, Int.pow_pos (by decide), hD0, hD1⟩
        have cK := fun w' (h : TreeIn w' p tb pb rb g c) => tree_KidsT p hp hc ⟨0, D, 0⟩ hin w' h
        have hlt := p.kidBits_lt ⟨0, D, 0⟩
        have hlb := p.kidBits_form ⟨0, D, 0⟩
        have hlk : ∃ J, (p.kids ⟨0, D, 0⟩).length = J + 1 ∧ J ≤ 1 := by
          rcases p.kids_form ⟨0, D, 0⟩ with ⟨x, h⟩ | ⟨x, y, h⟩ <;> rw [h]
          · exact ⟨0, rfl, by decide⟩
          · exact ⟨1, rfl, by decide⟩
        obtain ⟨K, hK⟩ : ∃ K, K = p.kids ⟨0, D, 0⟩ := ⟨_, rfl⟩
        obtain ⟨KB, hKB⟩ : ∃ KB, KB = p.kidBits ⟨0, D, 0⟩ := ⟨_, rfl⟩
        rw [← hKB] at hlt hlb
        rw [← hK] at hlk
        simp only [← hK, ← hKB] at cK
        obtain ⟨J, hJ, hJ1⟩ := hlk
        have hK0 : ((K.length : Int) == 0) = false := by simp only [beq_eq_false_iff_ne, ne_eq]; omega
        have hKJ : wrap64 ((K.length : Int) - 1) = J := by unfold wrap64; omega
        have hJK : (J : Int) < K.length := by omega
        have hK2 : K.length ≤ 2 := by omega
        have HJ := Lib.hid hJ
        have HKJ := Lib.hid hKJ
        clear hJ
        clear hK hKB hin hD0 hD1 hTr
        have gN := y9.load (off := 0) (n := 3) (cs' := (Nd.mk 0 D 0).cells) (Nat.le_refl _) (Array.extract_eq_self_of_le (Nat.le_refl _))
        go_wp2_with ((with_reducible apply ld); rfl; (with_reducible assumption); (simp only [List.set_cons_zero, List.set_cons_succ]; rfl))
        refine (cK _ hT5).mono ?_
        rintro e w6 ⟨⟨n1, b1, rfl, x1, x2, x3, x4, x5⟩, B6⟩
        clear gN
        have gN := (y9.kept B6).load (off := 0) (n := 3) (cs' := (Nd.mk 0 D 0).cells) (Nat.le_refl _) (Array.extract_eq_self_of_le (Nat.le_refl _))
        have hT6 := hT5.kept B6
        go_wp2_with ((with_reducible apply ld); rfl; (with_reducible assumption); (simp only [List.set_cons_zero, List.set_cons_succ]; rfl))
        refine (cK _ hT6).mono ?_
        rintro e w7 ⟨⟨n2, b2', rfl, z1, z2, z3, z4, z5⟩, B7⟩
        clear gN cK
        have x17 := x1.kept B7
        have x27 := x2.kept B7
        have hsame : ∀ w', Nodes w' (some ⟨n1, 0, none⟩) K → Nodes w' (some ⟨n2, 0, none⟩) K → Pure Try.prog 22 #[.slice (some ⟨n1, 0, none⟩) K.length K.length, .slice (some ⟨n2, 0, none⟩) K.length K.length] w' (.bool true) := fun w' h1 h2 => by
          have := law01_SameNodes (some ⟨n1, 0, none⟩) (some ⟨n2, 0, none⟩) K K K.length K.length (by omega) w' h1 h2
          rwa [sameNds_iff.2 rfl] at this
        have hstr := neq_str_self (P := Try.prog) (t := 9) Try.underlying9 (byteStr KB)
        go_wp2_with fail
        refine (hsame _ (Nodes.ofBox x17) (Nodes.ofBox z1)).mono ?_
        rintro e w8 ⟨rfl, B8⟩
        have y1 := Box.bytes (x27.kept B8).box hlt
        have y2 := Box.bytes (z2.kept B8).box hlt
        have hv1 := run_conv (P := Try.prog) (src := 30) (dst := 9) (cap := KB.length) y1 rfl
        have hv2 := run_conv (P := Try.prog) (src := 30) (dst := 9) (cap := KB.length) y2 rfl
        have hJK0 : J < K.length := Int.ofNat_lt.1 hJK
        have hkp := Nodes.ofBox (x17.kept B8) J hJK0
        obtain ⟨_, _, hkp1, hkp2⟩ := hkp
        obtain ⟨rfl, rfl⟩ := Addr.mk.inj (Option.some.inj hkp1) |> fun h => (⟨h.1, h.2.1⟩ : _ ∧ _)
        obtain ⟨kp, hkp⟩ : ∃ kp, kp = K[J] := ⟨_, rfl⟩
        rw [← hkp, Nat.zero_add] at hkp2
        have HKP := Lib.hid hkp
        have HBD := Lib.hid (And.intro hk4 (And.intro hlb hK2))
        have HKL := Lib.hid hkl
        clear hkp hkp1 hsame hk2 hk3 hk4 hlb hK2 hkl
        have bz := Box.new w8 #[.int .u32 0, .int .i64 0, .int .i64 0] 34
        go_upto_region 14 with (first | ((with_reducible apply ld); rfl; (with_reducible assumption); (simp only [List.set_cons_zero, List.set_cons_succ]; rfl)) | ((with_reducible apply stO); rfl; rfl; exact bz; rfl; rfl; exact nodeCells_flat kp.s kp.d kp.m; intro w9 b14 B9 o9 s9))
        have b149 : Box w9 w8.heap.size kp.cells := b14
        have B98 : Below w8.heap.size w8 w9 := ((Below.refl _ w8).alloc (Nat.le_refl _) _).trans B9
        have B95 := bOn (bOn (bOn B6 B7) B8) B98
        have B9r := bOn B50 B95
        have x19 := (x17.kept B8).kept B98
        have x29 := (x27.kept B8).kept B98
        have z19 := (z1.kept B8).kept B98
        have z29 := (z2.kept B8).kept B98
        have hz6 := B6.size
        have hz7 := B7.size
        have hz8 := B8.size
        have hz5 := B50.size
        have hx7 : n1 < w7.heap.size := x17.lt
        have hx72 : b1 < w7.heap.size := x27.box.lt
        have hx71 : n1 < w6.heap.size := x1.lt
        have hx73 : b1 < w6.heap.size := x2.box.lt
        clear o9 s9 bz b14 B9 hkp2 y1 y2 hv1 hv2 hstr x1 x2 x17 x27 z1 z2 hKJ hK0 y9
        obtain ⟨W, rfl⟩ : ∃ W, W = wr := ⟨_, rfl⟩
        go_wp2_with fail
        go_loopw [15] (fun i wl => ∃ (j : Nat) (new : Array Value), j ≤ K.length ∧ i = .int .i64 j ∧ new.size = K.length * 3 ∧ Box wl n1 new ∧ But n1 w9 wl) (fun i _ => K.length - (intOf i).toNat)
        case atStart => exact ⟨0, _, Nat.zero_le _, rfl, by simp [ndCells_size], x19, But.refl _ _⟩
        case round =>
          obtain ⟨j, new, hj, rfl, hns, hbx, hbut⟩ := hrel
          by_cases hjl : j < K.length
          · obtain ⟨t1, t2⟩ := ap_lt hjl
            have HB2 := Lib.hid (ap_bd hjl (show (K.length : Int) ≤ 9223372036854775807 by have := HBD.out.2.2; omega))
            have HJO := Lib.hid (show j * 3 + 3 ≤ new.size by omega)
            have HNS := Lib.hid hns
            clear hns
            go_upto_region 16 with (first | ((with_reducible apply stMid); rfl; rfl; exact hbx; exact HJO.out; rfl; exact all77; rintro w10 ⟨new2, hns2, hbx2⟩ hbut2 hsz2))
            have HNS2 := Lib.hid hns2
            clear hns2 hsz2
            have hb2 := HB2.out
            go_wp2
            go_roundw
            case measure => first | exact ap_meas' hjl | exact ap_meas hjl hb2
            case rel => exact ⟨j + 1, new2, hjl, (by first | rfl | exact congrArg (Value.int .i64) (ap_succ hb2)), HNS2.out.trans HNS.out, hbx2, hbut.trans hbut2⟩
          · obtain rfl := ap_end hjl hj
            have k3 : decide ((K.length : Int) < (K.length : Int)) = false := by simp
            have hKJ : wrap64 ((K.length : Int) - 1) = J := HKJ.out
            have n12 : n2 ≠ n1 := by omega
            have zl := hbut.box z19 n12
            have bl14 := hbut.box b149 (by omega)
            obtain ⟨_, _, hq1, gA⟩ := Nodes.ofBox zl J hJK0
            obtain ⟨rfl, rfl⟩ := Addr.mk.inj (Option.some.inj hq1) |> fun h => (⟨h.1, h.2.1⟩ : _ ∧ _)
            rw [← HKP.out, Nat.zero_add] at gA
            have gB := bl14.load (off := 0) (n := 3) (cs' := kp.cells) (Nat.le_refl _) (Array.extract_eq_self_of_le (Nat.le_refl _))
            have hne := neqNode kp kp
            rw [Nd.same_iff.2 rfl] at hne
            simp only [Bool.not_true] at hne
            go_upto_region 18 with fail
            clear hq1
            refine wp_region_kept (by kernel_rfl) (by kernel_rfl) ?_
            repeat first
              | go_big_quiet_skip
              | ((with_reducible apply q_ld); rfl; (with_reducible assumption); (simp only [List.set_cons_zero, List.set_cons_succ]; rfl))
              | go_big_quiet_step (fail)
            refine wpQuiet_nil ?_
            intro w10 B10
            clear gA gB hne k3 hKJ
            have hbB := hbut.on B10
            obtain ⟨hK4, hlb, hK2⟩ := HBD.out
            have B10r : Below W.heap.size W w10 := B9r.trans (hbB.below W.heap.size (by omega) B9r.size)
            have hO10 := owns_block hO fun k hk => B10r.block k (World.ownsRow.lt hO k hk).2
            have hok10 := hok.turn (W := w10) fun i v k hv hk => B10r.block k (hok.lt hv hk).2
            have X1 : BoxT w10 b1 (u8s KB).toArray 5 := (hbB.block b1 x29.box.lt (by omega)).trans x29
            have X2 : BoxT w10 b2' (u8s KB).toArray 5 := (hbB.block b2' z29.box.lt (by omega)).trans z29
            have hvs : vs.length = 2 * k := by have := hO.1; omega
            have hBw : w3.heap.size ≤ w10.heap.size := by have := Br.size; have := B10r.size; omega
            have e63 : 2 * k + 2 ≤ 9223372036854775807 / 65536 := by omega
            have ebt : (2 * k + 2) * 24 ≤ 140737488355328 := by omega
            have E63 := Lib.hid e63
            have EBT := Lib.hid ebt
            clear hlb hK2 e63 ebt hK4
            go_upto_region 20 with fail
            go_wp2_with (first | ((with_reducible apply w_slice (d := 107) (cs := #[.slice (some ⟨b1, 0, none⟩) KB.length KB.length, .slice (some ⟨b2', 0, none⟩) KB.length KB.length]) (e := 30)); ((simp only [List.map_toArray, List.map_cons, List.map_nil]); exact build_two_rows _ _ _ _ _)) | (at_builtin; refine apP (us := [.slice (some ⟨b1, 0, none⟩) KB.length KB.length, .slice (some ⟨b2', 0, none⟩) KB.length KB.length]) (m := 2) hO10 (by decide) (by decide) rfl rfl rfl (by intro u hu; simp at hu; rcases hu with rfl | rfl <;> rfl) E63.out EBT.out hBw ?_; intro v2 w11 hown2 hgr2))
            obtain ⟨f1, f2, f3⟩ := to_grow hO hok (by decide) B10r hgr2 hBw
            have l1 := X1.box.lt
            have l2 := X2.box.lt
            have g1 : W.heap.size ≤ b1 := by omega
            have g2 : W.heap.size ≤ b2' := by omega
            have hBW := Br.size
            obtain ⟨r1, r2⟩ := ap_more (w' := w11) hok10 hsep (fun q hq => ⟨(f2 q hq).1, by have := (f2 q hq).2; omega, by have := (f2 q hq).2; omega⟩) (show BoxT w11 b1 (u8s KB).toArray 5 from (f3 b1 g1 l1).trans X1) (show BoxT w11 b2' (u8s KB).toArray 5 from (f3 b2' g2 l2).trans X2) (by omega) (by omega) (by omega) (k1 := KB.length) (k2 := KB.length) (by simp [u8s]) (by simp [u8s]) (by have := HBD.out.2.1; omega) (by have := HBD.out.2.1; omega)
            have hkl := HKL.out
            have hb2 := HBD.out.1
            go_roundw
            case measure => first | exact ap_meas' hkl | exact ap_meas hkl hb2
            case rel => exact ⟨k + 1, _, hkl, (by first | rfl | exact congrArg (Value.int .i64) (ap_succ hb2)), hown2, r1, r2, (Br.trans (B10r.mono hBW)).trans f1⟩
      · obtain rfl := ap_end hkl hk
        have k3 : decide ((l.length : Int) < (l.length : Int)) = false := by simp
        obtain ⟨a7, c7, rfl⟩ := own_formV hO
        have hvs : vs.length = 2 * l.length := by have := hO.1; omega
        have HVS := Lib.hid hvs
        clear hvs
        have hO' : wr.ownsRow w3.heap.size 30 1 (.slice a7 vs.length c7) vs.length vs := by
          have h := hO
          rw [← HVS.out] at h
          exact h
        go_wp2_with fail
        refine (law01_ApartBytes vs a7 c7 w3.heap.size wr (by have := HVS.out; omega) (ap_list_own hO' hok (by decide)) hok hsep Br.size).mono ?_
        rintro e w4 ⟨rfl, T4⟩
        have B43 : Below w3.heap.size w3 w4 := Br.trans (T4.below fun k hk => ⟨by have := Br.size; omega, fun hh => by have := (ap_H_ge hok hh).1; omega⟩)
        have hT4 := hT3.kept B43
        go_wp2_with fail
        refine (tree_Root _ _).mono ?_
        rintro e w5 ⟨rfl, B5⟩
        go_wp2_with fail
        refine (tree_Kids p hp hc ⟨0, 0, 0⟩ ⟨Int.le_refl 0, Int.pow_pos (by decide), Int.le_refl 0, by show 0 < p.N; omega⟩ _ (hT4.kept B5)).mono ?_
        rintro e w6 ⟨⟨nb, bb, rfl, _, _, _, _, _⟩, B6⟩
        rw [Pb.kids_root hc]
        have hq : ∀ w, (binOp .eql 34 (.agg (Nd.mk 0 0 0).cells) (.agg #[.int .u32 0, .int .i64 0, .int .i64 0])).run Try.prog w = .ok (.bool true) w := fun w => eqlNode ⟨0, 0, 0⟩ ⟨0, 0, 0⟩ w
        go_wp2_with fail
        refine (tree_Root _ _).mono ?_
        rintro e w7 ⟨rfl, B7⟩
        go_wp2
        go_ret
        exact ⟨rfl, bOn B30 (bOn (bOn (bOn B43 B5) B6) B7)⟩
  · have hne : (probChk p != 0) = true := by simpa using hc
    go_wp2_with ((with_reducible apply ld); rfl; (with_reducible assumption); (simp only [List.set_cons_zero, List.set_cons_succ]; rfl))
    refine (tree_New_bad p a cap hp hc _ hw0).mono ?_
    rintro e w1 ⟨rfl, B1⟩
    go_wp2_with fail
    refine (law15_num _ _).mono ?_
    rintro e w2 ⟨rfl, B2⟩
    go_wp2_with fail
    refine (law15_knows _).mono ?_
    rintro e w3 ⟨rfl, B3⟩
    go_wp2
    go_ret
    exact ⟨rfl, bOn (bOn (bOn B0 B1) B2) B3⟩
end Go.Proofs.Ytiiljecocajdpaa
