import Derived.Test.YtkjnmjilkhigaaaFdocP
import Derived.Test.YtkjnmjilkhigaaaStar
set_option linter.unusedSimpArgs false
set_option linter.unusedVariables false
set_option linter.unnecessarySimpa false
/- Fano's machine, the document's: Result. -/
namespace Go.Proofs.Ytkjnmjilkhigaaa
open Go.RowKit

/-- The dip of the first nodes of the way. -/
def dipTo (s : Fm) (k : Nat) : Int := dipOf ((((s.top :: s.up).reverse).map (·.n.m)).take k)
theorem dipTo_succ {s : Fm} {k : Nat} {x : Spot} (h : ((s.top :: s.up).reverse)[k]? = some x) : dipTo s (k + 1) = min (dipTo s k) x.n.m := by
  unfold dipTo
  rw [List.take_add_one, List.getElem?_map, h]
  exact dipOf_snoc _ _
set_option maxRecDepth 5000 in
set_option maxHeartbeats 1000000 in
theorem fd_Result (p : Pb) (hp : p.Ok) (hc : probChk p = 0) (D : Int) (s : Fm) (hs : s.Ok p D) (A : DA) (w : World) (h : FdIn w p D s A) :
    Calls Try.prog 37 #[.pointer (some ⟨A.mb, 0, none⟩)] w (ResPost (p.fres s) w) := by
  have hL := Pb.L_le hc
  have hwl := (hs.way.facts hc).2.1
  have hNb := Pb.N_le hc
  go_enter Try.func37, Try.ntmps37
  go_upto_region 1 with fail
  refine name1 ?_
  intro w1 b21 B10
  have h1 := h.kept B10
  have c45 := h1.at_.c5
  have bn := Box.new w1 #[.bool false, .bool false, .slice none 0 0, .int .i64 0, .int .i64 0, .int .i64 0, .int .i64 0] 35
  go_upto_region 2 with (first | ((with_reducible apply ld); rfl; (with_reducible assumption); (simp only [List.set_cons_zero, List.set_cons_succ]; rfl)) | ((with_reducible apply w_build (d := 9) (cs := #[.bool false, .bool false, .slice none 0 0, .int .i64 0, .int .i64 0, .int .i64 s.work, .int .i64 0])); ((simp only [List.map_toArray, List.map_cons, List.map_nil]); exact build_res5 s.work _)) | ((with_reducible apply stO); rfl; rfl; exact bn; rfl; rfl; exact flatR; intro w2 b3 B2 ho3 hs3))
  have b3' : Box w2 w1.heap.size #[.bool false, .bool false, .slice none 0 0, .int .i64 0, .int .i64 0, .int .i64 s.work, .int .i64 0] := b3
  have B21 : Below w1.heap.size w1 w2 := ((Below.refl _ w1).alloc (Nat.le_refl _) _).trans B2
  have h2 := h1.kept B21
  have b22 := b21.kept B21
  have B20 := B10.trans (B21.mono B10.size)
  have hn3 : w.heap.size ≠ w1.heap.size := by have := b21.lt; omega
  have hge : w.heap.size ≤ w1.heap.size := B10.size
  have hfar : ∀ k, A.has k → k ≠ w1.heap.size := fun k hk => by have := h1.lt hk; omega
  have c46 := h2.at_.c6
  clear b3 B2 ho3 hs3 bn h1 b21 c45 B21
  cases hdn : s.done with
  | false =>
    rw [hdn] at c46
    have HDN := Lib.hid hdn
    clear hdn
    have g3 := b3'.load (off := 0) (n := 7) (cs' := #[.bool false, .bool false, .slice none 0 0, .int .i64 0, .int .i64 0, .int .i64 s.work, .int .i64 0]) (Nat.le_refl _) rfl
    go_wp2_with (first | ((with_reducible apply ld); rfl; (with_reducible assumption); (simp only [List.set_cons_zero, List.set_cons_succ]; rfl)) | ((with_reducible apply stO); rfl; rfl; exact b22; rfl; rfl; exact flatR; intro w3 b4 B3 ho3 hs3))
    refine bodyPost_ret (results_cellAgg rfl rfl (b4.load (off := 0) (n := 7) (cs' := #[.bool false, .bool false, .slice none 0 0, .int .i64 0, .int .i64 0, .int .i64 s.work, .int .i64 0]) (Nat.le_refl _) rfl)) rfl ?_
    refine (show ResPost _ _ _ _ from ⟨⟨none, 0, ?_, ?_⟩, B20.trans B3⟩)
    · unfold Pb.fres Rs.cells Pb.fbits Pb.ftot Pb.fdip
      rw [HDN.out]
      rfl
    · unfold Pb.fres Pb.fbits
      rw [HDN.out]
      exact ⟨rfl, .inl ⟨rfl, rfl⟩⟩
  | true =>
    rw [hdn] at c46
    have HDN := Lib.hid hdn
    have hlen := hs.len hc hdn
    have hbl : s.bits.length = p.N.toNat := (wayBits_len _ _).trans hlen
    have htot := hs.tot hc hdn
    have hdip := hs.dip hc hdn
    have HBL := Lib.hid hbl
    have HTD := Lib.hid (And.intro htot hdip)
    have HLEN := Lib.hid hlen
    clear hdn hlen hbl htot hdip
    have e0 := b3'.cell 0
    have e1 := b3'.cell 1
    simp only [List.getElem?_toArray, List.getElem?_cons_zero, List.getElem?_cons_succ] at e0 e1
    have z0 := b3'.frozen 0
    have z1 := b3'.frozen 1
    go_upto_region 6 with fail
    have bb := (b3'.setCell (i := 0) (.bool true)).setCell (i := 1) (.bool true)
    refine nameAny (fun W => FdIn W p D s A ∧ Box W w.heap.size #[.bool false, .bool false, .slice none 0 0, .int .i64 0, .int .i64 0, .int .i64 0, .int .i64 0] ∧ Box W w1.heap.size #[.bool true, .bool true, .slice none 0 0, .int .i64 0, .int .i64 0, .int .i64 s.work, .int .i64 0] ∧ Below w.heap.size w W) ⟨?_, ?_, bb, ?_⟩ ?_
    · exact h2.same (by simp) fun k hk => by rw [Below.heap_setCell _ _ _ _ (hfar k hk), Below.heap_setCell _ _ _ _ (hfar k hk)]
    · exact (b22.setOther (p := ⟨w1.heap.size, 0, none⟩) (Ne.symm hn3) _).setOther (p := ⟨w1.heap.size, 1, none⟩) (Ne.symm hn3) _
    · exact (B20.setCell (p := ⟨w1.heap.size, 0, none⟩) hge _).setCell (p := ⟨w1.heap.size, 1, none⟩) hge _
    clear h2 b22 b3' e0 e1 z0 z1 bb B20 c46
    rintro w3 ⟨h3, b23, b33, B30⟩
    have hpath := fun W (hB : Ext w3 W) => fd_Path p hc D s hs A W (h3.kept hB)
    obtain ⟨LN, hLN⟩ : ∃ LN, LN = p.L.toNat := ⟨_, rfl⟩
    have hLNi : p.L = (LN : Int) := by omega
    have HLI := Lib.hid (show (LN : Int) ≤ 1024 ∧ p.L.toNat = LN ∧ (LN : Int) ≤ p.N by omega)
    have c0 : w3.cell? ⟨A.mb, 0, none⟩ = some (.pointer (some ⟨A.tb, 0, none⟩)) := h3.at_.c0
    have c38 : w3.cell? ⟨A.tb, 38, none⟩ = some (.int .i64 (LN : Int)) := by
      rw [h3.tree.tree.cell 38, hp.cell38, hLNi]
    clear hLN hLNi
    (refine wp_region_plan [0, 2, 3, 4, 5, 6, 7, 8, 9] 1 [10, 11] 12 (by kernel_rfl) (by kernel_rfl) ?_; simp only [pickL, List.map_cons, List.map_nil, List.getD_cons_zero, List.getD_cons_succ, List.drop_succ_cons, List.drop_zero])
    have q38 := KeptW.cell c38
    have q0 := KeptW.cell c0
    repeat first
      | ((with_reducible apply det_nilG); rfl; rfl; (simp only [List.set_cons_zero, List.set_cons_succ]; rfl))
      | ((refine det_plain rfl ?_); (go_big_quiet_step (fail)); (refine wpQuiet_nil ?_))
    refine wpDet_nil ?_
    refine kn_callP (fun v w' => ∃ g c, v = .slice (some ⟨g, 0, none⟩) s.bits.length c ∧ w'.ownsRow w3.heap.size 5 1 (.slice (some ⟨g, 0, none⟩) s.bits.length c) s.bits.length (u8s s.bits)) rfl rfl rfl inferInstance rfl ?_ ?_ ?_
    · exact fun v x y hx ⟨g, c, e1, e2⟩ => ⟨g, c, e1, ownsN_block e2 fun k hk => hx.block k (World.ownsRow.lt e2 k hk).2⟩
    · intro W B _
      refine (hpath W B).mono ?_
      rintro e W' ⟨⟨a, c, rfl, hO⟩, B'⟩
      have hO' := owns_base hO B.size
      rcases hO.2 with ⟨_, h0⟩ | ⟨g, cap, cur, hv, _⟩
      · have := HBL.out; omega
      · obtain ⟨rfl, rfl⟩ : a = some ⟨g, 0, none⟩ ∧ c = cap := by simpa using hv
        exact ⟨⟨_, rfl, g, c, rfl, hO'⟩, B'⟩
    rintro v ⟨_, g, c, rfl, hOx⟩
    have hcl : s.bits.length ≤ c := ownsN_cap hOx
    simp only [List.set_cons_zero, List.set_cons_succ]
    have hjc : LN ≤ c := by have := HLI.out; have := HBL.out; omega
    repeat first
      | ((refine det_plain rfl ?_); ((with_reducible apply q_slHiC); rfl; rfl; exact hjc; (simp only [List.set_cons_zero, List.set_cons_succ]; rfl)); (refine wpQuiet_nil ?_))
      | ((refine det_plain rfl ?_); (go_big_quiet_step (fail)); (refine wpQuiet_nil ?_))
    refine wpDet_nil ?_
    rintro w4 B4 ⟨_, g', c', hg', xg⟩
    obtain ⟨rfl, rfl⟩ : g = g' ∧ c = c' := by simpa using hg'
    have hgl := World.ownsRow.lt xg g rfl
    have h4 := h3.kept B4
    have b24 := b23.kept B4
    have b34 := b33.kept B4
    have B40 := bOn B30 B4
    have hg3 : w1.heap.size < g := by have := b33.lt; omega
    have e2 := b34.cell 2
    simp only [List.getElem?_toArray, List.getElem?_cons_zero, List.getElem?_cons_succ] at e2
    have z2 := b34.frozen 2
    have hgw : w.heap.size ≤ w3.heap.size := B30.size
    clear q38 q0 c38 c0 hpath h3 b23 b33 B30 B4 hg' hOx
    go_upto_region 7 with fail
    have bb := b34.setCell (i := 2) (.slice (some ⟨g, 0, none⟩) LN c)
    refine nameAny (fun W => FdIn W p D s A ∧ Box W w.heap.size #[.bool false, .bool false, .slice none 0 0, .int .i64 0, .int .i64 0, .int .i64 0, .int .i64 0] ∧ Box W w1.heap.size #[.bool true, .bool true, .slice (some ⟨g, 0, none⟩) LN c, .int .i64 0, .int .i64 0, .int .i64 s.work, .int .i64 0] ∧ W.ownsRow w3.heap.size 5 1 (.slice (some ⟨g, 0, none⟩) s.bits.length c) s.bits.length (u8s s.bits) ∧ Below w.heap.size w W) ⟨?_, ?_, bb, ?_, ?_⟩ ?_
    · exact h4.same (by simp) fun k hk => Below.heap_setCell _ _ _ _ (hfar k hk)
    · exact b24.setOther (p := ⟨w1.heap.size, 2, none⟩) (Ne.symm hn3) _
    · exact ownsN_block xg fun k hk => Below.heap_setCell _ _ _ _ (by rw [← Option.some.inj hk]; show g ≠ w1.heap.size; omega)
    · exact B40.setCell (p := ⟨w1.heap.size, 2, none⟩) hge _
    clear h4 b24 b34 e2 z2 bb xg B40
    rintro w5 ⟨h5, b25, b35, xg, B50⟩
    obtain ⟨J, hJ⟩ : ∃ J, J = s.up.length := ⟨_, rfl⟩
    have hhere : Pure Try.prog 58 #[.pointer (some ⟨A.mb, 0, none⟩)] w5 (.pointer (some ⟨A.way, J * 5, none⟩)) := hJ ▸ fd_here p D s (by omega) A w5 h5
    rw [← hJ] at hwl
    have HJ := Lib.hid hJ
    clear hJ
    go_wp2_with fail
    refine hhere.mono ?_
    rintro e w6 ⟨rfl, B6⟩
    have h6 := h5.kept B6
    have b26 := b25.kept B6
    have b36 := b35.kept B6
    have xg6 := ownsN_block (w' := w6) xg fun k hk => B6.block k (World.ownsRow.lt xg k hk).2
    have B60 := bOn B50 B6
    have tm : w6.cell? ⟨A.way, J * 5 + 2, none⟩ = some (.int .i64 s.top.n.m) := HJ.out ▸ h6.top.2.1
    have e3 := b36.cell 3
    simp only [List.getElem?_toArray, List.getElem?_cons_zero, List.getElem?_cons_succ] at e3
    have z3 := b36.frozen 3
    have bb : Box (w6.setCell ⟨w1.heap.size, 3, none⟩ (.int .i64 s.top.n.m)) w1.heap.size #[.bool true, .bool true, .slice (some ⟨g, 0, none⟩) LN c, .int .i64 s.top.n.m, .int .i64 0, .int .i64 s.work, .int .i64 0] := b36.setCell (i := 3) (.int .i64 s.top.n.m)
    have hgn : g ≠ w1.heap.size := by omega
    have h7 : FdIn (w6.setCell ⟨w1.heap.size, 3, none⟩ (.int .i64 s.top.n.m)) p D s A := h6.same (by simp) fun k hk => Below.heap_setCell _ _ _ _ (hfar k hk)
    have b27 := b26.setOther (p := ⟨w1.heap.size, 3, none⟩) (Ne.symm hn3) (.int .i64 s.top.n.m)
    have xg7 : (w6.setCell ⟨w1.heap.size, 3, none⟩ (.int .i64 s.top.n.m)).ownsRow w3.heap.size 5 1 (.slice (some ⟨g, 0, none⟩) s.bits.length c) s.bits.length (u8s s.bits) := ownsN_block xg6 fun k hk => Below.heap_setCell _ _ _ _ (by rw [← Option.some.inj hk]; exact hgn)
    have B70 := B60.setCell (p := ⟨w1.heap.size, 3, none⟩) hge (.int .i64 s.top.n.m)
    clear hhere h5 b25 b35 xg B50 b26 b36 xg6 B60 h6 B6 h
    go_wp2_with fail
    go_loopw [4] (fun i wr => ∃ k : Nat, k ≤ J + 1 ∧ i = .int .i64 k ∧ FdIn wr p D s A ∧ Box wr w.heap.size #[.bool false, .bool false, .slice none 0 0, .int .i64 0, .int .i64 0, .int .i64 0, .int .i64 0] ∧ Box wr w1.heap.size #[.bool true, .bool true, .slice (some ⟨g, 0, none⟩) LN c, .int .i64 s.top.n.m, .int .i64 (dipTo s k), .int .i64 s.work, .int .i64 0] ∧ wr.ownsRow w3.heap.size 5 1 (.slice (some ⟨g, 0, none⟩) s.bits.length c) s.bits.length (u8s s.bits) ∧ Below w.heap.size w wr) (fun i _ => J + 1 - (intOf i).toNat)
    case atStart => exact ⟨0, Nat.zero_le _, rfl, h7, b27, bb, xg7, B70⟩
    case round =>
      obtain ⟨k, hk, rfl, hF, hZ, hT, hG, hB⟩ := hrel
      clear h7 b27 bb xg7 B70 tm e3 z3
      have c2 : wr.cell? ⟨A.mb, 2, none⟩ = some (.slice (some ⟨A.way, 0, none⟩) (J + 1) A.cap) := HJ.out ▸ hF.at_.c2
      by_cases hkJ : k < J + 1
      · have hlen : k < ((s.top :: s.up).reverse).length := by simp; have := HJ.out; omega
        obtain ⟨x, hx⟩ : ∃ x, ((s.top :: s.up).reverse)[k]? = some x := ⟨_, List.getElem?_eq_getElem hlen⟩
        have hcm : wr.cell? ⟨A.way, k * 5 + 2, none⟩ = some (.int .i64 x.n.m) := hF.cell (wayRow_nodes _ _ hx (j := 2) (by decide))
        have hd4 := hT.cell 4
        simp only [List.getElem?_toArray, List.getElem?_cons_zero, List.getElem?_cons_succ] at hd4
        have hsucc := dipTo_succ hx
        obtain ⟨dk, hdk⟩ : ∃ dk, dk = dipTo s k := ⟨_, rfl⟩
        rw [← hdk] at hd4 hsucc hT
        have HS := Lib.hid hsucc
        have k1 : decide ((k : Int) < (J : Int) + 1) = true := by simp; omega
        have k2 : (k : Int) < (J : Int) + 1 := by omega
        have HXX := Lib.hid hx
        clear hlen hx hsucc hdk
        go_upto_region 11 with fail
        refine wp_region_kept (by kernel_rfl) (by kernel_rfl) ?_
        have q2 := KeptW.cell c2
        have qm := KeptW.cell hcm
        have qd := KeptW.cell hd4
        repeat first
          | go_big_quiet_step (fail)
        refine wpQuiet_nil ?_
        intro w8 B8
        have hF := hF.kept B8
        have hZ := hZ.kept B8
        have hT := hT.kept B8
        have hG := ownsN_block (w' := w8) hG fun k hk => B8.block k (World.ownsRow.lt hG k hk).2
        have hB := bOn hB B8
        clear q2 c2 qm qd hcm hd4
        by_cases hlt : x.n.m < dk
        · have hl1 : decide (x.n.m < dk) = true := by simpa using hlt
          have hm : min dk x.n.m = x.n.m := Int.min_eq_right (by omega)
          have HM := Lib.hid hm
          clear hm
          have c2 : w8.cell? ⟨A.mb, 2, none⟩ = some (.slice (some ⟨A.way, 0, none⟩) (J + 1) A.cap) := HJ.out ▸ hF.at_.c2
          have hcm : w8.cell? ⟨A.way, k * 5 + 2, none⟩ = some (.int .i64 x.n.m) := hF.cell (wayRow_nodes _ _ HXX.out (j := 2) (by decide))
          have hd4 := hT.cell 4
          simp only [List.getElem?_toArray, List.getElem?_cons_zero, List.getElem?_cons_succ] at hd4
          have hz4 := hT.frozen 4
          have hT' : Box (w8.setCell ⟨w1.heap.size, 4, none⟩ (.int .i64 x.n.m)) w1.heap.size #[.bool true, .bool true, .slice (some ⟨g, 0, none⟩) LN c, .int .i64 s.top.n.m, .int .i64 (dipTo s (k + 1)), .int .i64 s.work, .int .i64 0] := by
            rw [HS.out, HM.out]
            exact hT.setCell (i := 4) (.int .i64 x.n.m)
          have hF' : FdIn (w8.setCell ⟨w1.heap.size, 4, none⟩ (.int .i64 x.n.m)) p D s A := hF.same (by simp) fun k hk => Below.heap_setCell _ _ _ _ (hfar k hk)
          have hZ' := hZ.setOther (p := ⟨w1.heap.size, 4, none⟩) (Ne.symm hn3) (.int .i64 x.n.m)
          have hG' : (w8.setCell ⟨w1.heap.size, 4, none⟩ (.int .i64 x.n.m)).ownsRow w3.heap.size 5 1 (.slice (some ⟨g, 0, none⟩) s.bits.length c) s.bits.length (u8s s.bits) := ownsN_block hG fun k hk => Below.heap_setCell _ _ _ _ (by rw [← Option.some.inj hk]; exact hgn)
          have hB' := hB.setCell (p := ⟨w1.heap.size, 4, none⟩) hge (.int .i64 x.n.m)
          go_wp2_with fail
          go_roundw
          case measure => simp only [intOf]; omega
          case rel => exact ⟨k + 1, hkJ, (by first | rfl | exact congrArg (Value.int .i64) (ap_succ (by omega))), hF', hZ', hT', hG', hB'⟩
        · have hl1 : decide (x.n.m < dk) = false := by simpa using hlt
          have hm : min dk x.n.m = dk := Int.min_eq_left (by omega)
          have hT' : Box w8 w1.heap.size #[.bool true, .bool true, .slice (some ⟨g, 0, none⟩) LN c, .int .i64 s.top.n.m, .int .i64 (dipTo s (k + 1)), .int .i64 s.work, .int .i64 0] := by
            rw [HS.out, hm]
            exact hT
          clear hm
          go_wp2_with fail
          go_roundw
          case measure => simp only [intOf]; omega
          case rel => exact ⟨k + 1, hkJ, (by first | rfl | exact congrArg (Value.int .i64) (ap_succ (by omega))), hF, hZ, hT', hG, hB⟩
      · obtain rfl : k = J + 1 := by omega
        have k3 : decide (((J + 1 : Nat) : Int) < (J : Int) + 1) = false := by simp
        have hfull : dipTo s (J + 1) = p.fdip s := by
          unfold dipTo
          rw [HTD.out.2, List.take_of_length_le (by simp; have := HJ.out; omega)]
        have htot : s.top.n.m = p.ftot s := HTD.out.1.symm
        rw [hfull, htot] at hT
        clear hfull htot
        have g3 := hT.load (off := 0) (n := 7) (cs' := #[.bool true, .bool true, .slice (some ⟨g, 0, none⟩) LN c, .int .i64 (p.ftot s), .int .i64 (p.fdip s), .int .i64 s.work, .int .i64 0]) (Nat.le_refl _) rfl
        go_wp2_with (first | ((with_reducible apply ld); rfl; (with_reducible assumption); (simp only [List.set_cons_zero, List.set_cons_succ]; rfl)) | ((with_reducible apply stO); rfl; rfl; exact hZ; rfl; rfl; exact flatR; intro w9 b9 B9 ho9 hs9))
        refine bodyPost_ret (results_cellAgg rfl rfl (b9.load (off := 0) (n := 7) (cs' := #[.bool true, .bool true, .slice (some ⟨g, 0, none⟩) LN c, .int .i64 (p.ftot s), .int .i64 (p.fdip s), .int .i64 s.work, .int .i64 0]) (Nat.le_refl _) rfl)) rfl ?_
        have hfb : p.fbits s = s.bits.take LN := by unfold Pb.fbits; rw [HDN.out, HLI.out.2.1]; rfl
        have hbl := HBL.out
        have hli := HLI.out
        have hfl : (p.fbits s).length = LN := by rw [hfb, List.length_take]; omega
        refine (show ResPost _ _ _ _ from ⟨⟨some ⟨g, 0, none⟩, c, ?_, ?_⟩, hB.trans B9⟩)
        · show Ending.returned _ = .returned (.agg #[.bool s.done, .bool s.done, .slice (some ⟨g, 0, none⟩) (p.fbits s).length c, .int .i64 (p.ftot s), .int .i64 (p.fdip s), .int .i64 s.work, .int .i64 0])
          rw [HDN.out, hfl]
        · show w9.ownsRow _ _ _ (.slice _ (p.fbits s).length _) (p.fbits s).length (u8s (p.fbits s))
          rw [hfl, hfb]
          have h9 : w9.ownsRow w.heap.size 5 1 (.slice (some ⟨g, 0, none⟩) s.bits.length c) s.bits.length (u8s s.bits) := owns_base (ownsN_block hG fun k hk => ho9 k (by rw [← Option.some.inj hk]; show g ≠ _; omega)) hgw
          obtain ⟨m, hm⟩ : ∃ m, s.bits.length = LN + m := ⟨s.bits.length - LN, by omega⟩
          rw [hm] at h9
          have := owns_prefix_cap h9
          simpa [u8s, List.map_take] using this
end Go.Proofs.Ytkjnmjilkhigaaa

/- Fano's machine, the document's: New and Decode. -/
namespace Go.Proofs.Ytkjnmjilkhigaaa
open Go.RowKit

theorem build_spot1 (n : Nd) (w : World) : (Instr.build 110 #[(0, .agg n.cells)]).run Try.prog w = .ok (.agg #[.int .u32 n.s, .int .i64 n.d, .int .i64 n.m, .int .u8 0, .int .i64 0]) w := by
  unfold Nd.cells nodeCells
  go_simp
  try rfl
theorem build_fd (tb : Option Addr) (D : Int) (a : Option Addr) (n c : Nat) (w : World) : (Instr.build 113 #[(0, .pointer tb), (1, .int .i64 D), (2, .slice a n c)]).run Try.prog w = .ok (.agg #[.pointer tb, .int .i64 D, .slice a n c, .int .i64 0, .int .i64 0, .int .i64 0, .bool false]) w := by
  go_simp
  try rfl
def FdNewPost (p : Pb) (D : Int) (w : World) (e : Ending) (w' : World) : Prop := (∃ A : DA, e = .returned (.tuple #[.pointer (some ⟨A.mb, 0, none⟩), .int .i64 0]) ∧ FdIn w' p D Fm.start A ∧ ∀ k, A.has k → w.heap.size ≤ k) ∧ Below w.heap.size w w'
theorem fd_New_bad (p : Pb) (a : Option Addr) (cap : Nat) (D : Int) (hp : p.Ok) (h : probChk p ≠ 0) (w : World) (hw : Bytes w a p.B) :
    Pure Try.prog 28 #[.agg (p.cells (.slice a p.B.length cap)), .int .i64 D] w (.tuple #[.pointer none, .int .i64 (probChk p)]) := by
  have hc : (probChk p != 0) = true := by simp [h]
  go_enter Try.func28, Try.ntmps28
  go_upto_region 1 with fail
  refine name1 ?_
  intro w0 b2 B0
  obtain ⟨fk, fr, flev, fl, fwin, fcode, ftable, fall⟩ := b2.prob hp
  clear fk fr flev fl fwin fcode ftable
  go_wp2_with ((with_reducible apply ld); rfl; (with_reducible assumption); (simp only [List.set_cons_zero, List.set_cons_succ]; rfl))
  refine (doc_New_bad p a cap hp h _ (hw.kept B0)).mono ?_
  rintro e w1 ⟨rfl, B1⟩
  go_wp2
  go_ret2
  exact ⟨rfl, bOn B0 B1⟩
theorem fd_New_delta (p : Pb) (a : Option Addr) (cap : Nat) (D : Int) (hD : D < 1 ∨ 65536 < D) (hp : p.Ok) (h : probChk p = 0) (w : World) (hw : Bytes w a p.B) :
    Pure Try.prog 28 #[.agg (p.cells (.slice a p.B.length cap)), .int .i64 D] w (.tuple #[.pointer none, .int .i64 140]) := by
  have hd : decide (D < 1) = true ∨ (decide (D < 1) = false ∧ decide (65536 < D) = true) := by
    by_cases h : D < 1
    · exact .inl (by simpa using h)
    · exact .inr ⟨by simpa using (by omega : 1 ≤ D), by simp; omega⟩
  clear hD
  rcases hd with d1 | ⟨d1, d2⟩
  all_goals
    go_enter Try.func28, Try.ntmps28
    go_upto_region 1 with fail
    refine name1 ?_
    intro w0 b2 B0
    obtain ⟨fk, fr, flev, fl, fwin, fcode, ftable, fall⟩ := b2.prob hp
    clear fk fr flev fl fwin fcode ftable
    go_wp2_with ((with_reducible apply ld); rfl; (with_reducible assumption); (simp only [List.set_cons_zero, List.set_cons_succ]; rfl))
    refine (doc_New p a cap hp h _ (hw.kept B0)).mono ?_
    rintro e w1 ⟨⟨tb, g, c, rfl, hT, _⟩, B1⟩
    go_wp2
    go_ret2
    exact ⟨rfl, bOn B0 B1⟩
set_option maxRecDepth 5000 in
theorem fd_New (p : Pb) (a : Option Addr) (cap : Nat) (D : Int) (hD : 1 ≤ D) (hD2 : D ≤ 65536) (hp : p.Ok) (h : probChk p = 0) (w : World) (hw : Bytes w a p.B) :
    Calls Try.prog 28 #[.agg (p.cells (.slice a p.B.length cap)), .int .i64 D] w (FdNewPost p D w) := by
  obtain ⟨⟨k1, k2⟩, l1, l2, cr, hwin, _⟩ := probChk_ok h
  have hne : p.B.length ≠ 0 := by
    have h1 : 3 ≤ p.N := by unfold Pb.N; omega
    rcases cr with h | h <;> rw [h] at hwin <;> omega
  clear k1 k2 l1 l2 cr hwin
  have d1 : decide (D < 1) = false := by simp; omega
  have d2 : decide (65536 < D) = false := by simp; omega
  go_enter Try.func28, Try.ntmps28
  go_upto_region 1 with fail
  refine name1 ?_
  intro w0 b2 B0
  obtain ⟨fk, fr, flev, fl, fwin, fcode, ftable, fall⟩ := b2.prob hp
  clear fk fr flev fl fwin fcode ftable
  go_wp2_with ((with_reducible apply ld); rfl; (with_reducible assumption); (simp only [List.set_cons_zero, List.set_cons_succ]; rfl))
  refine (doc_New p a cap hp h _ (hw.kept B0)).mono ?_
  rintro e w1 ⟨⟨tb, g, c, rfl, hT, ht1, ht2⟩, B1⟩
  have B10 := bOn B0 B1
  clear fall b2
  go_wp2_with fail
  refine (doc_Root _ _).mono ?_
  rintro e w2 ⟨rfl, B2⟩
  have hT2 := hT.kept B2
  have B20 := bOn B10 B2
  have hgl : g < w1.heap.size := by
    obtain ⟨b', o', ha, hc'⟩ := hT.win.cell 0 (by omega)
    obtain ⟨rfl, rfl⟩ : g = b' ∧ 0 = o' := by simpa using ha
    exact lt_of_cell hc'
  have htl := hT.tree.lt
  have hs2 := B2.size
  clear hT B10 B2
  go_wp2_with (first | ((with_reducible apply w_build (d := 26) (cs := #[.int .u32 0, .int .i64 0, .int .i64 0, .int .u8 0, .int .i64 0])); ((simp only [List.map_toArray, List.map_cons, List.map_nil]); exact build_spot1 ⟨0, 0, 0⟩ _)) | ((with_reducible apply w_slice (d := 27) (cs := #[.int .u32 0, .int .i64 0, .int .i64 0, .int .u8 0, .int .i64 0]) (e := 110)); ((simp only [List.map_toArray, List.map_cons, List.map_nil]); exact build_spots ⟨0, 0, 0⟩ 0 _)) | ((with_reducible apply w_build (d := 28) (cs := #[.pointer (some ⟨tb, 0, none⟩), .int .i64 D, .slice (some ⟨w2.heap.size, 0, none⟩) 1 1, .int .i64 0, .int .i64 0, .int .i64 0, .bool false])); ((simp only [List.map_toArray, List.map_cons, List.map_nil]); exact build_fd _ _ _ _ _ _)))
  go_ret2
  have hs0 := B0.size
  have xw : BoxT ((w2.alloc (.cells #[.int .u32 0, .int .i64 0, .int .i64 0, .int .u8 0, .int .i64 0] 110)).alloc (.cells #[.pointer (some ⟨tb, 0, none⟩), .int .i64 D, .slice (some ⟨w2.heap.size, 0, none⟩) 1 1, .int .i64 0, .int .i64 0, .int .i64 0, .bool false] 113)) w2.heap.size #[.int .u32 0, .int .i64 0, .int .i64 0, .int .u8 0, .int .i64 0] 110 := (BoxT.new _ _ _).kept ((Below.refl _ _).alloc (Nat.le_refl _) _)
  have xm := Box.new (w2.alloc (.cells #[.int .u32 0, .int .i64 0, .int .i64 0, .int .u8 0, .int .i64 0] 110)) #[.pointer (some ⟨tb, 0, none⟩), .int .i64 D, .slice (some ⟨w2.heap.size, 0, none⟩) 1 1, .int .i64 0, .int .i64 0, .int .i64 0, .bool false] 113
  have hsz : (w2.alloc (.cells #[.int .u32 0, .int .i64 0, .int .i64 0, .int .u8 0, .int .i64 0] 110)).heap.size = w2.heap.size + 1 := by simp
  rw [hsz] at xm
  have BB := ((Below.refl w2.heap.size w2).alloc (Nat.le_refl _) (.cells #[.int .u32 0, .int .i64 0, .int .i64 0, .int .u8 0, .int .i64 0] 110)).alloc (by simp) (.cells #[.pointer (some ⟨tb, 0, none⟩), .int .i64 D, .slice (some ⟨w2.heap.size, 0, none⟩) 1 1, .int .i64 0, .int .i64 0, .int .i64 0, .bool false] 113)
  refine (show FdNewPost _ _ _ _ _ from ⟨⟨⟨w2.heap.size + 1, w2.heap.size, 1, tb, g, c⟩, by first | rfl | simp, ⟨xm, hT2.kept BB, ⟨rfl, .inr ⟨w2.heap.size, 1, _, rfl, Nat.zero_le _, xw, Nat.le_refl _, by unfold maxLen; omega, rfl, rfl⟩⟩, ⟨(by omega : w2.heap.size + 1 ≠ w2.heap.size), ⟨(by omega : w2.heap.size + 1 ≠ tb), (by omega : w2.heap.size + 1 ≠ g)⟩, ⟨(by omega : w2.heap.size ≠ tb), (by omega : w2.heap.size ≠ g)⟩⟩, by have := BB.size; show g < _; omega⟩, ?_⟩, B20.trans (BB.mono (by have := B20.size; omega))⟩)
  intro k hk
  have hk : k = w2.heap.size + 1 ∨ k = w2.heap.size ∨ k = tb ∨ k = g := hk
  have := B20.size
  omega
end Go.Proofs.Ytkjnmjilkhigaaa

/- Fano's machine, the document's: Decode. -/
namespace Go.Proofs.Ytkjnmjilkhigaaa
open Go.RowKit

set_option maxRecDepth 5000 in
theorem fd_Decode (p : Pb) (a : Option Addr) (cap : Nat) (b D : Int) (hp : p.Ok) (w : World) (hw : Bytes w a p.B) :
    Calls Try.prog 13 #[.agg (p.cells (.slice a p.B.length cap)), .int .i64 b, .int .i64 D] w (ResErr (p.fanoR b D) (p.fanoE b D) w) := by
  go_enter Try.func13, Try.ntmps13
  go_upto_region 1 with fail
  refine name2 ?_
  intro w0 b3 b6 B0
  have hw0 := hw.kept B0
  obtain ⟨fk, fr, flev, fl, fwin, fcode, ftable, fall⟩ := b3.prob hp
  clear fk fr flev fl fwin fcode ftable b3
  have flat0 : Flat #[.bool false, .bool false, .slice none 0 0, .int .i64 0, .int .i64 0, .int .i64 0, .int .i64 0] := flatR
  by_cases hc : probChk p = 0
  · by_cases hD : D < 1 ∨ 65536 < D
    · have e1 : p.fanoR b D = Rs.zero := by unfold Pb.fanoR; rw [if_neg (by simp [hc]), if_pos hD]
      have e2 : p.fanoE b D = 140 := by unfold Pb.fanoE; rw [if_neg (by simp [hc]), if_pos hD]
      have E := Lib.hid (And.intro e1 e2)
      clear e1 e2
      go_wp2_with ((with_reducible apply ld); rfl; (with_reducible assumption); (simp only [List.set_cons_zero, List.set_cons_succ]; rfl))
      refine (fd_New_delta p a cap D hD hp hc _ hw0).mono ?_
      rintro e w1 ⟨rfl, B1⟩
      have b61 := b6.kept B1
      have B10 := bOn B0 B1
      clear fall b6 hw0 hD
      go_wp2_with (first | ((with_reducible apply ld); rfl; (with_reducible assumption); (simp only [List.set_cons_zero, List.set_cons_succ]; rfl)) | ((with_reducible apply w_build (d := 18) (cs := #[.bool false, .bool false, .slice none 0 0, .int .i64 0, .int .i64 0, .int .i64 0, .int .i64 0])); ((simp only [List.map_toArray, List.map_cons, List.map_nil]); exact build_res0 _)) | ((with_reducible apply stO); rfl; rfl; exact b61; rfl; rfl; exact flat0; intro w2 b4 B2 ho3 hs3))
      refine bodyPost_ret (results_aggTmp rfl rfl rfl (b4.load (off := 0) (n := 7) (cs' := #[.bool false, .bool false, .slice none 0 0, .int .i64 0, .int .i64 0, .int .i64 0, .int .i64 0]) (Nat.le_refl _) rfl)) rfl ?_
      rw [E.out.1, E.out.2]; exact ResErr.zero rfl (B10.trans (B2.mono (by omega)))
    · have hD1 : 1 ≤ D := by omega
      have hD2 : D ≤ 65536 := by omega
      go_wp2_with ((with_reducible apply ld); rfl; (with_reducible assumption); (simp only [List.set_cons_zero, List.set_cons_succ]; rfl))
      refine (fd_New p a cap D hD1 hD2 hp hc _ hw0).mono ?_
      rintro e w1 ⟨⟨A, rfl, hM, hA⟩, B1⟩
      have b61 := b6.kept B1
      have B10 := bOn B0 B1
      have hA6 : ∀ k, A.has k → k ≠ w.heap.size + 1 := fun k hk => by have := hA k hk; have := b6.lt; omega
      have hAw : ∀ k, A.has k → w.heap.size ≤ k := fun k hk => Nat.le_trans B0.size (hA k hk)
      clear fall b6 hw0
      by_cases hb : b < 0 ∨ 1048576 < b
      · have e1 : p.fanoR b D = Rs.zero := by unfold Pb.fanoR; rw [if_neg (by simp [hc]), if_neg hD, if_pos hb]
        have e2 : p.fanoE b D = 1 := by unfold Pb.fanoE; rw [if_neg (by simp [hc]), if_neg hD, if_pos hb]
        have E := Lib.hid (And.intro e1 e2)
        clear e1 e2 hD
        go_wp2_with fail
        refine (fd_Run_bad _ b hb _).mono ?_
        rintro e w2 ⟨rfl, B2⟩
        have b62 := b61.kept B2
        have B20 := bOn B10 B2
        clear hb
        go_wp2_with (first | ((with_reducible apply ld); rfl; (with_reducible assumption); (simp only [List.set_cons_zero, List.set_cons_succ]; rfl)) | ((with_reducible apply w_build (d := 28) (cs := #[.bool false, .bool false, .slice none 0 0, .int .i64 0, .int .i64 0, .int .i64 0, .int .i64 0])); ((simp only [List.map_toArray, List.map_cons, List.map_nil]); exact build_res0 _)) | ((with_reducible apply stO); rfl; rfl; exact b62; rfl; rfl; exact flat0; intro w3 b4 B3 ho3 hs3))
        refine bodyPost_ret (results_aggTmp rfl rfl rfl (b4.load (off := 0) (n := 7) (cs' := #[.bool false, .bool false, .slice none 0 0, .int .i64 0, .int .i64 0, .int .i64 0, .int .i64 0]) (Nat.le_refl _) rfl)) rfl ?_
        rw [E.out.1, E.out.2]; exact ResErr.zero rfl (B20.trans (B3.mono (by omega)))
      · obtain ⟨n, rfl⟩ : ∃ n : Nat, b = n := ⟨b.toNat, by omega⟩
        have e1 : p.fanoR n D = p.fres (p.frun D n Fm.start) := by unfold Pb.fanoR; rw [if_neg (by simp [hc]), if_neg hD, if_neg hb]; rfl
        have e2 : p.fanoE n D = 0 := by unfold Pb.fanoE; rw [if_neg (by simp [hc]), if_neg hD, if_neg hb]
        have E := Lib.hid (And.intro e1 e2)
        clear e1 e2 hD
        have hn : n ≤ 1048576 := by omega
        have hok := (Fm.Ok.start hc hD1).run hc hD1 n
        clear hb
        go_wp2_with fail
        refine (fd_Run p hp hc D hD1 hD2 _ (Fm.Ok.start hc hD1) A n hn _ hM).mono ?_
        rintro e w2 ⟨rfl, ⟨g, c, hM2, hg⟩, T2⟩
        have B2 : Below w.heap.size w1 w2 := T2.below' B10.size fun k hk hh => hAw k (by rcases hh with rfl | rfl; exact .inl rfl; exact .inr (.inl rfl))
        have B20 := B10.trans B2
        have b62 := b61.turn T2 (fun hh => by rcases hh with hh | hh; exact hA6 _ (.inl rfl) hh.symm; exact hA6 _ (.inr (.inl rfl)) hh.symm)
        obtain ⟨sk, hsk⟩ : ∃ sk, sk = p.frun D n Fm.start := ⟨_, rfl⟩
        rw [← hsk] at hM2 hok ⊢
        have HSK := Lib.hid hsk.symm
        clear hsk b61 hM T2
        have hres := fd_Result p hp hc D sk hok { A with way := g, cap := c } w2 hM2
        have hres : Calls Try.prog 37 #[.pointer (some ⟨A.mb, 0, none⟩)] w2 (ResPost (p.fres sk) w2) := hres
        go_wp2_with fail
        refine hres.mono ?_
        rintro e w3 ⟨⟨ar, cr, rfl, hO⟩, B3⟩
        have b63 := b62.kept B3
        have B30 := bOn B20 B3
        have b62s := b62.lt
        clear hres b62 hM2
        have hfl : Flat ((p.fres sk).cells (.slice ar (p.fres sk).bits.length cr)) := flatR
        obtain ⟨R, hR⟩ : ∃ R, R = (p.fres sk).cells (.slice ar (p.fres sk).bits.length cr) := ⟨_, rfl⟩
        have hRs : R.size = 7 := by rw [hR]; rfl
        rw [← hR] at hfl ⊢
        have HR := Lib.hid hR
        have HRS := Lib.hid hRs
        clear hR hRs
        go_wp2_with (first | ((with_reducible apply ld); rfl; (with_reducible assumption); (simp only [List.set_cons_zero, List.set_cons_succ]; rfl)) | ((with_reducible apply stO); rfl; rfl; exact b63; rfl; exact HRS.out; exact hfl; intro w4 b4 B4 ho4 hs4))
        refine bodyPost_ret (results_aggTmp rfl rfl rfl (b4.load (off := 0) (n := 7) (cs' := R) (by rw [HRS.out]; exact Nat.le_refl _) (Array.extract_eq_self_of_le (by rw [HRS.out]; exact Nat.le_refl _)))) rfl ?_
        have B40 := B30.trans (B4.mono (by omega : w.heap.size ≤ w.heap.size + 1))
        rw [E.out.1, E.out.2, HSK.out]
        refine (show ResErr _ _ _ _ _ from ⟨⟨ar, cr, (by rw [HR.out]; rfl), ?_⟩, B40⟩)
        refine owns_base (ownsN_block hO fun k hk => ho4 k fun e => ?_) B20.size
        have := (World.ownsRow.lt hO k hk).1
        have := b62s
        omega
  · have e1 : p.fanoR b D = Rs.zero := by unfold Pb.fanoR; rw [if_pos hc]
    have e2 : p.fanoE b D = probChk p := by unfold Pb.fanoE; rw [if_pos hc]
    have E := Lib.hid (And.intro e1 e2)
    clear e1 e2
    have hne : (probChk p != 0) = true := by simpa using hc
    go_wp2_with ((with_reducible apply ld); rfl; (with_reducible assumption); (simp only [List.set_cons_zero, List.set_cons_succ]; rfl))
    refine (fd_New_bad p a cap D hp hc _ hw0).mono ?_
    rintro e w1 ⟨rfl, B1⟩
    have b61 := b6.kept B1
    have B10 := bOn B0 B1
    clear fall b6 hw0
    go_wp2_with (first | ((with_reducible apply ld); rfl; (with_reducible assumption); (simp only [List.set_cons_zero, List.set_cons_succ]; rfl)) | ((with_reducible apply w_build (d := 18) (cs := #[.bool false, .bool false, .slice none 0 0, .int .i64 0, .int .i64 0, .int .i64 0, .int .i64 0])); ((simp only [List.map_toArray, List.map_cons, List.map_nil]); exact build_res0 _)) | ((with_reducible apply stO); rfl; rfl; exact b61; rfl; rfl; exact flat0; intro w2 b4 B2 ho3 hs3))
    refine bodyPost_ret (results_aggTmp rfl rfl rfl (b4.load (off := 0) (n := 7) (cs' := #[.bool false, .bool false, .slice none 0 0, .int .i64 0, .int .i64 0, .int .i64 0, .int .i64 0]) (Nat.le_refl _) rfl)) rfl ?_
    rw [E.out.1, E.out.2]; exact ResErr.zero rfl (B10.trans (B2.mono (by omega)))
end Go.Proofs.Ytkjnmjilkhigaaa

/- Orders as a tree, where a word on the world stays true until the operation s comes: what it fixes may come at any time ahead of s. No program's text is named here. -/
namespace Go.Proofs.Ytkjnmjilkhigaaa
open Go.RowKit

section
variable {P : Program} {ops : Array Oper} {md : Region.Mode} {Q : Exit → Act → World → Prop} {I : World → Prop} {s : Nat}
def wpAnyI (P : Program) (md : Region.Mode) (ops : Array Oper) (I : World → Prop) (s : Nat) (Q : Exit → Act → World → Prop) : Nat → Array Bool → Act → World → Prop
  | 0, d, a, w => (d.getD s true = false → I w) ∧ Region.ready md ops d = [] ∧ Q .normal a w
  | f + 1, d, a, w => (d.getD s true = false → I w) ∧ (Region.ready md ops d = [] → Q .normal a w) ∧ ∀ i ∈ Region.ready md ops d, wpOp P ops Q i (wpAnyI P md ops I s Q f (d.setIfInBounds i true)) a w
theorem wpAny_of_I : ∀ (f : Nat) (d : Array Bool) (a : Act) (w : World), wpAnyI P md ops I s Q f d a w → wpAny P md ops Q f d a w
  | 0, _, _, _, h => h.2
  | f + 1, _, _, _, h => ⟨h.2.1, fun i hi => wpOp_mono (fun a w h' => wpAny_of_I f _ a w h') (h.2.2 i hi)⟩
theorem wpAnyI_I {f : Nat} {d : Array Bool} {a : Act} {w : World} (h : wpAnyI P md ops I s Q f d a w) : d.getD s true = false → I w := by
  cases f with
  | zero => exact h.1
  | succ f => exact h.1
theorem wpAnyI_pure {i : Nat} {oi os : Oper} {v : Value} (h0 : ops[i]? = some oi) (hg : oi.guard = none) (hs : ops[s]? = some os) (hsi : Region.waitsFor md ops s i = true) (hne : i ≠ s) (hsel : Region.noSelect ops = true) (hQ : ∀ e a w, Q e a w → e = .normal) : ∀ (f : Nat) (listed : Array Bool) (a : Act) (w : World),
    (∀ j oj, ops[j]? = some oj → j ≠ i → listed.getD j true = false → (∀ e ∈ oj.after, Region.binds md e = true → e.on ≠ i) → oi.apart ops oj = true) → i ∈ Region.ready md ops listed →
    (∀ w, I w → (execOp a.eval oi).run P w = .ok (.value v) w) → I w → listed.getD s true = false → wpAnyI P md ops I s Q f (listed.setIfInBounds i true) (a.put oi.dst v) w → wpAnyI P md ops I s Q (f + 1) listed a w := by
  have op0 : ∀ (K : Act → World → Prop) (a : Act) (w : World), I w → (∀ w, I w → (execOp a.eval oi).run P w = .ok (.value v) w) → K (a.put oi.dst v) w → wpOp P ops Q i K a w := fun K a w hw hv hK => by
    unfold wpOp
    rw [h0]
    simp only
    rw [if_pos (want_none hg)]
    refine .inl ?_
    unfold Oper.wp
    rw [hv w hw]
    exact hK
  have hjs : ∀ (listed : Array Bool), i ∈ Region.ready md ops listed → ∀ j ∈ Region.ready md ops listed, j ≠ s := fun listed hr j hj e => by
    subst e
    obtain ⟨_, oj, hoj, hall⟩ := mem_ready.1 hj
    obtain ⟨o', ho', e, he, hb, hon⟩ := Region.waitsFor_spec hsi
    obtain rfl : o' = oj := Option.some.inj (ho'.symm.trans hoj)
    have h1 := hall e he hb
    have h2 := (mem_ready.1 hr).1
    rw [hon, getD_both h2] at h1
    cases h1
  intro f
  induction f with
  | zero =>
    intro listed a w _ hr hv hw _ H
    refine ⟨fun _ => hw, fun hh => (by rw [hh] at hr; cases hr), fun j hj => ?_⟩
    by_cases hj0 : j = i
    · subst hj0; exact op0 _ _ _ hw hv H
    · have := ready_mono hj hj0
      rw [H.2.1] at this
      cases this
  | succ f ih =>
    intro listed a w hfree hr hv hw hsun H
    refine ⟨fun _ => hw, fun hh => (by rw [hh] at hr; cases hr), fun j hj => ?_⟩
    by_cases hj0 : j = i
    · subst hj0; exact op0 _ _ _ hw hv H
    have hjsn := hjs listed hr j hj
    obtain ⟨hjun, oj, hoj, hall⟩ := mem_ready.1 hj
    have hnot : ∀ e ∈ oj.after, Region.binds md e = true → e.on ≠ i := fun e he hb heq => by
      have h1 := hall e he hb
      have h2 := (mem_ready.1 hr).1
      rw [heq, getD_both h2] at h1
      cases h1
    have hap := hfree j oj hoj hj0 hjun hnot
    have step := wpOp_putP hoj (Region.noSelect_spec hsel j oj · · hoj) (Region.noSelect_spec hsel i oi · · h0) hap hQ (H.2.2 j (ready_mono hj hj0))
    refine wpOp_mono (fun a' w' ⟨e1, hk⟩ => ?_) step
    refine ih (listed.setIfInBounds j true) a' w' (fun k ok hk2 hk0 hun hno => ?_) (ready_mono hr (Ne.symm hj0)) (fun w hh => by rw [e1]; exact hv w hh) (wpAnyI_I hk (by rw [getD_set_ne true hjsn, getD_set_ne true hne]; exact hsun)) (by rw [getD_set_ne true hjsn]; exact hsun) ?_
    · refine hfree k ok hk2 hk0 ?_ hno
      by_cases hjk : j = k
      · subst hjk; exact hjun
      · rwa [getD_set_ne true hjk] at hun
    · rw [Array.setIfInBounds_comm _ _ hj0]
      exact hk
def wpOTI (P : Program) (ops : Array Oper) (Q : Exit → Act → World → Prop) (l : List Oper) (I : World → Prop) (s : Nat) : OT → Bool → Act → World → Prop
  | .nil, live, a, w => (live = true → I w) ∧ Q .normal a w
  | .pure i t, live, a, w => (live = true → I w) ∧ ∃ v, (∀ w, I w → (execOp a.eval (l.getD i default)).run P w = .ok (.value v) w) ∧ wpOTI P ops Q l I s t live (a.put (l.getD i default).dst v) w
  | .one i t, live, a, w => (live = true → I w) ∧ wpList P ops (fun e a w => e = .normal ∧ wpOTI P ops Q l I s t (live && i != s) a w) [l.getD i default] a w
  | .two i t j u, live, a, w => (live = true → I w) ∧ wpList P ops (fun e a w => e = .normal ∧ wpOTI P ops Q l I s t (live && i != s) a w) [l.getD i default] a w ∧ wpList P ops (fun e a w => e = .normal ∧ wpOTI P ops Q l I s u (live && j != s) a w) [l.getD j default] a w
def otI (md : Region.Mode) (ops : Array Oper) (s : Nat) : OT → Array Bool → Bool
  | .nil, d => (Region.ready md ops d).isEmpty
  | .pure i t, d => (Region.ready md ops d).contains i && (Region.free md ops d i && (((ops[i]?).map (·.guard.isNone)).getD false && (Region.waitsFor md ops s i && (decide (i ≠ s) && (!d.getD s true && otI md ops s t (d.setIfInBounds i true))))))
  | .one i t, d => (Region.ready md ops d == [i]) && otI md ops s t (d.setIfInBounds i true)
  | .two i t j u, d => (Region.ready md ops d == [i, j]) && (otI md ops s t (d.setIfInBounds i true) && (otI md ops s u (d.setIfInBounds j true) && decide (t.len = u.len)))
theorem live_set {d : Array Bool} {i : Nat} (hi : d.getD i true = false) : (!(d.setIfInBounds i true).getD s true) = ((!d.getD s true) && i != s) := by
  have hlt : i < d.size := by
    rcases Nat.lt_or_ge i d.size with h | h
    · exact h
    · simp [Array.getElem?_eq_none h] at hi
  by_cases h : i = s
  · subst h
    simp [hlt]
  · rw [getD_set_ne true h]
    simp [h]
theorem wpAnyI_of_tree {l : List Oper} (hl : ∀ i : Nat, ops[i]? = l[i]?) (hsel : Region.noSelect ops = true) {os : Oper} (hs : ops[s]? = some os) : ∀ (t : OT) (d : Array Bool) (a : Act) (w : World), otI md ops s t d = true → wpOTI P ops Q l I s t (!d.getD s true) a w → wpAnyI P md ops I s (OnlyNormal Q) t.len d a w
  | .nil, d, a, w, hB, h => ⟨fun hh => h.1 (by rw [hh]; rfl), by simpa [otI] using hB, rfl, h.2⟩
  | .one i t, d, a, w, hB, h => by
    simp only [otI, Bool.and_eq_true, beq_iff_eq] at hB
    obtain ⟨h1, h2⟩ := hB
    refine ⟨fun hh => h.1 (by rw [hh]; rfl), fun hh => (by rw [hh] at h1; cases h1), fun j hj => ?_⟩
    rw [h1] at hj
    obtain rfl := List.mem_singleton.1 hj
    have hr : j ∈ Region.ready md ops d := by rw [h1]; simp
    obtain ⟨hun, o, ho, _⟩ := mem_ready.1 hr
    have ho' : l.getD j default = o := by rw [hl j] at ho; rw [List.getD_eq_getElem?_getD, ho]; rfl
    unfold wpOTI at h
    rw [ho'] at h
    exact wpOp_of_list ho (fun a w hh => wpAnyI_of_tree hl hsel hs t _ a w h2 (by rw [live_set hun]; exact hh)) h.2
  | .two i t j u, d, a, w, hB, h => by
    simp only [otI, Bool.and_eq_true, beq_iff_eq, decide_eq_true_eq] at hB
    obtain ⟨h1, h2, h3, h4⟩ := hB
    unfold wpOTI at h
    refine ⟨fun hh => h.1 (by rw [hh]; rfl), fun hh => (by rw [hh] at h1; cases h1), fun k hk => ?_⟩
    have hr : k ∈ Region.ready md ops d := hk
    obtain ⟨hun, o, ho, _⟩ := mem_ready.1 hr
    have ho' : l.getD k default = o := by rw [hl k] at ho; rw [List.getD_eq_getElem?_getD, ho]; rfl
    rw [h1] at hk
    rcases List.mem_cons.1 hk with rfl | hk
    · rw [ho'] at h
      exact wpOp_of_list ho (fun a w hh => wpAnyI_of_tree hl hsel hs t _ a w h2 (by rw [live_set hun]; exact hh)) h.2.1
    · obtain rfl := List.mem_singleton.1 hk
      rw [ho'] at h
      exact wpOp_of_list ho (fun a w hh => by have := wpAnyI_of_tree hl hsel hs u _ a w h3 (by rw [live_set hun]; exact hh); rwa [← h4] at this) h.2.2
  | .pure i t, d, a, w, hB, h => by
    simp only [otI, Bool.and_eq_true, decide_eq_true_eq, Bool.not_eq_true'] at hB
    obtain ⟨h1, h2, h3, h4, h5, h6, h7⟩ := hB
    have hr : i ∈ Region.ready md ops d := by simpa using h1
    obtain ⟨hun, o, ho, _⟩ := mem_ready.1 hr
    have ho' : l.getD i default = o := by rw [hl i] at ho; rw [List.getD_eq_getElem?_getD, ho]; rfl
    have hg : o.guard = none := by rw [ho] at h3; simpa using h3
    unfold wpOTI at h
    rw [ho'] at h
    obtain ⟨hI, v, hv, hn⟩ := h
    exact wpAnyI_pure ho hg hs h4 h5 hsel (fun _ _ _ h => h.1) t.len d a w (Region.free_spec ho h2) hr hv (hI (by rw [h6]; rfl)) h6 (wpAnyI_of_tree hl hsel hs t _ _ _ h7 (by rw [live_set hun]; simp only [bne_iff_ne, ne_eq, h5, not_false_eq_true, Bool.and_true, (by simpa using h5 : (i != s) = true)]; exact hn))
/-- THE LAW. -/
theorem wp_region_treeI {id : Nat} {a : Act} {w : World} {l : List Oper} (I : World → Prop) (s : Nat) (t : OT) (hm : P.follows .mixedOrders = true) (hB : (Region.noSelect l.toArray && (decide (s < l.toArray.size) && (otI .any l.toArray s t (Array.replicate l.toArray.size false) && decide (t.len = l.toArray.size)))) = true)
    (h : ∀ w1, Ext w w1 → wpOTI P l.toArray Q l I s t true a w1) : (Code.region id l.toArray true).wp P Q a w := by
  simp only [Bool.and_eq_true, decide_eq_true_eq] at hB
  obtain ⟨hsel, hs, hord, hsz⟩ := hB
  refine wp_region_any hm ?_
  refine wpAny_Q (Q := OnlyNormal Q) (fun _ _ _ h => h.2) _ _ _ _ ?_
  have hlive : (!(Array.replicate l.toArray.size false).getD s true) = true := by
    have : s < l.length := by simpa using hs
    simp [Array.getElem?_replicate, this]
  have := wpAnyI_of_tree (P := P) (md := .any) (Q := Q) (I := I) (l := l) (fun i => by simp) hsel (Array.getElem?_eq_getElem hs) t _ a _ hord (by rw [hlive]; exact h _ (Below.refl _ w).drew)
  rw [hsz] at this
  exact wpAny_of_I _ _ _ _ this
end
end Go.Proofs.Ytkjnmjilkhigaaa
