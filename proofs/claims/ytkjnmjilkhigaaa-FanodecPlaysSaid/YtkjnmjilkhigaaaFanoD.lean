import Derived.Test.YtkjnmjilkhigaaaFanoQ
import Derived.Test.YtkjnmjilkhigaaaStar
import Derived.Test.YtkjnmjilkhigaaaDip2
import Derived.Test.YtkjnmjilkhigaaaDocKid
set_option linter.unusedSimpArgs false
set_option linter.unusedVariables false
set_option linter.unnecessarySimpa false
/- Fano's machine, the program's: Result. -/
namespace Go.Proofs.Ytkjnmjilkhigaaa
open Go.RowKit

/-- A decoder's result. -/
structure Rs where
  dec : Bool
  exact_ : Bool
  bits : List Nat
  m : Int
  dip : Int
  work : Int
  drops : Int
def Rs.cells (r : Rs) (v : Value) : Array Value := #[.bool r.dec, .bool r.exact_, v, .int .i64 r.m, .int .i64 r.dip, .int .i64 r.work, .int .i64 r.drops]
/-- A result whose bits lie in new memory. -/
def ResPost (r : Rs) (w : World) (e : Ending) (w' : World) : Prop := (∃ a c, e = .returned (.agg (r.cells (.slice a r.bits.length c))) ∧ w'.ownsRow w.heap.size 5 1 (.slice a r.bits.length c) r.bits.length (u8s r.bits)) ∧ Below w.heap.size w w'
def Pb.fres (p : Pb) (s : Fm) : Rs := ⟨s.done, s.done, p.fbits s, p.ftot s, p.fdip s, s.work, 0⟩
theorem build_res5 (x : Int) (w : World) : (Instr.build 35 #[(5, .int .i64 x)]).run Try.prog w = .ok (.agg #[.bool false, .bool false, .slice none 0 0, .int .i64 0, .int .i64 0, .int .i64 x, .int .i64 0]) w := by
  go_simp
  try rfl
theorem flatR {a b : Bool} {o : Option Addr} {n c : Nat} {x y z u : Int} : Flat #[.bool a, .bool b, .slice o n c, .int .i64 x, .int .i64 y, .int .i64 z, .int .i64 u] := by
  intro v hv
  simp at hv
  rcases hv with rfl | rfl | rfl | rfl | rfl | rfl | rfl <;> exact ⟨fun _ h => (by cases h), fun _ h => (by cases h)⟩
/-- THE ARM, in a region that draws, for the head of a slice whose elements are one cell. -/
theorem q_slHiC {P : Program} {ops : Array Oper} {rest : List Oper} {l l' : List Value} {ds : List Deferred} {w : World} {Q : Act → Prop} {t e d g o n cap j : Nat} {x hi : Operand} {k' : IntKind} {ty : TypeId} {ps : String} {af : Array Edge}
    [S : SlTy P t e] [T : CellTy P e] (hx : (Act.mk l.toArray ds).eval x = .slice (some ⟨g, o, none⟩) n cap) (hhi : (Act.mk l.toArray ds).eval hi = .int k' (j : Int)) (h2 : j ≤ cap) (hs : l.set d (.slice (some ⟨g, o, none⟩) j cap) = l')
    (h : wpQuiet P ops (fun w' => ∃ s : KeptW w, w' = s.val) Q rest ⟨l'.toArray, ds⟩) : wpQuiet P ops (fun w' => ∃ s : KeptW w, w' = s.val) Q (⟨some d, .slice t x none (some hi) none, ty, ps, af, none⟩ :: rest) ⟨l.toArray, ds⟩ := by
  refine BigFrame.wpQuiet_want rfl fun K hK => ⟨.slice (some ⟨g, o, none⟩) j cap, fun w' ⟨s, hw⟩ => ?_, hK _ (by rw [put_list, hs]; exact h)⟩
  have hr : (Instr.sliceAt t (.slice (some ⟨g, o, none⟩) n cap) none (some (.int k' (j : Int))) none).run P w' = .ok (.slice (some ⟨g, o, none⟩) j cap) w' := by
    have hi1 : ¬ cap < j := by omega
    simp [Instr.sliceAt, Instr.slice, Sem.run_bind, run_underlying S.out, Instr.sliceBounds, Instr.sliceBound, asIntOf, Sem.run_pure, hi1, run_sizeCell T, Addr.add, show j ≤ cap from h2]
  unfold Oper.quietAt execOp
  simp [hx, hhi, Sem.run_bind, hr, Oper.quietUpon]
/-- the head of a row, with the room of the whole -/
theorem owns_prefix_cap {w : World} {B e g n m c : Nat} {xs : List Value} (h : w.ownsRow B e 1 (.slice (some ⟨g, 0, none⟩) (n + m) c) (n + m) xs) : w.ownsRow B e 1 (.slice (some ⟨g, 0, none⟩) n c) n (xs.take n) := by
  have := ownsN_prefix (sz := 1) h
  rwa [Nat.mul_one] at this
set_option maxRecDepth 5000 in
theorem fano_Result (p : Pb) (hp : p.Ok) (hc : probChk p = 0) (D : Int) (s : Fm) (hs : s.Ok p D) (A : FA) (w : World) (h : FanoIn w p D s A) :
    Calls Try.prog 19 #[.pointer (some ⟨A.mb, 0, none⟩)] w (ResPost (p.fres s) w) := by
  have hL := Pb.L_le hc
  go_enter Try.func19, Try.ntmps19
  go_upto_region 1 with fail
  refine name1 ?_
  intro w0 b2 B0
  have h0 := h.kept B0
  go_wp2_with fail
  refine (fano_none p hp D s A w0 h0).mono ?_
  rintro e w1 ⟨rfl, B1⟩
  have h1 := h0.kept B1
  have b21 := b2.kept B1
  have c45 := (h1.at_ hp).c45
  have B10 := bOn B0 B1
  clear h0 b2 h B1
  have bn := Box.new w1 #[.bool false, .bool false, .slice none 0 0, .int .i64 0, .int .i64 0, .int .i64 0, .int .i64 0] 35
  go_upto_region 4 with (first | ((with_reducible apply ld); rfl; (with_reducible assumption); (simp only [List.set_cons_zero, List.set_cons_succ]; rfl)) | ((with_reducible apply w_build (d := 11) (cs := #[.bool false, .bool false, .slice none 0 0, .int .i64 0, .int .i64 0, .int .i64 s.work, .int .i64 0])); ((simp only [List.map_toArray, List.map_cons, List.map_nil]); exact build_res5 s.work _)) | ((with_reducible apply stO); rfl; rfl; exact bn; rfl; rfl; exact flatR; intro w2 b3 B2 ho3 hs3))
  have b3' : Box w2 w1.heap.size #[.bool false, .bool false, .slice none 0 0, .int .i64 0, .int .i64 0, .int .i64 s.work, .int .i64 0] := b3
  have B21 : Below w1.heap.size w1 w2 := ((Below.refl _ w1).alloc (Nat.le_refl _) _).trans B2
  have h2 := h1.kept B21
  have b22 := b21.kept B21
  have B20 := B10.trans (B21.mono B10.size)
  have hn3 : w.heap.size ≠ w1.heap.size := by have := b21.lt; omega
  have hge : w.heap.size ≤ w1.heap.size := B10.size
  have hfar : ∀ k, A.has k → k ≠ w1.heap.size := fun k hk => by have := h1.lt hk; omega
  have c46 := (h2.at_ hp).c46
  clear b3 B2 ho3 hs3 bn h1 b21 c45 B21
  cases hdn : s.done with
  | false =>
    rw [hdn] at c46
    have HDN := Lib.hid hdn
    clear hdn
    have g3 := b3'.load (off := 0) (n := 7) (cs' := #[.bool false, .bool false, .slice none 0 0, .int .i64 0, .int .i64 0, .int .i64 s.work, .int .i64 0]) (Nat.le_refl _) rfl
    go_wp2_with (first | ((with_reducible apply ld); rfl; (with_reducible assumption); (simp only [List.set_cons_zero, List.set_cons_succ]; rfl)) | ((with_reducible apply stO); rfl; rfl; exact b22; rfl; rfl; exact flatR; intro w3 b4 B3 ho3 hs3))
    refine bodyPost_ret (results_cellAgg rfl rfl (b4.load (off := 0) (n := 7) (cs' := #[.bool false, .bool false, .slice none 0 0, .int .i64 0, .int .i64 0, .int .i64 s.work, .int .i64 0]) (Nat.le_refl _) rfl)) rfl ?_
    refine (show ResPost _ _ _ _ from ⟨⟨none, 0, ?_, ?_⟩, B20.trans B3⟩)
    · unfold Pb.fres Rs.cells Pb.fbits Pb.ftot Pb.fdip
      rw [HDN.out]
      rfl
    · unfold Pb.fres Pb.fbits
      rw [HDN.out]
      exact ⟨rfl, .inl ⟨rfl, rfl⟩⟩
  | true =>
    rw [hdn] at c46
    have HDN := Lib.hid hdn
    have hlen := hs.len hc hdn
    have hbl : s.bits.length = p.N.toNat := (wayBits_len _ _).trans hlen
    have hchk := hs.chk hc hdn
    have HBL := Lib.hid hbl
    have HCHK := Lib.hid hchk
    clear hdn hlen hbl hchk
    have e0 := b3'.cell 0
    have e1 := b3'.cell 1
    simp only [List.getElem?_toArray, List.getElem?_cons_zero, List.getElem?_cons_succ] at e0 e1
    have z0 := b3'.frozen 0
    have z1 := b3'.frozen 1
    go_upto_region 6 with fail
    have bb := (b3'.setCell (i := 0) (.bool true)).setCell (i := 1) (.bool true)
    refine nameAny (fun W => FanoIn W p D s A ∧ Box W w.heap.size #[.bool false, .bool false, .slice none 0 0, .int .i64 0, .int .i64 0, .int .i64 0, .int .i64 0] ∧ Box W w1.heap.size #[.bool true, .bool true, .slice none 0 0, .int .i64 0, .int .i64 0, .int .i64 s.work, .int .i64 0] ∧ Below w.heap.size w W) ⟨?_, ?_, bb, ?_⟩ ?_
    · exact h2.same (by simp) fun k hk => by rw [Below.heap_setCell _ _ _ _ (hfar k hk), Below.heap_setCell _ _ _ _ (hfar k hk)]
    · exact (b22.setOther (p := ⟨w1.heap.size, 0, none⟩) (Ne.symm hn3) _).setOther (p := ⟨w1.heap.size, 1, none⟩) (Ne.symm hn3) _
    · exact (B20.setCell (p := ⟨w1.heap.size, 0, none⟩) hge _).setCell (p := ⟨w1.heap.size, 1, none⟩) hge _
    clear h2 b22 b3' e0 e1 z0 z1 bb B20 c46
    rintro w3 ⟨h3, b23, b33, B30⟩
    have hpath := fun W (hB : Ext w3 W) => fano_Path p hp hc D s hs A W (h3.kept hB)
    obtain ⟨LN, hLN⟩ : ∃ LN, LN = p.L.toNat := ⟨_, rfl⟩
    have hLNi : p.L = (LN : Int) := by omega
    have HLI := Lib.hid (show (LN : Int) ≤ 1024 ∧ p.L.toNat = LN ∧ (LN : Int) ≤ p.N by omega)
    have c38 : w3.cell? ⟨A.mb, 38, none⟩ = some (.int .i64 (LN : Int)) := hLNi ▸ (h3.at_ hp).c38
    clear hLN hLNi
    (refine wp_region_plan [0, 2, 3, 4, 5, 6] 1 [7, 8] 9 (by kernel_rfl) (by kernel_rfl) ?_; simp only [pickL, List.map_cons, List.map_nil, List.getD_cons_zero, List.getD_cons_succ, List.drop_succ_cons, List.drop_zero])
    have q38 := KeptW.cell c38
    repeat first
      | ((with_reducible apply det_nilG); rfl; rfl; (simp only [List.set_cons_zero, List.set_cons_succ]; rfl))
      | ((refine det_plain rfl ?_); (go_big_quiet_step (fail)); (refine wpQuiet_nil ?_))
    refine wpDet_nil ?_
    refine kn_callP (fun v w' => ∃ g, v = .slice (some ⟨g, 0, none⟩) s.bits.length s.bits.length ∧ BoxT w' g (u8s s.bits).toArray 5 ∧ w3.heap.size ≤ g) rfl rfl rfl inferInstance rfl ?_ ?_ ?_
    · exact fun v x y hx ⟨g, e1, e2, e3⟩ => ⟨g, e1, e2.kept hx, e3⟩
    · intro W B _
      refine (hpath W B).mono ?_
      rintro e W' ⟨⟨g, rfl, h1, h2⟩, B'⟩
      exact ⟨⟨_, rfl, g, rfl, h1, Nat.le_trans B.size h2⟩, B'⟩
    rintro v ⟨_, g, rfl, _, hg⟩
    simp only [List.set_cons_zero, List.set_cons_succ]
    have hjc : LN ≤ s.bits.length := by have := HLI.out; rw [HBL.out]; omega
    repeat first
      | ((refine det_plain rfl ?_); ((with_reducible apply q_slHiC); rfl; rfl; exact hjc; (simp only [List.set_cons_zero, List.set_cons_succ]; rfl)); (refine wpQuiet_nil ?_))
      | ((refine det_plain rfl ?_); (go_big_quiet_step (fail)); (refine wpQuiet_nil ?_))
    refine wpDet_nil ?_
    rintro w4 B4 ⟨_, g', hg', xg, _⟩
    obtain rfl : g = g' := by simpa using hg'
    have h4 := h3.kept B4
    have b24 := b23.kept B4
    have b34 := b33.kept B4
    have B40 := bOn B30 B4
    have hg3 : w1.heap.size < g := by have := b33.lt; omega
    have e2 := b34.cell 2
    simp only [List.getElem?_toArray, List.getElem?_cons_zero, List.getElem?_cons_succ] at e2
    have z2 := b34.frozen 2
    have hpre : ∀ x ∈ s.bits, x < 256 := fun x hx => by have := (hs.way.facts hc).2.2.1 x hx; omega
    have hfarg : ∀ k, A.has k → k ≠ g := fun k hk => by have := h3.lt hk; omega
    clear q38 c38 hpath h3 b23 b33 B30 B4 hg'
    go_upto_region 7 with fail
    have bb := b34.setCell (i := 2) (.slice (some ⟨g, 0, none⟩) LN s.bits.length)
    refine nameAny (fun W => FanoIn W p D s A ∧ Box W w.heap.size #[.bool false, .bool false, .slice none 0 0, .int .i64 0, .int .i64 0, .int .i64 0, .int .i64 0] ∧ Box W w1.heap.size #[.bool true, .bool true, .slice (some ⟨g, 0, none⟩) LN s.bits.length, .int .i64 0, .int .i64 0, .int .i64 s.work, .int .i64 0] ∧ BoxT W g (u8s s.bits).toArray 5 ∧ Below w.heap.size w W) ⟨?_, ?_, bb, ?_, ?_⟩ ?_
    · exact h4.same (by simp) fun k hk => Below.heap_setCell _ _ _ _ (hfar k hk)
    · exact b24.setOther (p := ⟨w1.heap.size, 2, none⟩) (Ne.symm hn3) _
    · exact (Below.heap_setCell _ _ _ _ (by show g ≠ w1.heap.size; omega)).trans xg
    · exact B40.setCell (p := ⟨w1.heap.size, 2, none⟩) hge _
    clear h4 b24 b34 e2 z2 bb xg B40
    rintro w5 ⟨h5, b25, b35, xg, B50⟩
    have hall : loadAgg w5 A.mb 0 40 = .ok (.agg (p.cells (.slice (some ⟨A.wg, 0, none⟩) p.B.length A.wc))) w5 := (h5.at_ hp).all
    have c2 := b35.cell 2
    simp only [List.getElem?_toArray, List.getElem?_cons_zero, List.getElem?_cons_succ] at c2
    have htl : (s.bits.take LN).length = LN := by have := HLI.out; rw [List.length_take, HBL.out]; omega
    have hby : Bytes w5 (some ⟨g, 0, none⟩) (s.bits.take LN) := by
      have := (Box.bytes xg.box hpre).part 0 LN
      simpa using this
    have hboth : ∀ W, Ext w5 W → Pure Try.prog 42 #[.agg (p.cells (.slice (some ⟨A.wg, 0, none⟩) p.B.length A.wc)), .slice (some ⟨g, 0, none⟩) LN s.bits.length] W (.tuple #[.int .i64 (p.fdip s), .int .i64 (p.ftot s), .int .i64 0]) := fun W hB => by
      have := score_BothG p (some ⟨A.wg, 0, none⟩) A.wc hp h5.wcap (s.bits.take LN) (some ⟨g, 0, none⟩) s.bits.length (by have := HLI.out; rw [htl]; omega) W (h5.win.kept hB) (hby.kept hB)
      have hck : p.pathChk (s.bits.take LN) = 0 := by have h := HCHK.out; rw [HLI.out.2.1] at h; exact h
      rw [htl, hck] at this
      unfold Pb.dip Pb.tot at this
      rw [hck] at this
      unfold Pb.fdip Pb.ftot
      rw [HDN.out, HLI.out.2.1]
      exact this
    have HTL := Lib.hid htl
    clear htl
    (refine wp_region_star [0, 1, 2, 3, 4, 5] 6 [] 7 [(7, true), (8, true), (9, true), (10, true), (11, true), (12, false), (13, true), (14, false)] (by kernel_rfl) (by kernel_rfl) ?_; simp only [pickL, List.map_cons, List.map_nil, List.getD_cons_zero, List.getD_cons_succ, wpOrd])
    have q2 := KeptW.cell c2
    repeat first
      | ((refine det_plain rfl ?_); ((with_reducible apply q_ld); rfl; (with_reducible assumption); (simp only [List.set_cons_zero, List.set_cons_succ]; rfl)); (refine wpQuiet_nil ?_))
      | ((with_reducible apply det_nilG); rfl; rfl; (simp only [List.set_cons_zero, List.set_cons_succ]; rfl))
      | ((refine det_plain rfl ?_); (go_big_quiet_step (fail)); (refine wpQuiet_nil ?_))
    refine wpDet_nil ?_
    refine kn_callP (fun v w' => v = .tuple #[.int .i64 (p.fdip s), .int .i64 (p.ftot s), .int .i64 0]) rfl rfl rfl inferInstance rfl ?_ ?_ ?_
    · exact fun v x y hx h => h
    · intro W B _
      refine (hboth W B).mono ?_
      rintro e W' ⟨rfl, B'⟩
      exact ⟨⟨_, rfl, rfl⟩, B'⟩
    rintro v ⟨_, rfl⟩
    refine wpDet_nil ?_
    intro w6 B6 _
    have h6 := h5.kept B6
    have b26 := b25.kept B6
    have b36 := b35.kept B6
    have xg6 := xg.kept B6
    have B60 := bOn B50 B6
    have e4 := b36.cell 4
    have z4 := b36.frozen 4
    have b37 := b36.setCell (i := 4) (.int .i64 (p.fdip s))
    have e3 := b37.cell 3
    have z3 := b37.frozen 3
    simp only [List.getElem?_toArray, List.getElem?_cons_zero, List.getElem?_cons_succ] at e4
    iterate 5
      refine ⟨_, fun w => by go_simp; first | done | rfl, ?_⟩
      try simp only [put_list, List.set_cons_zero, List.set_cons_succ]
    have b38 : Box ((w6.setCell ⟨w1.heap.size, 4, none⟩ (.int .i64 (p.fdip s))).setCell ⟨w1.heap.size, 3, none⟩ (.int .i64 (p.ftot s))) w1.heap.size #[.bool true, .bool true, .slice (some ⟨g, 0, none⟩) LN s.bits.length, .int .i64 (p.ftot s), .int .i64 (p.fdip s), .int .i64 s.work, .int .i64 0] := b37.setCell (i := 3) (.int .i64 (p.ftot s))
    have g3 := b38.load (off := 0) (n := 7) (cs' := #[.bool true, .bool true, .slice (some ⟨g, 0, none⟩) LN s.bits.length, .int .i64 (p.ftot s), .int .i64 (p.fdip s), .int .i64 s.work, .int .i64 0]) (Nat.le_refl _) rfl
    have b28 := (b26.setOther (p := ⟨w1.heap.size, 4, none⟩) (Ne.symm hn3) (.int .i64 (p.fdip s))).setOther (p := ⟨w1.heap.size, 3, none⟩) (Ne.symm hn3) (.int .i64 (p.ftot s))
    have B80 := (B60.setCell (p := ⟨w1.heap.size, 4, none⟩) hge (.int .i64 (p.fdip s))).setCell (p := ⟨w1.heap.size, 3, none⟩) hge (.int .i64 (p.ftot s))
    have hgn : g ≠ w1.heap.size := by omega
    have xg8 : BoxT ((w6.setCell ⟨w1.heap.size, 4, none⟩ (.int .i64 (p.fdip s))).setCell ⟨w1.heap.size, 3, none⟩ (.int .i64 (p.ftot s))) g (u8s s.bits).toArray 5 := (Below.heap_setCell _ _ _ _ hgn).trans ((Below.heap_setCell _ _ _ _ hgn).trans xg6)
    have e3 : (w6.setCell ⟨w1.heap.size, 4, none⟩ (.int .i64 (p.fdip s))).cell? ⟨w1.heap.size, 3, none⟩ = some (.int .i64 0) := e3.trans rfl
    have hgw : w.heap.size < g := by omega
    clear b37 b38 b26 B60 xg6 h6 b36 h5 b25 b35 xg B50 hall c2 hby hboth q2
    go_wp2_with (first | ((with_reducible apply ld); rfl; (with_reducible assumption); (simp only [List.set_cons_zero, List.set_cons_succ]; rfl)) | ((with_reducible apply stO); rfl; rfl; exact b28; rfl; rfl; exact flatR; intro w9 b9 B9 ho9 hs9))
    refine bodyPost_ret (results_cellAgg rfl rfl (b9.load (off := 0) (n := 7) (cs' := #[.bool true, .bool true, .slice (some ⟨g, 0, none⟩) LN s.bits.length, .int .i64 (p.ftot s), .int .i64 (p.fdip s), .int .i64 s.work, .int .i64 0]) (Nat.le_refl _) rfl)) rfl ?_
    have hfb : p.fbits s = s.bits.take LN := by unfold Pb.fbits; rw [HDN.out, HLI.out.2.1]; rfl
    have hfl : (p.fbits s).length = LN := by rw [hfb, List.length_take]; omega
    refine (show ResPost _ _ _ _ from ⟨⟨some ⟨g, 0, none⟩, s.bits.length, ?_, ?_⟩, B80.trans B9⟩)
    · show Ending.returned _ = .returned (.agg #[.bool s.done, .bool s.done, .slice (some ⟨g, 0, none⟩) (p.fbits s).length s.bits.length, .int .i64 (p.ftot s), .int .i64 (p.fdip s), .int .i64 s.work, .int .i64 0])
      rw [HDN.out, hfl]
    · show w9.ownsRow _ _ _ (.slice _ (p.fbits s).length _) (p.fbits s).length (u8s (p.fbits s))
      rw [hfl, hfb]
      have h9 : BoxT w9 g (u8s s.bits).toArray 5 := (ho9 g (by omega)).trans xg8
      have how := h9.owns (n := s.bits.length) (by simp [u8s]) (by unfold maxLen; rw [HBL.out]; have := Pb.N_le hc; omega) w.heap.size (Nat.le_of_lt hgw)
      obtain ⟨m, hm⟩ : ∃ m, s.bits.length = LN + m := ⟨s.bits.length - LN, by omega⟩
      rw [hm] at how ⊢
      have := owns_prefix_cap how
      simpa [u8s, List.map_take] using this
end Go.Proofs.Ytkjnmjilkhigaaa

/- A struct built of a struct's value and some small values behind it. No program's text is named here. -/
namespace Go.Proofs.Ytkjnmjilkhigaaa
open Go.RowKit

theorem fill_agg {place : Nat → Option (Nat × Nat)} {zs cs : Array Value} {i : Nat} {rest : List (Nat × Value)} (hp : place i = some (0, cs.size)) (hle : cs.size ≤ zs.size) :
    Instr.fill place zs ((i, .agg cs) :: rest) = Instr.fill place (cs ++ zs.extract cs.size zs.size) rest := by
  have hv : (Value.agg cs).cells = cs := rfl
  have e : cs.zipIdx.foldl (fun cs (x : Value × Nat) => cs.setIfInBounds (0 + x.2) x.1) zs = cs ++ zs.extract cs.size zs.size := by
    rw [← Array.foldl_toList, Array.toList_zipIdx]
    apply Array.ext_getElem?
    intro k
    rw [fold_set cs.toList 0 zs k (by simp; omega)]
    by_cases h : k < cs.size
    · rw [if_pos (by simp; omega), Array.getElem?_append_left h]
      simp
    · rw [if_neg (by simp; omega), Array.getElem?_append_right (by omega)]
      rw [Array.getElem?_extract]
      by_cases h2 : k < zs.size
      · rw [if_pos (by omega)]
        congr 1; omega
      · rw [if_neg (by omega), Array.getElem?_eq_none (by omega)]
  conv => lhs; unfold Instr.fill
  rw [hp]
  simp only [hv]
  rw [if_neg (by simp; omega)]
  exact congrArg (fun c => Instr.fill place c rest) e
theorem fill_cell {place : Nat → Option (Nat × Nat)} {zs : Array Value} {i off : Nat} {v : Value} {rest : List (Nat × Value)} (hp : place i = some (off, 1)) (hv : v.cells = #[v]) (ho : off < zs.size) :
    Instr.fill place zs ((i, v) :: rest) = Instr.fill place (zs.setIfInBounds off v) rest := by
  conv => lhs; unfold Instr.fill
  rw [hp]
  simp only [hv]
  rw [if_neg (by simp; omega)]
  rfl
end Go.Proofs.Ytkjnmjilkhigaaa

/- Fano's machine, the program's: New and Decode. -/
namespace Go.Proofs.Ytkjnmjilkhigaaa
open Go.RowKit

def fanoZero : Array Value := #[.int .i64 0, .int .i64 0, .int .u32 0, .int .u32 0, .int .u32 0, .int .i64 0, .int .i64 0, .int .i64 0, .int .i64 0, .int .i64 0, .int .i64 0, .int .i64 0, .int .i64 0, .int .i64 0, .int .i64 0, .int .i64 0, .int .i64 0, .int .i64 0, .int .i64 0, .int .i64 0, .int .i64 0, .int .i64 0, .int .i64 0, .int .i64 0, .int .i64 0, .int .i64 0, .int .i64 0, .int .i64 0, .int .i64 0, .int .i64 0, .int .i64 0, .int .i64 0, .int .i64 0, .int .i64 0, .int .i64 0, .int .i64 0, .int .i64 0, .int .i64 0, .int .i64 0, .slice none 0 0, .pointer none, .int .i64 0, .slice none 0 0, .int .i64 0, .int .i64 0, .int .i64 0, .bool false]
def fanoPlaces : Array (Nat × Nat) := #[(0, 40), (40, 1), (41, 1), (42, 1), (43, 1), (44, 1), (45, 1), (46, 1)]
theorem built_fano (l : List (Nat × Value)) : Try.prog.built 92 l = Instr.fill (fun i => fanoPlaces[i]?) fanoZero l := by
  kernel_rfl
theorem build_fano (p : Pb) (hp : p.Ok) (v : Value) (tb : Option Addr) (D : Int) (a : Option Addr) (n c : Nat) (w : World) :
    (Instr.build 92 #[(0, .agg (p.cells v)), (1, .pointer tb), (2, .int .i64 D), (3, .slice a n c)]).run Try.prog w = .ok (.agg (p.cells v ++ #[.pointer tb, .int .i64 D, .slice a n c, .int .i64 0, .int .i64 0, .int .i64 0, .bool false])) w := by
  refine run_build w _ _ _ ?_
  show Try.prog.built _ [(0, .agg (p.cells v)), (1, .pointer tb), (2, .int .i64 D), (3, .slice a n c)] = _
  rw [built_fano]
  have hs := hp.size v
  rw [fill_agg (by rw [hs]; rfl) (by rw [hs]; decide), hs]
  have e : fanoZero.extract 40 fanoZero.size = #[.pointer none, .int .i64 0, .slice none 0 0, .int .i64 0, .int .i64 0, .int .i64 0, .bool false] := rfl
  rw [e]
  rw [fill_cell (off := 40) rfl rfl (by rw [Array.size_append, hs]; decide), fill_cell (off := 41) rfl rfl (by rw [Array.size_setIfInBounds, Array.size_append, hs]; decide), fill_cell (off := 42) rfl rfl (by rw [Array.size_setIfInBounds, Array.size_setIfInBounds, Array.size_append, hs]; decide)]
  have hnil : ∀ z, Instr.fill (fun i => fanoPlaces[i]?) z [] = some z := fun _ => rfl
  refine (hnil _).trans (congrArg some ?_)
  rw [Array.setIfInBounds_append_right (by omega), Array.setIfInBounds_append_right (by omega), Array.setIfInBounds_append_right (by omega), hs]
  congr 1
theorem free_box {P : Program} {ops : Array Oper} {w0 : World} {rest : List Oper} {l : List Value} {ds : List Deferred} {S : World → Prop} {Q : Act → (World → Prop) → Prop} {d : Nat} {t : TypeId} {x : Operand} {cs : Array Value} {ty : TypeId} {ps : String} {af : Array Edge}
    (hQ : Anti Q) (hx : (Act.mk l.toArray ds).eval x = .agg cs) (hr : ∀ w, (Instr.box t (.agg cs)).run P w = .ok (.pointer (some ⟨w.heap.size, 0, none⟩)) (w.alloc (.cells cs t)))
    (hn : ∀ b, w0.heap.size ≤ b → wpFree P false ops w0 Q rest ⟨(l.set d (.pointer (some ⟨b, 0, none⟩))).toArray, ds⟩ (fun w => S w ∧ Box w b cs)) :
    wpFree P false ops w0 Q (⟨some d, .box t x, ty, ps, af, none⟩ :: rest) ⟨l.toArray, ds⟩ S := by
  refine free_value rfl (fun v w => ∃ b, v = .pointer (some ⟨b, 0, none⟩) ∧ w0.heap.size ≤ b ∧ Box w b cs) (fun v x y hx ⟨b, h1, h2, h3⟩ => ⟨b, h1, h2, h3.kept hx⟩) (fun w hw => ⟨_, _, ?_, (Below.refl _ w).alloc (Nat.le_refl _) _, ⟨w.heap.size, rfl, hw.size, Box.new w cs t⟩⟩) ?_
  · unfold execOp
    simp only [hx, Sem.run_bind, hr w, Result.andThen_ok, Sem.run_pure]
  · rintro v ⟨_, _, b, rfl, hb, _⟩
    rw [put_list]
    refine wpFree_anti hQ _ _ _ _ (fun w h => ⟨h.1, ?_⟩) (hn b hb)
    obtain ⟨b', h1, _, h3⟩ := h.2
    obtain rfl : b = b' := by simpa using h1
    exact h3
theorem free_build {P : Program} {ops : Array Oper} {w0 : World} {rest : List Oper} {l l' : List Value} {ds : List Deferred} {S : World → Prop} {Q : Act → (World → Prop) → Prop} {d : Nat} {t : TypeId} {parts : Array (Nat × Operand)} {cs : Array Value} {ty : TypeId} {ps : String} {af : Array Edge}
    (hQ : Anti Q) (hr : ∀ w, (Instr.build t (parts.map fun (i, x) => (i, (Act.mk l.toArray ds).eval x))).run P w = .ok (.agg cs) w) (hs : l.set d (.agg cs) = l') (hn : wpFree P false ops w0 Q rest ⟨l'.toArray, ds⟩ S) :
    wpFree P false ops w0 Q (⟨some d, .build t parts, ty, ps, af, none⟩ :: rest) ⟨l.toArray, ds⟩ S :=
  free_fixed hQ rfl (v := .agg cs) (fun w => by unfold execOp; simp only [Sem.run_bind, hr w, Result.andThen_ok, Sem.run_pure]) (by rw [put_list, hs]; exact hn)
def FanoNewPost (p : Pb) (D : Int) (w : World) (e : Ending) (w' : World) : Prop := (∃ A : FA, e = .returned (.tuple #[.pointer (some ⟨A.mb, 0, none⟩), .int .i64 0]) ∧ FanoIn w' p D Fm.start A ∧ ∀ k, A.has k → w.heap.size ≤ k) ∧ Below w.heap.size w w'
theorem fano_New_bad (p : Pb) (a : Option Addr) (cap : Nat) (D : Int) (hp : p.Ok) (h : probChk p ≠ 0) (w : World) (hw : Bytes w a p.B) :
    Pure Try.prog 27 #[.agg (p.cells (.slice a p.B.length cap)), .int .i64 D] w (.tuple #[.pointer none, .int .i64 (probChk p)]) := by
  have hc : (probChk p != 0) = true := by simp [h]
  go_enter Try.func27, Try.ntmps27
  go_upto_region 1 with fail
  refine name1 ?_
  intro w0 b2 B0
  obtain ⟨fk, fr, flev, fl, fwin, fcode, ftable, fall⟩ := b2.prob hp
  clear fk fr flev fl fwin fcode ftable
  go_wp2_with ((with_reducible apply ld); rfl; (with_reducible assumption); (simp only [List.set_cons_zero, List.set_cons_succ]; rfl))
  refine (tree_New_bad p a cap hp h _ (hw.kept B0)).mono ?_
  rintro e w1 ⟨rfl, B1⟩
  go_wp2
  go_ret2
  exact ⟨rfl, bOn B0 B1⟩
theorem fano_New_delta (p : Pb) (a : Option Addr) (cap : Nat) (D : Int) (hD : D < 1 ∨ 65536 < D) (hp : p.Ok) (h : probChk p = 0) (w : World) (hw : Bytes w a p.B) :
    Pure Try.prog 27 #[.agg (p.cells (.slice a p.B.length cap)), .int .i64 D] w (.tuple #[.pointer none, .int .i64 140]) := by
  have hd : decide (D < 1) = true ∨ (decide (D < 1) = false ∧ decide (65536 < D) = true) := by
    by_cases h : D < 1
    · exact .inl (by simpa using h)
    · exact .inr ⟨by simpa using (by omega : 1 ≤ D), by simp; omega⟩
  clear hD
  rcases hd with d1 | ⟨d1, d2⟩
  all_goals
    go_enter Try.func27, Try.ntmps27
    go_upto_region 1 with fail
    refine name1 ?_
    intro w0 b2 B0
    obtain ⟨fk, fr, flev, fl, fwin, fcode, ftable, fall⟩ := b2.prob hp
    clear fk fr flev fl fwin fcode ftable
    go_wp2_with ((with_reducible apply ld); rfl; (with_reducible assumption); (simp only [List.set_cons_zero, List.set_cons_succ]; rfl))
    refine (tree_New p a cap hp h _ (hw.kept B0)).mono ?_
    rintro e w1 ⟨⟨tb, pb, rb, g, c, rfl, hT, _⟩, B1⟩
    go_wp2
    go_ret2
    exact ⟨rfl, bOn B0 B1⟩
set_option maxRecDepth 5000 in
theorem fano_New (p : Pb) (a : Option Addr) (cap : Nat) (D : Int) (hD : 1 ≤ D) (hD2 : D ≤ 65536) (hp : p.Ok) (h : probChk p = 0) (w : World) (hw : Bytes w a p.B) :
    Calls Try.prog 27 #[.agg (p.cells (.slice a p.B.length cap)), .int .i64 D] w (FanoNewPost p D w) := by
  obtain ⟨⟨k1, k2⟩, l1, l2, cr, hwin, _⟩ := probChk_ok h
  have hne : p.B.length ≠ 0 := by
    have h1 : 3 ≤ p.N := by unfold Pb.N; omega
    rcases cr with h | h <;> rw [h] at hwin <;> omega
  have hn : p.B.length ≤ 140737488351232 := by
    have h1 : p.N ≤ 1056 := by unfold Pb.N; omega
    rcases cr with h | h <;> rw [h] at hwin <;> omega
  clear k1 k2 l1 l2 cr hwin
  have d1 : decide (D < 1) = false := by simp; omega
  have d2 : decide (65536 < D) = false := by simp; omega
  go_enter Try.func27, Try.ntmps27
  go_upto_region 1 with fail
  refine name1 ?_
  intro w0 b2 B0
  obtain ⟨fk, fr, flev, fl, fwin, fcode, ftable, fall⟩ := b2.prob hp
  clear fk fr flev fl fwin fcode ftable
  go_wp2_with ((with_reducible apply ld); rfl; (with_reducible assumption); (simp only [List.set_cons_zero, List.set_cons_succ]; rfl))
  refine (tree_New p a cap hp h _ (hw.kept B0)).mono ?_
  rintro e w1 ⟨⟨tb, pb, rb, g, c, rfl, hT, ht1, ht2, ht3, ht4⟩, B1⟩
  have B10 := bOn B0 B1
  have b21 := b2.kept B1
  have hw1 := hw.kept B10
  have c39 := b21.cell 39
  rw [hp.cell39] at c39
  have hb1l := b21.lt
  have hb0l : w.heap.size < w0.heap.size := b2.lt
  clear fall b2
  go_upto_region 7 with (at_builtin; refine apNilB hw1 rfl rfl rfl hne (by omega) ?_; intro c9 w2 hcap hown2 B2 hlt2; have hz39 := (b21.kept B2).frozen 39; have hc39 := (B2.cell hb1l).trans c39)
  have hbp := (b21.kept B2).setCell (i := 39) (.slice (some ⟨w1.heap.size, 0, none⟩) p.B.length c9)
  rw [hp.set39] at hbp
  have hby : Bytes w2 (some ⟨w1.heap.size, 0, none⟩) p.B := own_bytes (bs := p.B) hown2 hw.lt
  refine nameAny (fun W => Box W w.heap.size (p.cells (.slice (some ⟨w1.heap.size, 0, none⟩) p.B.length c9)) ∧ Bytes W (some ⟨w1.heap.size, 0, none⟩) p.B ∧ TreeIn W p tb pb rb g c ∧ Below w.heap.size w W ∧ w1.heap.size < W.heap.size) ⟨hbp, hby.block (Below.heap_setCell _ _ _ _ (by show w1.heap.size ≠ w.heap.size; omega)), (hT.kept B2).setOther (q := ⟨w.heap.size, 39, none⟩) ⟨by show w.heap.size ≠ tb; omega, by show w.heap.size ≠ pb; omega, by show w.heap.size ≠ rb; omega, by show w.heap.size ≠ g; omega⟩ _, (B10.trans (B2.mono B10.size)).setCell (p := ⟨w.heap.size, 39, none⟩) (Nat.le_refl _) _, by simpa using hlt2⟩ ?_
  have hB10s := B10.size
  have htl1 := hT.tree.lt
  have htl2 := hT.prob.lt
  have htl3 := hT.rate.lt
  have htl4 : g < w1.heap.size := by
    obtain ⟨b', o', ha, hc'⟩ := hT.win.cell 0 (by omega)
    obtain ⟨rfl, rfl⟩ : g = b' ∧ 0 = o' := by simpa using ha
    exact lt_of_cell hc'
  clear hbp hby hz39 hc39 hown2 c39 hw1 hlt2 b21
  rintro w3 ⟨b13, by3, hT3, B30, hlt3⟩
  have gall := b13.load (off := 0) (n := 40) (cs' := p.cells (.slice (some ⟨w1.heap.size, 0, none⟩) p.B.length c9)) (by rw [hp.size]; decide) (by rw [Array.extract_eq_self_of_le (by rw [hp.size]; decide)])
  refine wp_region_free 6 (by kernel_rfl) (by kernel_rfl) ?_
  simp only [List.take_succ_cons, List.take_zero, List.drop_succ_cons, List.drop_zero]
  repeat first
    | ((refine det_plain rfl ?_); ((with_reducible apply q_ld); rfl; (with_reducible assumption); (simp only [List.set_cons_zero, List.set_cons_succ]; rfl)); (refine wpQuiet_nil ?_))
    | ((with_reducible apply det_nilG); rfl; rfl; (simp only [List.set_cons_zero, List.set_cons_succ]; rfl))
    | ((with_reducible apply det_call); rfl; infer_instance; rfl; (intro W hB; exact tree_Root _ W); (simp only [List.set_cons_zero, List.set_cons_succ]; rfl))
    | ((refine det_plain rfl ?_); ((with_reducible apply q_build (d := 31) (cs := #[.int .u32 0, .int .i64 0, .int .i64 0, .int .u8 0, .int .i64 0])); ((simp only [List.map_toArray, List.map_cons, List.map_nil]); exact build_place1 ⟨0, 0, 0⟩); (simp only [List.set_cons_zero, List.set_cons_succ]; rfl)); (refine wpQuiet_nil ?_))
    | ((refine det_plain rfl ?_); (go_big_quiet_step (fail)); (refine wpQuiet_nil ?_))
  refine wpDet_nil ?_
  refine free_sliceT anti_region (cs := #[.int .u32 0, .int .i64 0, .int .i64 0, .int .u8 0, .int .i64 0]) (e := 108) (by intro W; simp only [List.map_toArray, List.map_cons, List.map_nil]; exact build_places ⟨0, 0, 0⟩ 0 W) ?_
  intro bw hbw
  simp only [List.set_cons_zero, List.set_cons_succ]
  refine free_build anti_region (cs := p.cells (.slice (some ⟨w1.heap.size, 0, none⟩) p.B.length c9) ++ #[.pointer (some ⟨tb, 0, none⟩), .int .i64 D, .slice (some ⟨bw, 0, none⟩) 1 1, .int .i64 0, .int .i64 0, .int .i64 0, .bool false]) (by intro W; simp only [List.map_toArray, List.map_cons, List.map_nil]; exact build_fano p hp (.slice (some ⟨w1.heap.size, 0, none⟩) p.B.length c9) (some ⟨tb, 0, none⟩) D (some ⟨bw, 0, none⟩) 1 1 W) (by simp only [List.set_cons_zero, List.set_cons_succ]; rfl) ?_
  refine free_box anti_region rfl (by intro W; go_simp) ?_
  intro mb hmb
  simp only [List.set_cons_zero, List.set_cons_succ]
  ((with_reducible apply free_assignT); exact anti_region; rfl; (simp only [List.set_cons_zero, List.set_cons_succ]; rfl))
  refine free_assign anti_region (v := .int .i64 0) rfl (by simp only [List.set_cons_zero, List.set_cons_succ]; rfl) ?_
  intro w4 B4 hS
  obtain ⟨⟨_, xw⟩, xm⟩ := hS
  have hT4 := hT3.kept B4
  have by4 := by3.kept B4
  have B40 := bOn B30 B4
  have hs4 := B4.size
  have hmw : mb ≠ bw := by
    refine xm.ne xw.box fun e => ?_
    have := congrArg Array.size e
    rw [Array.size_append, hp.size] at this
    simp at this
  clear gall hw by3 hT hT3 b13
  go_wp2
  go_ret2
  refine (show FanoNewPost _ _ _ _ _ from ⟨⟨⟨mb, bw, 1, tb, pb, rb, g, c, w1.heap.size, c9⟩, rfl, ⟨xm, hT4, by4, hcap, ?_, ?_, by show w1.heap.size < _; omega, by show g < _; omega⟩, ?_⟩, B40⟩)
  · exact ⟨rfl, .inr ⟨bw, 1, _, rfl, Nat.zero_le _, xw, Nat.le_refl _, by unfold maxLen; omega, rfl, rfl⟩⟩
  · exact ⟨hmw, ⟨(by omega : mb ≠ tb), (by omega : mb ≠ pb), (by omega : mb ≠ rb), (by omega : mb ≠ g), (by omega : mb ≠ w1.heap.size)⟩, ⟨(by omega : bw ≠ tb), (by omega : bw ≠ pb), (by omega : bw ≠ rb), (by omega : bw ≠ g), (by omega : bw ≠ w1.heap.size)⟩⟩
  · intro k hk
    have hk : k = mb ∨ k = bw ∨ k = tb ∨ k = pb ∨ k = rb ∨ k = g ∨ k = w1.heap.size := hk
    have hB30 := B30.size
    omega
end Go.Proofs.Ytkjnmjilkhigaaa

/- Fano's machine, the program's: Decode. -/
namespace Go.Proofs.Ytkjnmjilkhigaaa
open Go.RowKit

theorem owns_base {w : World} {B B' e sz n : Nat} {v : Value} {xs : List Value} (h : w.ownsRow B e sz v n xs) (hb : B' ≤ B) : w.ownsRow B' e sz v n xs :=
  ⟨h.1, h.2.imp id fun ⟨g, cap, cur, h1, h2, h3⟩ => ⟨g, cap, cur, h1, Nat.le_trans hb h2, h3⟩⟩
def Rs.zero : Rs := ⟨false, false, [], 0, 0, 0, 0⟩
/-- A result whose bits lie in new memory, and an error. -/
def ResErr (r : Rs) (err : Int) (w : World) (e : Ending) (w' : World) : Prop := (∃ a c, e = .returned (.tuple #[.agg (r.cells (.slice a r.bits.length c)), .int .i64 err]) ∧ w'.ownsRow w.heap.size 5 1 (.slice a r.bits.length c) r.bits.length (u8s r.bits)) ∧ Below w.heap.size w w'
theorem ResErr.zero {err : Int} {w w' : World} {e : Ending} (he : e = .returned (.tuple #[.agg #[.bool false, .bool false, .slice none 0 0, .int .i64 0, .int .i64 0, .int .i64 0, .int .i64 0], .int .i64 err])) (hB : Below w.heap.size w w') : ResErr Rs.zero err w e w' :=
  ⟨⟨none, 0, he, ⟨rfl, .inl ⟨rfl, rfl⟩⟩⟩, hB⟩
theorem build_res0 (w : World) : (Instr.build 35 #[]).run Try.prog w = .ok (.agg #[.bool false, .bool false, .slice none 0 0, .int .i64 0, .int .i64 0, .int .i64 0, .int .i64 0]) w := by
  go_simp
  try rfl
def Pb.fanoR (p : Pb) (b D : Int) : Rs := if probChk p ≠ 0 then Rs.zero else if D < 1 ∨ 65536 < D then Rs.zero else if b < 0 ∨ 1048576 < b then Rs.zero else p.fres (p.frun D b.toNat Fm.start)
def Pb.fanoE (p : Pb) (b D : Int) : Int := if probChk p ≠ 0 then probChk p else if D < 1 ∨ 65536 < D then 140 else if b < 0 ∨ 1048576 < b then 1 else 0
theorem Turn.below' {H : Nat → Prop} {w w' : World} (h : Turn H w w') {B : Nat} (hB : B ≤ w.heap.size) (hk : ∀ k, k < w.heap.size → H k → B ≤ k) : Below B w w' :=
  ⟨h.os, h.tape, h.output, h.size, fun k hkB => h.block k (by omega) fun hh => by have := hk k (by omega) hh; omega⟩
set_option maxRecDepth 5000 in
theorem fano_Decode (p : Pb) (a : Option Addr) (cap : Nat) (b D : Int) (hp : p.Ok) (w : World) (hw : Bytes w a p.B) :
    Calls Try.prog 12 #[.agg (p.cells (.slice a p.B.length cap)), .int .i64 b, .int .i64 D] w (ResErr (p.fanoR b D) (p.fanoE b D) w) := by
  go_enter Try.func12, Try.ntmps12
  go_upto_region 1 with fail
  refine name2 ?_
  intro w0 b3 b6 B0
  have hw0 := hw.kept B0
  obtain ⟨fk, fr, flev, fl, fwin, fcode, ftable, fall⟩ := b3.prob hp
  clear fk fr flev fl fwin fcode ftable b3
  have flat0 : Flat #[.bool false, .bool false, .slice none 0 0, .int .i64 0, .int .i64 0, .int .i64 0, .int .i64 0] := flatR
  by_cases hc : probChk p = 0
  · by_cases hD : D < 1 ∨ 65536 < D
    · have e1 : p.fanoR b D = Rs.zero := by unfold Pb.fanoR; rw [if_neg (by simp [hc]), if_pos hD]
      have e2 : p.fanoE b D = 140 := by unfold Pb.fanoE; rw [if_neg (by simp [hc]), if_pos hD]
      have E := Lib.hid (And.intro e1 e2)
      clear e1 e2
      go_wp2_with ((with_reducible apply ld); rfl; (with_reducible assumption); (simp only [List.set_cons_zero, List.set_cons_succ]; rfl))
      refine (fano_New_delta p a cap D hD hp hc _ hw0).mono ?_
      rintro e w1 ⟨rfl, B1⟩
      have b61 := b6.kept B1
      have B10 := bOn B0 B1
      clear fall b6 hw0 hD
      go_wp2_with (first | ((with_reducible apply ld); rfl; (with_reducible assumption); (simp only [List.set_cons_zero, List.set_cons_succ]; rfl)) | ((with_reducible apply w_build (d := 20) (cs := #[.bool false, .bool false, .slice none 0 0, .int .i64 0, .int .i64 0, .int .i64 0, .int .i64 0])); ((simp only [List.map_toArray, List.map_cons, List.map_nil]); exact build_res0 _)) | ((with_reducible apply stO); rfl; rfl; exact b61; rfl; rfl; exact flat0; intro w2 b4 B2 ho3 hs3))
      refine bodyPost_ret (results_aggTmp rfl rfl rfl (b4.load (off := 0) (n := 7) (cs' := #[.bool false, .bool false, .slice none 0 0, .int .i64 0, .int .i64 0, .int .i64 0, .int .i64 0]) (Nat.le_refl _) rfl)) rfl ?_
      rw [E.out.1, E.out.2]; exact ResErr.zero rfl (B10.trans (B2.mono (by omega)))
    · have hD1 : 1 ≤ D := by omega
      have hD2 : D ≤ 65536 := by omega
      go_wp2_with ((with_reducible apply ld); rfl; (with_reducible assumption); (simp only [List.set_cons_zero, List.set_cons_succ]; rfl))
      refine (fano_New p a cap D hD1 hD2 hp hc _ hw0).mono ?_
      rintro e w1 ⟨⟨A, rfl, hM, hA⟩, B1⟩
      have b61 := b6.kept B1
      have B10 := bOn B0 B1
      have hA6 : ∀ k, A.has k → k ≠ w.heap.size + 1 := fun k hk => by have := hA k hk; have := b6.lt; omega
      have hAw : ∀ k, A.has k → w.heap.size ≤ k := fun k hk => Nat.le_trans B0.size (hA k hk)
      clear fall b6 hw0
      by_cases hb : b < 0 ∨ 1048576 < b
      · have e1 : p.fanoR b D = Rs.zero := by unfold Pb.fanoR; rw [if_neg (by simp [hc]), if_neg hD, if_pos hb]
        have e2 : p.fanoE b D = 1 := by unfold Pb.fanoE; rw [if_neg (by simp [hc]), if_neg hD, if_pos hb]
        have E := Lib.hid (And.intro e1 e2)
        clear e1 e2 hD
        go_wp2_with fail
        refine (fano_Run_bad p hp D _ A b hb _ hM).mono ?_
        rintro e w2 ⟨rfl, B2⟩
        have b62 := b61.kept B2
        have B20 := bOn B10 B2
        clear hb
        go_wp2_with (first | ((with_reducible apply ld); rfl; (with_reducible assumption); (simp only [List.set_cons_zero, List.set_cons_succ]; rfl)) | ((with_reducible apply w_build (d := 30) (cs := #[.bool false, .bool false, .slice none 0 0, .int .i64 0, .int .i64 0, .int .i64 0, .int .i64 0])); ((simp only [List.map_toArray, List.map_cons, List.map_nil]); exact build_res0 _)) | ((with_reducible apply stO); rfl; rfl; exact b62; rfl; rfl; exact flat0; intro w3 b4 B3 ho3 hs3))
        refine bodyPost_ret (results_aggTmp rfl rfl rfl (b4.load (off := 0) (n := 7) (cs' := #[.bool false, .bool false, .slice none 0 0, .int .i64 0, .int .i64 0, .int .i64 0, .int .i64 0]) (Nat.le_refl _) rfl)) rfl ?_
        rw [E.out.1, E.out.2]; exact ResErr.zero rfl (B20.trans (B3.mono (by omega)))
      · obtain ⟨n, rfl⟩ : ∃ n : Nat, b = n := ⟨b.toNat, by omega⟩
        have e1 : p.fanoR n D = p.fres (p.frun D n Fm.start) := by unfold Pb.fanoR; rw [if_neg (by simp [hc]), if_neg hD, if_neg hb]; rfl
        have e2 : p.fanoE n D = 0 := by unfold Pb.fanoE; rw [if_neg (by simp [hc]), if_neg hD, if_neg hb]
        have E := Lib.hid (And.intro e1 e2)
        clear e1 e2 hD
        have hn : n ≤ 1048576 := by omega
        have hok := (Fm.Ok.start hc hD1).run hc hD1 n
        clear hb
        go_wp2_with fail
        refine (fano_Run p hp hc D hD1 hD2 _ (Fm.Ok.start hc hD1) A n hn _ hM).mono ?_
        rintro e w2 ⟨rfl, ⟨g, c, hM2, hg⟩, T2⟩
        have B2 : Below w.heap.size w1 w2 := T2.below' B10.size fun k hk hh => hAw k (by rcases hh with rfl | rfl; exact .inl rfl; exact .inr (.inl rfl))
        have B20 := B10.trans B2
        have b62 := b61.turn T2 (fun hh => by rcases hh with hh | hh; exact hA6 _ (.inl rfl) hh.symm; exact hA6 _ (.inr (.inl rfl)) hh.symm)
        obtain ⟨sk, hsk⟩ : ∃ sk, sk = p.frun D n Fm.start := ⟨_, rfl⟩
        rw [← hsk] at hM2 hok ⊢
        have HSK := Lib.hid hsk.symm
        clear hsk b61 hM T2
        have hres := fano_Result p hp hc D sk hok { A with way := g, cap := c } w2 hM2
        have hres : Calls Try.prog 19 #[.pointer (some ⟨A.mb, 0, none⟩)] w2 (ResPost (p.fres sk) w2) := hres
        go_wp2_with fail
        refine hres.mono ?_
        rintro e w3 ⟨⟨ar, cr, rfl, hO⟩, B3⟩
        have b63 := b62.kept B3
        have B30 := bOn B20 B3
        have b62s := b62.lt
        clear hres b62 hM2
        have hfl : Flat ((p.fres sk).cells (.slice ar (p.fres sk).bits.length cr)) := flatR
        obtain ⟨R, hR⟩ : ∃ R, R = (p.fres sk).cells (.slice ar (p.fres sk).bits.length cr) := ⟨_, rfl⟩
        have hRs : R.size = 7 := by rw [hR]; rfl
        rw [← hR] at hfl ⊢
        have HR := Lib.hid hR
        have HRS := Lib.hid hRs
        clear hR hRs
        go_wp2_with (first | ((with_reducible apply ld); rfl; (with_reducible assumption); (simp only [List.set_cons_zero, List.set_cons_succ]; rfl)) | ((with_reducible apply stO); rfl; rfl; exact b63; rfl; exact HRS.out; exact hfl; intro w4 b4 B4 ho4 hs4))
        refine bodyPost_ret (results_aggTmp rfl rfl rfl (b4.load (off := 0) (n := 7) (cs' := R) (by rw [HRS.out]; exact Nat.le_refl _) (Array.extract_eq_self_of_le (by rw [HRS.out]; exact Nat.le_refl _)))) rfl ?_
        have B40 := B30.trans (B4.mono (by omega : w.heap.size ≤ w.heap.size + 1))
        rw [E.out.1, E.out.2, HSK.out]
        refine (show ResErr _ _ _ _ _ from ⟨⟨ar, cr, (by rw [HR.out]; rfl), ?_⟩, B40⟩)
        refine owns_base (ownsN_block hO fun k hk => ho4 k fun e => ?_) B20.size
        have := (World.ownsRow.lt hO k hk).1
        have := b62s
        omega
  · have e1 : p.fanoR b D = Rs.zero := by unfold Pb.fanoR; rw [if_pos hc]
    have e2 : p.fanoE b D = probChk p := by unfold Pb.fanoE; rw [if_pos hc]
    have E := Lib.hid (And.intro e1 e2)
    clear e1 e2
    have hne : (probChk p != 0) = true := by simpa using hc
    go_wp2_with ((with_reducible apply ld); rfl; (with_reducible assumption); (simp only [List.set_cons_zero, List.set_cons_succ]; rfl))
    refine (fano_New_bad p a cap D hp hc _ hw0).mono ?_
    rintro e w1 ⟨rfl, B1⟩
    have b61 := b6.kept B1
    have B10 := bOn B0 B1
    clear fall b6 hw0
    go_wp2_with (first | ((with_reducible apply ld); rfl; (with_reducible assumption); (simp only [List.set_cons_zero, List.set_cons_succ]; rfl)) | ((with_reducible apply w_build (d := 20) (cs := #[.bool false, .bool false, .slice none 0 0, .int .i64 0, .int .i64 0, .int .i64 0, .int .i64 0])); ((simp only [List.map_toArray, List.map_cons, List.map_nil]); exact build_res0 _)) | ((with_reducible apply stO); rfl; rfl; exact b61; rfl; rfl; exact flat0; intro w2 b4 B2 ho3 hs3))
    refine bodyPost_ret (results_aggTmp rfl rfl rfl (b4.load (off := 0) (n := 7) (cs' := #[.bool false, .bool false, .slice none 0 0, .int .i64 0, .int .i64 0, .int .i64 0, .int .i64 0]) (Nat.le_refl _) rfl)) rfl ?_
    rw [E.out.1, E.out.2]; exact ResErr.zero rfl (B10.trans (B2.mono (by omega)))
end Go.Proofs.Ytkjnmjilkhigaaa
