import Derived.Test.YtnjmplapjnnjdaaGreatSeRes
set_option linter.unusedSimpArgs false
set_option linter.unusedVariables false
set_option linter.unnecessarySimpa false
/- The search of layer 17: Result. -/
namespace Go.Proofs.YtnjmplapjnnjdaaGreat
open Go.RowKit

/-- A result's bits: the head of a block of their own, with no room behind them. -/
def BitsIn (B : Nat) (w : World) (a : Option Addr) (c : Nat) (bs : List Nat) : Prop := c = bs.length ∧ ((a = none ∧ bs = []) ∨ ∃ g full, a = some ⟨g, 0, none⟩ ∧ B ≤ g ∧ BoxT w g (u8s full).toArray 5 ∧ full.take bs.length = bs ∧ full.length ≤ 1100 ∧ ∀ x ∈ full, x < 256)
def ResPostB (r : Rs) (w : World) (e : Ending) (w' : World) : Prop := (∃ a c, e = .returned (.agg (r.cells (.slice a r.bits.length c))) ∧ BitsIn w.heap.size w' a c r.bits) ∧ Below w.heap.size w w'
theorem BitsIn.kept {B c : Nat} {w w' : World} {a : Option Addr} {bs : List Nat} (h : BitsIn B w a c bs) (hk : ∀ k, B ≤ k → k < w.heap.size → w'.heap[k]? = w.heap[k]?) : BitsIn B w' a c bs :=
  ⟨h.1, h.2.imp_right fun ⟨g, full, h1, h2, h3, h4⟩ => ⟨g, full, h1, h2, h3.same (hk g h2 (Box.lt ⟨_, h3⟩)), h4⟩⟩
theorem BitsIn.base {B B' c : Nat} {w : World} {a : Option Addr} {bs : List Nat} (h : BitsIn B w a c bs) (hb : B' ≤ B) : BitsIn B' w a c bs :=
  ⟨h.1, h.2.imp_right fun ⟨g, full, h1, h2, h3⟩ => ⟨g, full, h1, Nat.le_trans hb h2, h3⟩⟩
theorem BitsIn.bytes {B c : Nat} {w : World} {a : Option Addr} {bs : List Nat} (h : BitsIn B w a c bs) : Bytes w a bs := by
  rcases h.2 with ⟨rfl, rfl⟩ | ⟨g, full, rfl, _, h3, h4, _, h5⟩
  · exact ⟨fun k hk => absurd hk (by simp), fun x hx => by cases hx⟩
  · have := (Box.bytes h3.box h5).part 0 bs.length
    rw [List.drop_zero, h4] at this
    simpa using this
/-- What a search comes to. -/
def Pb.bres (p : Pb) (D : Int) (s : Bq) : Rs := match s.found with
  | none => ⟨false, false, [], 0, 0, s.work, s.drops⟩
  | some e => ⟨true, !s.some_ || decide (s.gone ≤ e.dip / D), e.bs.take p.L.toNat, e.n.m, e.dip, s.work, s.drops⟩
def rowAt (bs : List Nat) (k : Nat) : List Value := u8s (List.replicate k 0 ++ bs.drop k)
def wayMeas (w : World) : Value → Nat
  | .pointer (some a) => match w.cell? ⟨a.block, 3, none⟩ with
    | some (.int _ n) => n.toNat
    | _ => 0
  | _ => 0
/-- One store by its run. -/
theorem one_step {P : Program} {ops : Array Oper} {o : Oper} {a : Act} {w w' : World} {K : Act → World → Prop} (hg : o.guard = none) (hd : o.dst = none) (hr : (execOp a.eval o).run P w = .ok .skip w') (h : K a w') : wpList P ops (fun e a w => e = .normal ∧ K a w) [o] a w := by
  refine wpList_plain hg fun K' hK => ?_
  unfold Oper.wp
  rw [hr]
  exact hK _ _ ⟨rfl, by rw [hd]; exact h⟩
def ResI (A : SA) (wb LN : Nat) (m d : Int) (W : World) : Prop := W.cell? ⟨A.sb, 0, none⟩ = some (.int .i64 (LN : Int)) ∧ W.cell? ⟨A.sb, 6, none⟩ = some (.pointer (some ⟨wb, 0, none⟩)) ∧ W.cell? ⟨wb, 4, none⟩ = some (.int .i64 m) ∧ W.cell? ⟨wb, 5, none⟩ = some (.int .i64 d)
theorem ResI.far {A : SA} {wb LN : Nat} {m d : Int} {W : World} (h : ResI A wb LN m d W) {q : Addr} (v : Value) (h1 : A.sb ≠ q.block) (h2 : wb ≠ q.block) : ResI A wb LN m d (W.setCell q v) := by
  have far : ∀ {b i : Nat} {x : Value}, b ≠ q.block → W.cell? ⟨b, i, none⟩ = some x → (W.setCell q v).cell? ⟨b, i, none⟩ = some x := fun {b i x} hb hx => by
    have e := Below.heap_setCell W q v b hb
    unfold World.cell? at hx ⊢
    simp only [e]
    exact hx
  exact ⟨far h1 h.1, far h1 h.2.1, far h2 h.2.2.1, far h2 h.2.2.2⟩
theorem run_slHiMax {P : Program} {w : World} {t e g o n cap j mx : Nat} {k' k'' : IntKind} [S : SlTy P t e] {z : Value} {bytes : Nat} [T : ElTy P e z 1 bytes] (h1 : j ≤ mx) (h2 : mx ≤ cap) : (Instr.sliceAt t (.slice (some ⟨g, o, none⟩) n cap) none (some (.int k' (j : Int))) (some (.int k'' (mx : Int)))).run P w = .ok (.slice (some ⟨g, o, none⟩) j mx) w := by
  have hi1 : ¬ mx < j := by omega
  have hi2 : ¬ cap < mx := by omega
  obtain ⟨i, hi, _⟩ := T.out
  simp [Instr.sliceAt, Instr.slice, Sem.run_bind, run_underlying S.out, Instr.sliceBounds, Instr.sliceBound, asIntOf, Sem.run_pure, hi1, hi2, sizeOf, typeInfo, hi, Addr.add, show j ≤ mx from h1, show mx ≤ cap from h2]
theorem pure_slHiMax {P : Program} {a : Act} {w : World} {d t e g o n cap j mx : Nat} {x hi mo : Operand} {k' k'' : IntKind} {ty : TypeId} {ps : String} {af : Array Edge} {gd : Option (Nat × Bool)} {z : Value} {bytes : Nat} [S : SlTy P t e] [T : ElTy P e z 1 bytes]
    (hx : a.eval x = .slice (some ⟨g, o, none⟩) n cap) (hh : a.eval hi = .int k' (j : Int)) (hm : a.eval mo = .int k'' (mx : Int)) (h1 : j ≤ mx) (h2 : mx ≤ cap) :
    (execOp a.eval ⟨some d, .slice t x none (some hi) (some mo), ty, ps, af, gd⟩).run P w = .ok (.value (.slice (some ⟨g, o, none⟩) j mx)) w := by
  have hr := run_slHiMax (P := P) (w := w) (t := t) (e := e) (g := g) (o := o) (n := n) (z := z) (bytes := bytes) (k' := k') (k'' := k'') h1 h2
  unfold execOp
  simp [hx, hh, hm, Sem.run_bind, hr]
theorem dipOf_bds (l : List Int) (h : ∀ m ∈ l, -12963840 ≤ m) : -12963840 ≤ dipOf l ∧ dipOf l ≤ 0 := by
  have key : ∀ (l : List Int) (a : Int), -12963840 ≤ a → a ≤ 0 → (∀ m ∈ l, -12963840 ≤ m) → -12963840 ≤ l.foldl min a ∧ l.foldl min a ≤ 0 := by
    intro l
    induction l with
    | nil => intro a h1 h2 _; exact ⟨h1, h2⟩
    | cons x l ih =>
      intro a h1 h2 h3
      have := h3 x (by simp)
      exact ih (min a x) (by omega) (by omega) (fun m hm => h3 m (by simp [hm]))
  exact key l 0 (by omega) (by omega) h
theorem Ent.Ok.dip_bd {p : Pb} (h : probChk p = 0) {e : Ent} (he : e.Ok p) : -12963840 ≤ e.dip ∧ e.dip ≤ 0 := by
  rw [he.dip]
  refine dipOf_bds _ fun m hm => ?_
  obtain ⟨i, _, rfl⟩ := List.mem_map.1 hm
  have := p.nd_bd h e.bs i
  omega
theorem flrCell_ediv {a d : Int} (hd : 1 ≤ d) (a0 : -100000000 ≤ a) (a1 : a ≤ 100000000) : flrCell a d = .tuple #[.int .i64 (a / d), .int .i64 0] := by
  have e := flr_ediv (a := a) hd
  have b := ediv_small hd a0 a1
  unfold flrCell
  rw [if_neg (show ¬d < 1 by omega), if_neg (show ¬d < 1 by omega)]
  unfold flr
  split
  · rename_i h
    rw [if_pos h] at e
    rw [show wrap64 (a.tdiv d - 1) = a / d by rw [e]; unfold wrap64; omega]
  · rename_i h
    rw [if_neg h] at e
    rw [e]
theorem WayIn.meas {w : World} {Wy : Nat → Prop} {b : Nat} {e : Ent} (h : WayIn w Wy b e) : wayMeas w (.pointer (some ⟨b, 0, none⟩)) = e.bs.length := by
  obtain ⟨up, bit, hb, _⟩ := h.box
  have c : w.cell? ⟨b, 3, none⟩ = some (.int .i64 (e.bs.length : Int)) := by rw [← h.depth]; exact hb.box.cell 3
  unfold wayMeas
  simp only [c]
  exact Int.toNat_natCast _
theorem rowAt_set (bs : List Nat) (k b : Nat) (h : bs[k]? = some b) : (rowAt bs (k + 1)).set k (.int .u8 b) = rowAt bs k := by
  obtain ⟨hk, rfl⟩ := List.getElem?_eq_some_iff.1 h
  unfold rowAt u8s
  rw [List.replicate_succ', List.append_assoc, List.drop_eq_getElem_cons hk, List.map_append, List.set_append_right _ _ (by simp)]
  simp
  rw [List.drop_eq_getElem_cons (i := k) (by simpa using hk)]
  simp
set_option maxRecDepth 5000 in
set_option maxHeartbeats 2000000 in
theorem se_Result {w : World} {p : Pb} (hc : probChk p = 0) {D : Int} {most : Nat} {s : Bq} (hs : s.Ok p D most) {b : Bk} {m : Sr} {ids : List Nat} {A : SA} {Wy : Nat → Prop} (h : Se w p D most s b m ids A Wy) (hwk : m.work = s.work) :
    Calls Tryz.prog 28 #[.pointer (some ⟨A.sb, 0, none⟩)] w (ResPostB (p.bres D s) w) := by
  have HWK := Lib.hid hwk
  clear hwk
  have MK := Lib.hid h.rel.mark
  have DR := Lib.hid h.rel.drops
  have hlt0 : ∀ k, A.has k ∨ Wy k → k < w.heap.size := fun k hk => hk.elim h.sr.hasLt fun hk => (h.wy k hk).2
  go_enter Tryz.func28, Tryz.ntmps28
  go_upto_region 1 with fail
  refine name1 ?_
  intro w0 b2 B0
  have h0 := h.kept B0
  go_wp2_with fail
  refine (sr_good _ h0.sr).mono ?_
  rintro e w1 ⟨rfl, B1⟩
  have h1 := h0.kept B1
  have b21 := b2.kept B1
  have B10 := bOn B0 B1
  have c7 := h1.sr.cells.c7
  have c8 := h1.sr.cells.c8
  clear h0 b2 h B1
  go_upto_region 3 with fail
  (refine wp_region_treeV (fun W => Below w1.heap.size w1 W) 10 (.pure 0 (.pure 1 (.pure 2 (.pure 3 (.pure 4 (.pure 5 (.pure 6 (.pure 7 (.pure 8 (.one 9 (.one 10 .nil))))))))))) (by kernel_rfl) (by kernel_rfl) ?_; simp only [List.getD_cons_zero, List.getD_cons_succ, wpOVI])
  intro w2 B2
  iterate 8
    refine ⟨fun _ => B2, _, fun W hI => by have c7 := KeptW.cell c7 ⟨W, hI⟩; have c8 := KeptW.cell c8 ⟨W, hI⟩; go_simp; first | done | rfl, ?_⟩
    try simp only [put_list, List.set_cons_zero, List.set_cons_succ]
  refine ⟨fun _ => B2, .agg #[.bool false, .bool false, .slice none 0 0, .int .i64 0, .int .i64 0, .int .i64 m.work, .int .i64 m.drops], fun W hI => by go_simp, ?_⟩
  try simp only [put_list, List.set_cons_zero, List.set_cons_succ]
  refine ⟨fun _ => B2, ?_⟩
  have bn := Box.new w2 #[.bool false, .bool false, .slice none 0 0, .int .i64 0, .int .i64 0, .int .i64 0, .int .i64 0] 86
  go_wp2_with (first | ((with_reducible apply ld); rfl; (with_reducible assumption); (simp only [List.set_cons_zero, List.set_cons_succ]; rfl)) | ((with_reducible apply stO); rfl; rfl; exact bn; rfl; rfl; exact flatR; intro w3 b3 B3 ho3 hs3))
  refine ⟨B2.alloc B2.size _, ?_⟩
  go_upto_region 4 with (first | ((with_reducible apply ld); rfl; (with_reducible assumption); (simp only [List.set_cons_zero, List.set_cons_succ]; rfl)) | ((with_reducible apply stO); rfl; rfl; exact bn; rfl; rfl; exact flatR; intro w3 b3 B3 ho3 hs3))
  have b3' : Box w3 w2.heap.size #[.bool false, .bool false, .slice none 0 0, .int .i64 0, .int .i64 0, .int .i64 m.work, .int .i64 m.drops] := b3
  have B32 : Below w2.heap.size w2 w3 := ((Below.refl _ w2).alloc (Nat.le_refl _) _).trans B3
  have h3 := (h1.kept B2).kept B32
  have b23 := (b21.kept B2).kept B32
  have B30 := bOn (bOn B10 B2) B32
  have hn3 : w.heap.size < w2.heap.size := by have := b21.lt; have := B2.size; omega
  have c6 := h3.sr.cells.c6
  clear b3 B3 ho3 hs3 bn h1 b21 c7 c8 B32 B2 B10
  rcases h3.rel.fnd with ⟨f1, f2⟩ | ⟨en, wb, f1, f2, f3⟩
  · rw [f2] at c6
    replace c6 : w3.cell? ⟨A.sb, 6, none⟩ = some (.pointer none) := c6
    have hR : p.bres D s = ⟨false, false, [], 0, 0, m.work, m.drops⟩ := by unfold Pb.bres; rw [f1, HWK.out, h3.rel.drops]
    have HR := Lib.hid hR
    clear hR f1 f2
    have g3 := b3'.load (off := 0) (n := 7) (cs' := #[.bool false, .bool false, .slice none 0 0, .int .i64 0, .int .i64 0, .int .i64 m.work, .int .i64 m.drops]) (Nat.le_refl _) rfl
    go_wp2_with (first | ((with_reducible apply ld); rfl; (with_reducible assumption); (simp only [List.set_cons_zero, List.set_cons_succ]; rfl)) | ((with_reducible apply stO); rfl; rfl; exact b23; rfl; rfl; exact flatR; intro w4 b4 B4 ho4 hs4))
    refine bodyPost_ret (results_cellAgg rfl rfl (b4.load (off := 0) (n := 7) (cs' := #[.bool false, .bool false, .slice none 0 0, .int .i64 0, .int .i64 0, .int .i64 m.work, .int .i64 m.drops]) (Nat.le_refl _) rfl)) rfl ?_
    rw [HR.out]
    exact (show ResPostB _ _ _ _ from ⟨⟨none, 0, rfl, rfl, .inl ⟨rfl, rfl⟩⟩, B30.trans B4⟩)
  · rw [f2] at c6
    replace c6 : w3.cell? ⟨A.sb, 6, none⟩ = some (.pointer (some ⟨wb, 0, none⟩)) := c6
    obtain ⟨heo, hed⟩ := hs.fnd en f1
    have hlen := (heo.path hc hed).2.1
    have hdep := f3.depth
    obtain ⟨up, bit, hbx, hwy⟩ := f3.box
    have cd : w3.cell? ⟨wb, 3, none⟩ = some (.int .i64 (en.bs.length : Int)) := by rw [← hdep]; exact hbx.box.cell 3
    have hNb := Pb.N_le hc
    have hbl : en.bs.length ≤ 1100 := by omega
    have HED := Lib.hid hed
    have HLEN := Lib.hid hlen
    have HDEP := Lib.hid hdep
    clear hed hlen hdep
    go_upto_region 7 with ((with_reducible apply mkT); rfl; rfl; omega; omega; omega; rfl; intro w4 m4 B4 hs4)
    have h4 := h3.kept B4
    have b24 := b23.kept B4
    have b34 := b3'.kept B4
    have B40 := bOn B30 B4
    have hway4 : WayIn w4 Wy wb en := f3.same (fun k hk hl => B4.block k hl) fun _ h => h
    have m5 : BoxT w4 w3.heap.size (rowAt en.bs en.bs.length).toArray 5 := by
      have e : rowAt en.bs en.bs.length = List.replicate en.bs.length (.int .u8 0) := by unfold rowAt u8s; rw [List.drop_length, List.append_nil, List.map_replicate]; rfl
      rw [e, ← made_one (.int .u8 0) en.bs.length rfl]
      exact m4
    have c64 : w4.cell? ⟨A.sb, 6, none⟩ = some (.pointer (some ⟨wb, 0, none⟩)) := (B4.cell (lt_of_cell c6)).trans c6
    obtain ⟨g, hg⟩ : ∃ g, g = w3.heap.size := ⟨_, rfl⟩
    rw [← hg] at m5 ⊢
    have hgn : w2.heap.size < g := by rw [hg]; exact b3'.lt
    have ht : ((en.bs.length : Int)).toNat = en.bs.length := rfl
    clear c6 cd m4 hs4 B4 h3 b23 b3' B30 hbx hwy f3 ht hg
    go_upto_region 8 with fail
    go_loopw [5] (fun i wr => ∃ (x : Ent) (c : Nat), i = .pointer (some ⟨c, 0, none⟩) ∧ WayIn wr Wy c x ∧ x.bs = en.bs.take x.bs.length ∧ x.bs.length ≤ en.bs.length ∧ BoxT wr g (rowAt en.bs x.bs.length).toArray 5 ∧ Se wr p D most s b m ids A Wy ∧ Box wr w.heap.size #[.bool false, .bool false, .slice none 0 0, .int .i64 0, .int .i64 0, .int .i64 0, .int .i64 0] ∧ Box wr w2.heap.size #[.bool false, .bool false, .slice none 0 0, .int .i64 0, .int .i64 0, .int .i64 m.work, .int .i64 m.drops] ∧ Below w.heap.size w wr) (fun i wr => wayMeas wr i)
    case atStart => exact ⟨en, wb, rfl, hway4, by rw [List.take_length], Nat.le_refl _, m5, h4, b24, b34, B40⟩
    case round =>
      obtain ⟨x, c, rfl, hx, hxb, hxl, m6, h6, b26, b36, B60⟩ := hrel
      clear h4 b24 b34 B40 m5 c64 hway4
      have hms := hx.meas
      cases hx with
      | kid hbx hwy hd hx =>
        rename_i c' bit x' n
        have k0 : wr.cell? ⟨c, 0, none⟩ = some (.pointer (some ⟨c', 0, none⟩)) := hbx.box.cell 0
        have k1 : wr.cell? ⟨c, 1, none⟩ = some (.int .u8 bit) := hbx.box.cell 1
        have k3 : wr.cell? ⟨c, 3, none⟩ = some (.int .i64 ((x'.bs.length : Int) + 1)) := by rw [← hd]; exact hbx.box.cell 3
        go_upto_region 10 with fail
        have hxl' : x'.bs.length + 1 ≤ en.bs.length := by simpa using hxl
        have hxb' : x'.bs ++ [bit] = en.bs.take (x'.bs.length + 1) := by simpa using hxb
        have hbit : en.bs[x'.bs.length]? = some bit := by
          have e := congrArg (fun l : List Nat => l[x'.bs.length]?) hxb'
          simp only [List.getElem?_take, List.getElem?_append_right (Nat.le_refl _)] at e
          simpa using e.symm
        have hpre : x'.bs = en.bs.take x'.bs.length := by
          have e := congrArg (fun l : List Nat => l.take x'.bs.length) hxb'
          simp only [List.take_take] at e
          rw [Nat.min_eq_left (by omega), List.take_append_of_le_length (Nat.le_refl _), List.take_length] at e
          exact e
        have hnx : ((n.d, x'.bs) = (n.d, x'.bs)) := rfl
        have hxr : rowAt en.bs (x'.bs ++ [bit]).length = rowAt en.bs (x'.bs.length + 1) := by simp
        have HXR := Lib.hid hxr
        obtain ⟨k, hk⟩ : ∃ k, k = x'.bs.length := ⟨_, rfl⟩
        rw [← hk] at k3 hxl' hbit hpre
        have HK := Lib.hid hk
        have HB := Lib.hid hbit
        have HP := Lib.hid hpre
        have HX := Lib.hid hx
        have HBX := Lib.hid hbx
        have hkl : (k : Int) < (en.bs.length : Int) := by omega
        clear hxr hk hbit hpre hx hbx hd hxb hxl hxb' hnx
        (refine wp_region_treeV (fun W => Below wr.heap.size wr W) 12 (.pure 0 (.pure 1 (.pure 2 (.pure 3 (.pure 4 (.pure 5 (.pure 6 (.pure 7 (.pure 8 (.pure 9 (.pure 10 (.pure 11 (.one 12 .nil))))))))))))) (by kernel_rfl) (by kernel_rfl) ?_; simp only [List.getD_cons_zero, List.getD_cons_succ, wpOVI])
        intro w7 B7
        iterate 6
          refine ⟨fun _ => B7, _, fun W hI => by have k3 := KeptW.cell k3 ⟨W, hI⟩; go_simp; first | done | rfl, ?_⟩
          try simp only [put_list, List.set_cons_zero, List.set_cons_succ]
        refine ⟨fun _ => B7, .int .i64 (k : Int), fun W hI => by go_simp; first | done | rfl | exact IntWalk.i64_in _ (by omega), ?_⟩
        try simp only [put_list, List.set_cons_zero, List.set_cons_succ]
        iterate 4
          refine ⟨fun _ => B7, _, fun W hI => by have k1 := KeptW.cell k1 ⟨W, hI⟩; go_simp; first | done | rfl, ?_⟩
          try simp only [put_list, List.set_cons_zero, List.set_cons_succ]
        refine ⟨fun _ => B7, _, fun W hI => by go_simp; first | done | rfl, ?_⟩
        try simp only [put_list, List.set_cons_zero, List.set_cons_succ]
        refine ⟨fun _ => B7, ?_⟩
        have m7 := m6.kept B7
        rw [HXR.out, ← HK.out] at m7
        have z7 : w7.frozen? ⟨g, k, none⟩ = false := m7.box.frozen k
        have q7 : ∃ v, w7.cell? ⟨g, k, none⟩ = some v := by
          rw [m7.box.cell k]
          exact ⟨_, List.getElem?_toArray .. |>.trans (List.getElem?_eq_getElem (by unfold rowAt u8s; simp; omega))⟩
        obtain ⟨v7, q7⟩ := q7
        have hway7 : WayIn w7 Wy c' x' := HX.out.same (fun k hk hl => B7.block k hl) fun _ h => h
        have h7 := h6.kept B7
        have b27 := b26.kept B7
        have b37 := b36.kept B7
        have B70 := bOn B60 B7
        have k0' : w7.cell? ⟨c, 0, none⟩ = some (.pointer (some ⟨c', 0, none⟩)) := (B7.cell (lt_of_cell k0)).trans k0
        have hcg : c ≠ g := by have := hlt0 c (.inr hwy); have := hn3; omega
        have hgw : w.heap.size < g := by omega
        clear k0 k1 k3 m6 h6 b26 b36 B60
        have hset : (rowAt en.bs (k + 1)).toArray.setIfInBounds k (.int .u8 bit) = (rowAt en.bs k).toArray := by
          rw [List.setIfInBounds_toArray, rowAt_set _ _ _ HB.out]
        have m8 := m7.set k (.int .u8 bit)
        rw [hset] at m8
        clear hset
        go_wp2
        go_roundw
        case measure =>
          have e1 : wayMeas wr (.pointer (some ⟨c, 0, none⟩)) = k + 1 := by rw [hms, HK.out]; simp
          have e2 : wayMeas (w7.setCell ⟨g, k, none⟩ (.int .u8 bit)) (.pointer (some ⟨c', 0, none⟩)) = k := by
            rw [(hway7.same (Wy' := Wy) (fun q hq hl => Below.heap_setCell _ _ _ _ (by have := hlt0 q (.inr hq); show q ≠ g; omega)) fun _ h => h).meas, HK.out]
          show wayMeas _ (.pointer (some ⟨c', 0, none⟩)) < wayMeas _ (.pointer (some ⟨c, 0, none⟩))
          rw [e1, e2]
          omega
        case rel =>
          refine ⟨x', c', rfl, hway7.same (fun q hq hl => Below.heap_setCell _ _ _ _ (by have := hlt0 q (.inr hq); show q ≠ g; omega)) fun _ h => h, ?_, ?_, ?_, h7.far _ _ (fun q hq => by have := hlt0 q hq; show q ≠ g; omega), b27.setOther (p := ⟨g, k, none⟩) (by show g ≠ _; omega) _, b37.setOther (p := ⟨g, k, none⟩) (by show g ≠ _; omega) _, B70.setCell (p := ⟨g, k, none⟩) (by show _ ≤ g; omega) _⟩
          · rw [← HK.out]; exact HP.out
          · rw [← HK.out]; omega
          · rw [← HK.out]; exact m8
      | root hbx hwy =>
        have k0 : wr.cell? ⟨c, 0, none⟩ = some (.pointer none) := hbx.box.cell 0
        have m7 : BoxT wr g (u8s en.bs).toArray 5 := m6
        have c6 : wr.cell? ⟨A.sb, 6, none⟩ = some (.pointer (some ⟨wb, 0, none⟩)) := by have := h6.sr.cells.c6; rw [f2] at this; exact this
        have hwb : WayIn wr Wy wb en := by
          rcases h6.rel.fnd with ⟨q1, q2⟩ | ⟨e', wb', q1, q2, q3⟩
          · rw [f1] at q1; cases q1
          · obtain rfl := Option.some.inj (f1.symm.trans q1)
            obtain rfl := Option.some.inj (f2.symm.trans q2)
            exact q3
        obtain ⟨up, bit, hbw, hwyb⟩ := hwb.box
        have hD1 : 1 ≤ D := by have := h6.bok.d0; rw [h6.rel.D_] at this; exact this
        have c1 : wr.cell? ⟨A.sb, 1, none⟩ = some (.int .i64 D) := by have := h6.sr.cells.c1; rw [h6.rel.D_] at this; exact this
        have d5 : wr.cell? ⟨wb, 5, none⟩ = some (.int .i64 en.dip) := hbw.box.cell 5
        clear hms m6 hxb hxl hbx
        go_upto_region 11 with fail
        have hdb := heo.dip_bd hc
        have hFl := fun W => score_Floor en.dip D (by omega) (by omega) W
        rw [flrCell_ediv hD1 (by omega) (by omega)] at hFl
        refine wp_region_kept (by kernel_rfl) (by kernel_rfl) ?_
        have q6 := KeptW.cell c6
        have q1 := KeptW.cell c1
        have q5 := KeptW.cell d5
        repeat first
          | ((with_reducible apply q_ld); rfl; (with_reducible assumption); (simp only [List.set_cons_zero, List.set_cons_succ]; rfl))
          | go_big_quiet_step (exact Calls.kept (hFl _))
        refine wpQuiet_nil ?_
        intro w7 B7
        have h7 := h6.kept B7
        have b27 := b26.kept B7
        have b37 := b36.kept B7
        have m8 := m7.kept B7
        have hwb7 : WayIn w7 Wy wb en := hwb.same (fun k hk hl => B7.block k hl) fun _ h => h
        have B70 := bOn B60 B7
        clear q6 q1 q5 c6 c1 d5 hFl h6 b26 b36 m7 hwb B60 B7 k0 hbw
        have c3 := h7.sr.cells.c3
        go_wp2_with fail
        refine (bk_Mark h7.bok _ h7.sr.bk).mono ?_
        rintro e w8 ⟨rfl, B8⟩
        have h8 := h7.kept B8
        have b28 := b27.kept B8
        have b38 := b37.kept B8
        have m9 := m8.kept B8
        have hwb8 : WayIn w8 Wy wb en := hwb7.same (fun k hk hl => B8.block k hl) fun _ h => h
        have B80 := bOn B70 B8
        clear c3 h7 b27 b37 m8 hwb7 B70 B8
        obtain ⟨up, bit, hbw, _⟩ := hwb8.box
        have c0 := h8.sr.cells.c0
        have c6 : w8.cell? ⟨A.sb, 6, none⟩ = some (.pointer (some ⟨wb, 0, none⟩)) := by have := h8.sr.cells.c6; rw [f2] at this; exact this
        have d5 : w8.cell? ⟨wb, 5, none⟩ = some (.int .i64 en.dip) := hbw.box.cell 5
        have d4 : w8.cell? ⟨wb, 4, none⟩ = some (.int .i64 en.n.m) := hbw.box.cell 4
        obtain ⟨LN, hLN⟩ : ∃ LN : Nat, p.L = (LN : Int) := ⟨p.L.toNat, by obtain ⟨_, l1, _⟩ := probChk_ok hc; omega⟩
        have hLl : LN ≤ en.bs.length := by have := HLEN.out; have := Pb.L_le hc; omega
        rw [hLN] at c0
        have hI8 : ResI A wb LN en.n.m en.dip w8 := ⟨c0, c6, d4, d5⟩
        have hsw : A.sb < w.heap.size ∧ wb < w.heap.size := ⟨hlt0 _ (.inl (.inl (.inl rfl))), hlt0 _ (.inr hwyb)⟩
        clear c0 c6 d4 d5 hbw
        go_upto_region 13 with fail
        (refine wp_region_treeV (ResI A wb LN en.n.m en.dip) 32 (.pure 0 (.pure 1 (.pure 2 (.pure 3 (.pure 4 (.pure 5 (.pure 6 (.pure 7 (.pure 8 (.pure 9 (.pure 10 (.pure 11 (.pure 12 (.pure 13 (.pure 14 (.pure 15 (.pure 16 (.pure 17 (.pure 18 (.pure 19 (.pure 20 (.pure 21 (.pure 22 (.pure 23 (.pure 24 (.free 25 (.one 26 (.free 27 (.one 28 (.free 29 (.one 30 (.free 31 (.one 32 .nil))))))))))))))))))))))))))))))))) (by kernel_rfl) (by kernel_rfl) ?_; simp only [List.getD_cons_zero, List.getD_cons_succ, wpOVI])
        intro w9 B9
        have hI9 : ResI A wb LN en.n.m en.dip w9 := ⟨(B9.cell (lt_of_cell hI8.1)).trans hI8.1, (B9.cell (lt_of_cell hI8.2.1)).trans hI8.2.1, (B9.cell (lt_of_cell hI8.2.2.1)).trans hI8.2.2.1, (B9.cell (lt_of_cell hI8.2.2.2)).trans hI8.2.2.2⟩
        iterate 9
          refine ⟨fun _ => hI9, _, fun W hI => by obtain ⟨i1, i2, i3, i4⟩ := hI; go_simp; first | done | rfl, ?_⟩
          try simp only [put_list, List.set_cons_zero, List.set_cons_succ]
        refine ⟨fun _ => hI9, .slice (some ⟨g, 0, none⟩) LN LN, fun W hI => pure_slHiMax rfl rfl rfl (Nat.le_refl _) hLl, ?_⟩
        try simp only [put_list, List.set_cons_zero, List.set_cons_succ]
        iterate 15
          refine ⟨fun _ => hI9, _, fun W hI => by obtain ⟨i1, i2, i3, i4⟩ := hI; go_simp; first | done | rfl, ?_⟩
          try simp only [put_list, List.set_cons_zero, List.set_cons_succ]
        have b29 := b28.kept B9
        have b39 := b38.kept B9
        have h9 := h8.kept B9
        have m10 := m9.kept B9
        have B90 := bOn B80 B9
        clear h8 b28 b38 m9 B80
        refine ⟨rfl, _, fun W => by go_simp; first | done | rfl, ?_⟩
        try simp only [put_list, List.set_cons_zero, List.set_cons_succ]
        refine ⟨fun _ => hI9, ?_⟩
        have e0 := b39.cell 0
        simp only [List.getElem?_toArray, List.getElem?_cons_zero, List.getElem?_cons_succ] at e0
        have z0 := b39.frozen 0
        refine one_step rfl rfl (w' := w9.setCell ⟨w2.heap.size, 0, none⟩ (.bool true)) (by go_simp) ?_
        have x1 := b39.setCell (i := 0) (.bool true)
        have hI1 : ResI A wb LN en.n.m en.dip (w9.setCell ⟨w2.heap.size, 0, none⟩ (.bool true)) := hI9.far _ (by show A.sb ≠ w2.heap.size; omega) (by show wb ≠ w2.heap.size; omega)
        refine ⟨rfl, _, fun W => by go_simp; first | done | rfl, ?_⟩
        try simp only [put_list, List.set_cons_zero, List.set_cons_succ]
        refine ⟨fun _ => hI1, ?_⟩
        have e2 := x1.cell 2
        have z2 := x1.frozen 2
        refine one_step rfl rfl (w' := (w9.setCell ⟨w2.heap.size, 0, none⟩ (.bool true)).setCell ⟨w2.heap.size, 2, none⟩ (.slice (some ⟨g, 0, none⟩) LN LN)) (by go_simp) ?_
        have x2 := x1.setCell (i := 2) (.slice (some ⟨g, 0, none⟩) LN LN)
        obtain ⟨wa, hwa⟩ : ∃ W, W = (w9.setCell ⟨w2.heap.size, 0, none⟩ (.bool true)).setCell ⟨w2.heap.size, 2, none⟩ (.slice (some ⟨g, 0, none⟩) LN LN) := ⟨_, rfl⟩
        have hI2 : ResI A wb LN en.n.m en.dip wa := by rw [hwa]; exact hI1.far _ (by show A.sb ≠ w2.heap.size; omega) (by show wb ≠ w2.heap.size; omega)
        rw [← hwa] at x2 ⊢
        have ya : Box wa w2.heap.size #[.bool true, .bool false, .slice (some ⟨g, 0, none⟩) LN LN, .int .i64 0, .int .i64 0, .int .i64 m.work, .int .i64 m.drops] := x2
        have ba : Box wa w.heap.size #[.bool false, .bool false, .slice none 0 0, .int .i64 0, .int .i64 0, .int .i64 0, .int .i64 0] := by rw [hwa]; exact (b29.setOther (p := ⟨w2.heap.size, 0, none⟩) (by show w2.heap.size ≠ _; omega) _).setOther (p := ⟨w2.heap.size, 2, none⟩) (by show w2.heap.size ≠ _; omega) _
        have ma : BoxT wa g (u8s en.bs).toArray 5 := by rw [hwa]; exact (Below.heap_setCell _ _ _ _ (by show g ≠ w2.heap.size; omega)).trans ((Below.heap_setCell _ _ _ _ (by show g ≠ w2.heap.size; omega)).trans m10)
        have Ba : Below w.heap.size w wa := by rw [hwa]; exact (B90.setCell (p := ⟨w2.heap.size, 0, none⟩) (by show _ ≤ w2.heap.size; omega) _).setCell (p := ⟨w2.heap.size, 2, none⟩) (by show _ ≤ w2.heap.size; omega) _
        clear hwa x1 x2 e0 e2 z0 z2 b29 b39 m10 B90 h9 hI1 hI9
        refine ⟨rfl, _, fun W => by go_simp; first | done | rfl, ?_⟩
        try simp only [put_list, List.set_cons_zero, List.set_cons_succ]
        refine ⟨fun _ => hI2, ?_⟩
        have e3 := ya.cell 3
        simp only [List.getElem?_toArray, List.getElem?_cons_zero, List.getElem?_cons_succ] at e3
        have z3 := ya.frozen 3
        refine one_step rfl rfl (w' := wa.setCell ⟨w2.heap.size, 3, none⟩ (.int .i64 en.n.m)) (by go_simp) ?_
        have x3 := ya.setCell (i := 3) (.int .i64 en.n.m)
        have hI3 : ResI A wb LN en.n.m en.dip (wa.setCell ⟨w2.heap.size, 3, none⟩ (.int .i64 en.n.m)) := hI2.far _ (by show A.sb ≠ w2.heap.size; omega) (by show wb ≠ w2.heap.size; omega)
        refine ⟨rfl, _, fun W => by go_simp; first | done | rfl, ?_⟩
        try simp only [put_list, List.set_cons_zero, List.set_cons_succ]
        refine ⟨fun _ => hI3, ?_⟩
        have e4 := x3.cell 4
        have z4 := x3.frozen 4
        have e4 : (wa.setCell ⟨w2.heap.size, 3, none⟩ (.int .i64 en.n.m)).cell? ⟨w2.heap.size, 4, none⟩ = some (.int .i64 0) := e4.trans rfl
        refine one_step rfl rfl (w' := (wa.setCell ⟨w2.heap.size, 3, none⟩ (.int .i64 en.n.m)).setCell ⟨w2.heap.size, 4, none⟩ (.int .i64 en.dip)) (by go_simp) ?_
        refine ⟨fun h => by simp at h, ?_⟩
        have x4 := x3.setCell (i := 4) (.int .i64 en.dip)
        obtain ⟨wc, hwc⟩ : ∃ W, W = (wa.setCell ⟨w2.heap.size, 3, none⟩ (.int .i64 en.n.m)).setCell ⟨w2.heap.size, 4, none⟩ (.int .i64 en.dip) := ⟨_, rfl⟩
        rw [← hwc] at x4 ⊢
        have yc : Box wc w2.heap.size #[.bool true, .bool false, .slice (some ⟨g, 0, none⟩) LN LN, .int .i64 en.n.m, .int .i64 en.dip, .int .i64 m.work, .int .i64 m.drops] := x4
        have bc : Box wc w.heap.size #[.bool false, .bool false, .slice none 0 0, .int .i64 0, .int .i64 0, .int .i64 0, .int .i64 0] := by rw [hwc]; exact (ba.setOther (p := ⟨w2.heap.size, 3, none⟩) (by show w2.heap.size ≠ _; omega) _).setOther (p := ⟨w2.heap.size, 4, none⟩) (by show w2.heap.size ≠ _; omega) _
        have mc : BoxT wc g (u8s en.bs).toArray 5 := by rw [hwc]; exact (Below.heap_setCell _ _ _ _ (by show g ≠ w2.heap.size; omega)).trans ((Below.heap_setCell _ _ _ _ (by show g ≠ w2.heap.size; omega)).trans ma)
        have Bc : Below w.heap.size w wc := by rw [hwc]; exact (Ba.setCell (p := ⟨w2.heap.size, 3, none⟩) (by show _ ≤ w2.heap.size; omega) _).setCell (p := ⟨w2.heap.size, 4, none⟩) (by show _ ≤ w2.heap.size; omega) _
        clear hwc x3 x4 e3 e4 z3 z4 ya ba ma Ba hI2 hI3 hI8
        have hfin : ∀ (B : Bool) (wd : World), B = (!s.some_ || decide (s.gone ≤ en.dip / D)) → ∀ {e : Ending}, e = .returned (.agg #[.bool true, .bool B, .slice (some ⟨g, 0, none⟩) LN LN, .int .i64 en.n.m, .int .i64 en.dip, .int .i64 m.work, .int .i64 m.drops]) → Below w.heap.size w wd → BoxT wd g (u8s en.bs).toArray 5 → ResPostB (p.bres D s) w e wd := by
          rintro B wd rfl e rfl hB hM
          have hR : p.bres D s = ⟨true, !s.some_ || decide (s.gone ≤ en.dip / D), en.bs.take LN, en.n.m, en.dip, m.work, m.drops⟩ := by
            unfold Pb.bres
            rw [f1, HWK.out, DR.out, hLN]
            rfl
          rw [hR]
          have htl : (en.bs.take LN).length = LN := by rw [List.length_take]; omega
          refine ⟨⟨some ⟨g, 0, none⟩, LN, ?_, ?_⟩, hB⟩
          · show Ending.returned (.agg #[_, _, _, _, _, _, _]) = Ending.returned (.agg #[_, _, .slice _ (en.bs.take LN).length _, _, _, _, _])
            rw [htl]
          · refine ⟨htl.symm, .inr ⟨g, en.bs, rfl, by omega, hM, ?_, hbl, fun x hx => ?_⟩⟩
            · show en.bs.take (en.bs.take LN).length = en.bs.take LN
              rw [htl]
            · have := heo.lt x hx
              omega
        obtain ⟨mk, hmk⟩ : ∃ x, x = b.mkd := ⟨_, rfl⟩
        obtain ⟨mm, hmm⟩ : ∃ x, x = b.mark := ⟨_, rfl⟩
        obtain ⟨qq, hqq⟩ : ∃ x, x = en.dip / D := ⟨_, rfl⟩
        rw [← hmk, ← hmm, ← hqq]
        have hM1 : mk = s.some_ := hmk.trans MK.out.2
        have hM2 : mm = s.gone := hmm.trans MK.out.1
        rw [← hM1, ← hM2, ← hqq] at hfin
        clear hmk hmm hqq hM1 hM2
        cases mk with
        | false =>
          have e1 := yc.cell 1
          simp only [List.getElem?_toArray, List.getElem?_cons_zero, List.getElem?_cons_succ] at e1
          have z1 := yc.frozen 1
          have y2 : Box (wc.setCell ⟨w2.heap.size, 1, none⟩ (.bool true)) w2.heap.size #[.bool true, .bool true, .slice (some ⟨g, 0, none⟩) LN LN, .int .i64 en.n.m, .int .i64 en.dip, .int .i64 m.work, .int .i64 m.drops] := yc.setCell (i := 1) (.bool true)
          have g3 := y2.load (off := 0) (n := 7) (cs' := #[.bool true, .bool true, .slice (some ⟨g, 0, none⟩) LN LN, .int .i64 en.n.m, .int .i64 en.dip, .int .i64 m.work, .int .i64 m.drops]) (Nat.le_refl _) rfl
          have b2x : Box (wc.setCell ⟨w2.heap.size, 1, none⟩ (.bool true)) w.heap.size #[.bool false, .bool false, .slice none 0 0, .int .i64 0, .int .i64 0, .int .i64 0, .int .i64 0] := bc.setOther (p := ⟨w2.heap.size, 1, none⟩) (by show w2.heap.size ≠ _; omega) _
          have mx : BoxT (wc.setCell ⟨w2.heap.size, 1, none⟩ (.bool true)) g (u8s en.bs).toArray 5 := (Below.heap_setCell _ _ _ _ (by show g ≠ w2.heap.size; omega)).trans mc
          have Bx : Below w.heap.size w (wc.setCell ⟨w2.heap.size, 1, none⟩ (.bool true)) := Bc.setCell (p := ⟨w2.heap.size, 1, none⟩) (by show _ ≤ w2.heap.size; omega) _
          clear yc bc mc Bc y2
          go_wp2_with (first | ((with_reducible apply ld); rfl; (with_reducible assumption); (simp only [List.set_cons_zero, List.set_cons_succ]; rfl)) | ((with_reducible apply stO); rfl; rfl; exact b2x; rfl; rfl; exact flatR; intro wd bd Bd hod hsd))
          refine bodyPost_ret (results_cellAgg rfl rfl (bd.load (off := 0) (n := 7) (cs' := #[.bool true, .bool true, .slice (some ⟨g, 0, none⟩) LN LN, .int .i64 en.n.m, .int .i64 en.dip, .int .i64 m.work, .int .i64 m.drops]) (Nat.le_refl _) rfl)) rfl ?_
          exact hfin _ _ (by simp) rfl (Bx.trans Bd) ((hod g (by omega)).trans mx)
        | true =>
          have e1 := yc.cell 1
          simp only [List.getElem?_toArray, List.getElem?_cons_zero, List.getElem?_cons_succ] at e1
          have z1 := yc.frozen 1
          have y2 : Box (wc.setCell ⟨w2.heap.size, 1, none⟩ (.bool (decide (mm ≤ qq)))) w2.heap.size #[.bool true, .bool (decide (mm ≤ qq)), .slice (some ⟨g, 0, none⟩) LN LN, .int .i64 en.n.m, .int .i64 en.dip, .int .i64 m.work, .int .i64 m.drops] := yc.setCell (i := 1) (.bool (decide (mm ≤ qq)))
          have g3 := y2.load (off := 0) (n := 7) (cs' := #[.bool true, .bool (decide (mm ≤ qq)), .slice (some ⟨g, 0, none⟩) LN LN, .int .i64 en.n.m, .int .i64 en.dip, .int .i64 m.work, .int .i64 m.drops]) (Nat.le_refl _) rfl
          have b2x : Box (wc.setCell ⟨w2.heap.size, 1, none⟩ (.bool (decide (mm ≤ qq)))) w.heap.size #[.bool false, .bool false, .slice none 0 0, .int .i64 0, .int .i64 0, .int .i64 0, .int .i64 0] := bc.setOther (p := ⟨w2.heap.size, 1, none⟩) (by show w2.heap.size ≠ _; omega) _
          have mx : BoxT (wc.setCell ⟨w2.heap.size, 1, none⟩ (.bool (decide (mm ≤ qq)))) g (u8s en.bs).toArray 5 := (Below.heap_setCell _ _ _ _ (by show g ≠ w2.heap.size; omega)).trans mc
          have Bx : Below w.heap.size w (wc.setCell ⟨w2.heap.size, 1, none⟩ (.bool (decide (mm ≤ qq)))) := Bc.setCell (p := ⟨w2.heap.size, 1, none⟩) (by show _ ≤ w2.heap.size; omega) _
          clear yc bc mc Bc y2
          go_wp2_with (first | ((with_reducible apply ld); rfl; (with_reducible assumption); (simp only [List.set_cons_zero, List.set_cons_succ]; rfl)) | ((with_reducible apply stO); rfl; rfl; exact b2x; rfl; rfl; exact flatR; intro wd bd Bd hod hsd))
          refine bodyPost_ret (results_cellAgg rfl rfl (bd.load (off := 0) (n := 7) (cs' := #[.bool true, .bool (decide (mm ≤ qq)), .slice (some ⟨g, 0, none⟩) LN LN, .int .i64 en.n.m, .int .i64 en.dip, .int .i64 m.work, .int .i64 m.drops]) (Nat.le_refl _) rfl)) rfl ?_
          exact hfin _ _ (by simp) rfl (Bx.trans Bd) ((hod g (by omega)).trans mx)
end Go.Proofs.YtnjmplapjnnjdaaGreat

/- The search of layer 17: Decode. -/
namespace Go.Proofs.YtnjmplapjnnjdaaGreat
open Go.RowKit

theorem se_Run_bad {w : World} {p : Pb} {D : Int} {most : Nat} {s : Bq} {b : Bk} {m : Sr} {ids : List Nat} {A : SA} {Wy : Nat → Prop} (h : Se w p D most s b m ids A Wy) {n : Int} (hb : n < 0 ∨ 1048576 < n) :
    Pure Tryz.prog 32 #[.pointer (some ⟨A.sb, 0, none⟩), .int .i64 n] w (.tuple #[.bool false, .int .i64 1]) := by
  have hd : decide (n < 0) = true ∨ (decide (n < 0) = false ∧ decide (1048576 < n) = true) := by
    by_cases h : n < 0
    · exact .inl (by simpa using h)
    · exact .inr ⟨by simpa using h, by simp; omega⟩
  clear hb
  rcases hd with d1 | ⟨d1, d2⟩
  all_goals
    go_enter_defers Tryz.func32, Tryz.ntmps32
    have hvb := Box.new w #[.pointer (some ⟨A.sb, 0, none⟩)] 35
    have BA : Below w.heap.size w (w.alloc (.cells #[.pointer (some ⟨A.sb, 0, none⟩)] 35)) := (Below.refl _ _).alloc (Nat.le_refl _) _
    have hSe1 := h.kept BA
    have cv : (w.alloc (.cells #[.pointer (some ⟨A.sb, 0, none⟩)] 35)).cell? ⟨w.heap.size, 0, none⟩ = some (.pointer (some ⟨A.sb, 0, none⟩)) := hvb.cell 0
    go_wp2_with fail
    refine (sr_good _ hSe1.sr).mono ?_
    rintro e w1 ⟨rfl, B1⟩
    go_wp2
    exact ⟨_, results_tmp2 (t := 4) (u := 5) rfl _ _ _, rfl, bOn BA B1⟩
def ResErrB (r : Rs) (err : Int) (w : World) (e : Ending) (w' : World) : Prop := (∃ a c, e = .returned (.tuple #[.agg (r.cells (.slice a r.bits.length c)), .int .i64 err]) ∧ BitsIn w.heap.size w' a c r.bits) ∧ Below w.heap.size w w'
theorem ResErrB.zero {err : Int} {w w' : World} {e : Ending} (he : e = .returned (.tuple #[.agg #[.bool false, .bool false, .slice none 0 0, .int .i64 0, .int .i64 0, .int .i64 0, .int .i64 0], .int .i64 err])) (hB : Below w.heap.size w w') : ResErrB Rs.zero err w e w' :=
  ⟨⟨none, 0, he, rfl, .inl ⟨rfl, rfl⟩⟩, hB⟩
def Pb.seR (p : Pb) (cap b D : Int) : Rs := if newE p cap D ≠ 0 then Rs.zero else if b < 0 ∨ 1048576 < b then Rs.zero else p.bres D (p.brun D cap.toNat b.toNat (Bq.start D cap.toNat))
def Pb.seE (p : Pb) (cap b D : Int) : Int := if newE p cap D ≠ 0 then newE p cap D else if b < 0 ∨ 1048576 < b then 1 else 0
set_option maxRecDepth 5000 in
set_option maxHeartbeats 1000000 in
theorem se_Decode (p : Pb) (a : Option Addr) (ca : Nat) (cap b D : Int) (hp : p.Ok) (w : World) (hw : Bytes w a p.B) :
    Calls Tryz.prog 30 #[.agg (p.cells (.slice a p.B.length ca)), .int .i64 cap, .int .i64 b, .int .i64 D] w (ResErrB (p.seR cap b D) (p.seE cap b D) w) := by
  go_enter Tryz.func30, Tryz.ntmps30
  go_upto_region 1 with fail
  refine name2 ?_
  intro w0 b3 b6 B0
  have hw0 := hw.kept B0
  obtain ⟨fk, fr, flev, fl, fwin, fcode, ftable, fall⟩ := b3.prob hp
  clear fk fr flev fl fwin fcode ftable b3
  have flat0 : Flat #[.bool false, .bool false, .slice none 0 0, .int .i64 0, .int .i64 0, .int .i64 0, .int .i64 0] := flatR
  go_wp2_with ((with_reducible apply ld); rfl; (with_reducible assumption); (simp only [List.set_cons_zero, List.set_cons_succ]; rfl))
  refine (se_New p a ca cap D hp _ hw0).mono ?_
  rintro e w1 ⟨hN, B1⟩
  have b61 := b6.kept B1
  have B10 := bOn B0 B1
  by_cases hz : newE p cap D = 0
  · rw [if_pos hz] at hN
    obtain ⟨bk, m, ids, A, Wy, rfl, hSe, hwk, hge⟩ := hN
    obtain ⟨hc, c1, c2, D1, D2, _⟩ := newE_zero hz
    have hb6 : w.heap.size + 1 < w0.heap.size := b6.lt
    clear fall b6 hw0 B1
    by_cases hb : b < 0 ∨ 1048576 < b
    · have e1 : p.seR cap b D = Rs.zero := by unfold Pb.seR; rw [if_neg (by simp [hz]), if_pos hb]
      have e2 : p.seE cap b D = 1 := by unfold Pb.seE; rw [if_neg (by simp [hz]), if_pos hb]
      have E := Lib.hid (And.intro e1 e2)
      clear e1 e2 c1 c2 D1 D2
      go_wp2_with fail
      refine (se_Run_bad hSe hb).mono ?_
      rintro e w2 ⟨rfl, B2⟩
      have b62 := b61.kept B2
      have B20 := bOn B10 B2
      clear hb
      go_wp2_with (first | ((with_reducible apply ld); rfl; (with_reducible assumption); (simp only [List.set_cons_zero, List.set_cons_succ]; rfl)) | ((with_reducible apply w_build (d := 33) (cs := #[.bool false, .bool false, .slice none 0 0, .int .i64 0, .int .i64 0, .int .i64 0, .int .i64 0])); ((simp only [List.map_toArray, List.map_cons, List.map_nil]); exact build_res0 _)) | ((with_reducible apply stO); rfl; rfl; exact b62; rfl; rfl; exact flat0; intro w3 b4 B3 ho3 hs3))
      refine bodyPost_ret (results_aggTmp rfl rfl rfl (b4.load (off := 0) (n := 7) (cs' := #[.bool false, .bool false, .slice none 0 0, .int .i64 0, .int .i64 0, .int .i64 0, .int .i64 0]) (Nat.le_refl _) rfl)) rfl ?_
      rw [E.out.1, E.out.2]; exact ResErrB.zero rfl (B20.trans (B3.mono (by omega)))
    · obtain ⟨n, rfl⟩ : ∃ n : Nat, b = n := ⟨b.toNat, by omega⟩
      obtain ⟨cn, rfl⟩ : ∃ cn : Nat, cap = cn := ⟨cap.toNat, by omega⟩
      have e1 : p.seR cn n D = p.bres D (p.brun D cn n (Bq.start D cn)) := by unfold Pb.seR; rw [if_neg (by simp [hz]), if_neg hb]; rfl
      have e2 : p.seE cn n D = 0 := by unfold Pb.seE; rw [if_neg (by simp [hz]), if_neg hb]
      have E := Lib.hid (And.intro e1 e2)
      clear e1 e2
      have hs0 : (Bq.start D cn).Ok p D cn := Bq.Ok.start (by omega)
      have hwk0 : m.work = (Bq.start D cn).work := hwk.trans (Bq.put_facts (D := D) (most := cn) (by omega) (s := ⟨[], 0, 0, 0, false, none⟩) (Nat.zero_le _) ent0).2.2.2.2.symm
      have hwr : wrap64 (Bq.start D cn).work = (Bq.start D cn).work := by rw [← hwk0, hwk]; unfold wrap64; omega
      have hrun := se_Run hp hc (by omega : 1 ≤ cn) hs0 (hSe : Se w1 p D cn (Bq.start D cn) bk m ids A Wy) hwk0 hwr (n := n) (by omega) (by omega)
      have hok : (p.brun D cn n (Bq.start D cn)).Ok p D cn := hs0.run hc (by omega) n
      clear hb c1 c2 D1 D2 hz
      go_wp2_with fail
      refine hrun.mono ?_
      rintro e w2 ⟨b2, m2, ids2, A2, Wy2, rfl, hSe2, N2, W2, hwk2⟩
      have hge2 : ∀ k, A.own k → w.heap.size + 1 < k := fun k hk => by have := hge k (.inl (.inl hk)); omega
      have B2 : Below w.heap.size w1 w2 := N2.2.2.below' B10.size fun k hk hh => by have := hge2 k hh; omega
      have B20 := B10.trans B2
      have b62 := b61.turn N2.2.2 (fun hh => by have := hge2 _ hh; omega)
      obtain ⟨sk, hsk⟩ : ∃ sk, sk = p.brun D cn n (Bq.start D cn) := ⟨_, rfl⟩
      have hSe2 : Se w2 p D cn sk b2 m2 ids2 A2 Wy2 := by rw [hsk]; exact hSe2
      have hwk2 : m2.work = sk.work := by rw [hsk]; exact hwk2
      rw [← hsk] at hok
      have hf : (p.brun D cn (n : Int).toNat (Bq.start D cn)).found = sk.found := by rw [hsk]; rfl
      rw [hf]
      have HSK := Lib.hid hsk.symm
      have hres := se_Result hc hok hSe2 hwk2
      rw [N2.1.1] at hres
      clear hsk b61 hSe hrun hf hwk hwk0 hwr
      go_wp2_with fail
      refine hres.mono ?_
      rintro e w3 ⟨⟨ar, cr, rfl, hO⟩, B3⟩
      have b63 := b62.kept B3
      have B30 := bOn B20 B3
      have b62s := b62.lt
      clear hres b62 hSe2
      have hfl : Flat ((p.bres D sk).cells (.slice ar (p.bres D sk).bits.length cr)) := flatR
      obtain ⟨R, hR⟩ : ∃ R, R = (p.bres D sk).cells (.slice ar (p.bres D sk).bits.length cr) := ⟨_, rfl⟩
      have hRs : R.size = 7 := by rw [hR]; rfl
      rw [← hR] at hfl ⊢
      have HR := Lib.hid hR
      have HRS := Lib.hid hRs
      clear hR hRs
      go_wp2_with (first | ((with_reducible apply ld); rfl; (with_reducible assumption); (simp only [List.set_cons_zero, List.set_cons_succ]; rfl)) | ((with_reducible apply stO); rfl; rfl; exact b63; rfl; exact HRS.out; exact hfl; intro w4 b4 B4 ho4 hs4))
      refine bodyPost_ret (results_aggTmp rfl rfl rfl (b4.load (off := 0) (n := 7) (cs' := R) (by rw [HRS.out]; exact Nat.le_refl _) (Array.extract_eq_self_of_le (by rw [HRS.out]; exact Nat.le_refl _)))) rfl ?_
      have B40 := B30.trans (B4.mono (by omega : w.heap.size ≤ w.heap.size + 1))
      rw [E.out.1, E.out.2, HSK.out]
      refine (show ResErrB _ _ _ _ _ from ⟨⟨ar, cr, (by rw [HR.out]; rfl), ?_⟩, B40⟩)
      exact (hO.kept fun k hk _ => ho4 k (by omega)).base B20.size
  · rw [if_neg hz] at hN
    subst hN
    have e1 : p.seR cap b D = Rs.zero := by unfold Pb.seR; rw [if_pos hz]
    have e2 : p.seE cap b D = newE p cap D := by unfold Pb.seE; rw [if_pos hz]
    have E := Lib.hid (And.intro e1 e2)
    clear e1 e2
    have hz2 : (newE p cap D != 0) = true := by simp [hz]
    clear fall b6 hw0 hz
    go_wp2_with (first | ((with_reducible apply ld); rfl; (with_reducible assumption); (simp only [List.set_cons_zero, List.set_cons_succ]; rfl)) | ((with_reducible apply w_build (d := 23) (cs := #[.bool false, .bool false, .slice none 0 0, .int .i64 0, .int .i64 0, .int .i64 0, .int .i64 0])); ((simp only [List.map_toArray, List.map_cons, List.map_nil]); exact build_res0 _)) | ((with_reducible apply stO); rfl; rfl; exact b61; rfl; rfl; exact flat0; intro w2 b4 B2 ho3 hs3))
    refine bodyPost_ret (results_aggTmp rfl rfl rfl (b4.load (off := 0) (n := 7) (cs' := #[.bool false, .bool false, .slice none 0 0, .int .i64 0, .int .i64 0, .int .i64 0, .int .i64 0]) (Nat.le_refl _) rfl)) rfl ?_
    rw [E.out.1, E.out.2]; exact ResErrB.zero rfl (B10.trans (B2.mono (by omega)))
end Go.Proofs.YtnjmplapjnnjdaaGreat
