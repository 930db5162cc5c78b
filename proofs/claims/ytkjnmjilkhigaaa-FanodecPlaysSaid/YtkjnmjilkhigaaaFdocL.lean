import Derived.Test.YtkjnmjilkhigaaaFanoD
set_option linter.unusedSimpArgs false
set_option linter.unusedVariables false
set_option linter.unnecessarySimpa false
/- Fano's machine in memory, the document's: where its parts lie; the walks of its small functions. -/
namespace Go.Proofs.Ytkjnmjilkhigaaa
open Go.RowKit

structure DA where
  mb : Nat
  way : Nat
  cap : Nat
  tb : Nat
  g : Nat
  c : Nat
def DA.has (A : DA) (k : Nat) : Prop := k = A.mb ∨ k = A.way ∨ k = A.tb ∨ k = A.g
def DA.wr (A : DA) (k : Nat) : Prop := k = A.mb ∨ k = A.way
def fdCells (D : Int) (s : Fm) (A : DA) : Array Value := #[.pointer (some ⟨A.tb, 0, none⟩), .int .i64 D, .slice (some ⟨A.way, 0, none⟩) (s.up.length + 1) A.cap, .int .i64 s.thr, .int .i64 s.low, .int .i64 s.work, .bool s.done]
structure FdIn (w : World) (p : Pb) (D : Int) (s : Fm) (A : DA) : Prop where
  mach : Box w A.mb (fdCells D s A)
  tree : DocIn w p A.tb A.g A.c
  way : w.ownsRow 0 110 5 (.slice (some ⟨A.way, 0, none⟩) (s.up.length + 1) A.cap) (s.up.length + 1) (wayRow s.top s.up)
  ne : A.mb ≠ A.way ∧ (A.mb ≠ A.tb ∧ A.mb ≠ A.g) ∧ (A.way ≠ A.tb ∧ A.way ≠ A.g)
  glt : A.g < w.heap.size
theorem DocIn.same {w w' : World} {p : Pb} {tb g c : Nat} (h : DocIn w p tb g c) (hk : ∀ k, k = tb ∨ k = g → w'.heap[k]? = w.heap[k]?) : DocIn w' p tb g c :=
  ⟨h.tree.imp fun _ h => (hk tb (.inl rfl)).trans h, h.win.block (hk g (.inr rfl))⟩
theorem FdIn.same {w w' : World} {p : Pb} {D : Int} {s : Fm} {A : DA} (h : FdIn w p D s A) (hs : w.heap.size ≤ w'.heap.size) (hk : ∀ k, A.has k → w'.heap[k]? = w.heap[k]?) : FdIn w' p D s A :=
  ⟨h.mach.imp fun _ h => (hk _ (.inl rfl)).trans h, h.tree.same fun k hk' => hk k (by unfold DA.has; rcases hk' with h | h <;> simp [h]),
    ownsN_block h.way fun k hk' => hk k (by rw [← Option.some.inj hk']; exact .inr (.inl rfl)), h.ne, Nat.lt_of_lt_of_le h.glt hs⟩
theorem FdIn.lt {w : World} {p : Pb} {D : Int} {s : Fm} {A : DA} (h : FdIn w p D s A) {k : Nat} (hk : A.has k) : k < w.heap.size := by
  rcases hk with rfl | rfl | rfl | rfl
  · exact h.mach.lt
  · exact ownsN_lt h.way
  · exact h.tree.tree.lt
  · exact h.glt
theorem FdIn.kept {w w' : World} {p : Pb} {D : Int} {s : Fm} {A : DA} (h : FdIn w p D s A) (hB : Below w.heap.size w w') : FdIn w' p D s A := h.same hB.size fun k hk => hB.block k (h.lt hk)
theorem FdIn.turn {w w' : World} {p : Pb} {D : Int} {s : Fm} {A : DA} {H : Nat → Prop} (h : FdIn w p D s A) (hT : Turn H w w') (ha : ∀ k, A.has k → ¬H k) : FdIn w' p D s A := h.same hT.size fun k hk => hT.block k (h.lt hk) (ha k hk)
structure FdAt (w : World) (D : Int) (s : Fm) (A : DA) : Prop where
  c0 : w.cell? ⟨A.mb, 0, none⟩ = some (.pointer (some ⟨A.tb, 0, none⟩))
  c1 : w.cell? ⟨A.mb, 1, none⟩ = some (.int .i64 D)
  c2 : w.cell? ⟨A.mb, 2, none⟩ = some (.slice (some ⟨A.way, 0, none⟩) (s.up.length + 1) A.cap)
  c3 : w.cell? ⟨A.mb, 3, none⟩ = some (.int .i64 s.thr)
  c4 : w.cell? ⟨A.mb, 4, none⟩ = some (.int .i64 s.low)
  c5 : w.cell? ⟨A.mb, 5, none⟩ = some (.int .i64 s.work)
  c6 : w.cell? ⟨A.mb, 6, none⟩ = some (.bool s.done)
  fz : ∀ i, w.frozen? ⟨A.mb, i, none⟩ = false
theorem FdIn.at_ {w : World} {p : Pb} {D : Int} {s : Fm} {A : DA} (h : FdIn w p D s A) : FdAt w D s A :=
  ⟨(h.mach.cell 0).trans rfl, (h.mach.cell 1).trans rfl, (h.mach.cell 2).trans rfl, (h.mach.cell 3).trans rfl, (h.mach.cell 4).trans rfl, (h.mach.cell 5).trans rfl, (h.mach.cell 6).trans rfl, h.mach.frozen⟩
theorem FdIn.put {w : World} {p : Pb} {D : Int} {s s' : Fm} {A : DA} (h : FdIn w p D s A) (j : Nat) (v : Value) (e : (fdCells D s A).setIfInBounds j v = fdCells D s' A)
    (hw : w.ownsRow 0 110 5 (.slice (some ⟨A.way, 0, none⟩) (s'.up.length + 1) A.cap) (s'.up.length + 1) (wayRow s'.top s'.up)) : FdIn (w.setCell ⟨A.mb, j, none⟩ v) p D s' A := by
  have hb := h.mach.setCell (i := j) v
  rw [e] at hb
  obtain ⟨n1, n2, n3⟩ := h.ne
  exact ⟨hb, h.tree.setOther (q := ⟨A.mb, j, none⟩) n2 v, ownsN_block hw fun k hk => Below.heap_setCell _ _ _ _ (by rw [← Option.some.inj hk]; exact Ne.symm n1), h.ne, by simpa using h.glt⟩
theorem FdIn.thr {w : World} {p : Pb} {D : Int} {s : Fm} {A : DA} (h : FdIn w p D s A) (t : Int) : FdIn (w.setCell ⟨A.mb, 3, none⟩ (.int .i64 t)) p D { s with thr := t } A := h.put 3 _ rfl h.way
theorem FdIn.low {w : World} {p : Pb} {D : Int} {s : Fm} {A : DA} (h : FdIn w p D s A) (t : Int) : FdIn (w.setCell ⟨A.mb, 4, none⟩ (.int .i64 t)) p D { s with low := t } A := h.put 4 _ rfl h.way
theorem FdIn.work {w : World} {p : Pb} {D : Int} {s : Fm} {A : DA} (h : FdIn w p D s A) (t : Int) : FdIn (w.setCell ⟨A.mb, 5, none⟩ (.int .i64 t)) p D { s with work := t } A := h.put 5 _ rfl h.way
theorem FdIn.done {w : World} {p : Pb} {D : Int} {s : Fm} {A : DA} (h : FdIn w p D s A) (t : Bool) : FdIn (w.setCell ⟨A.mb, 6, none⟩ (.bool t)) p D { s with done := t } A := h.put 6 _ rfl h.way
theorem FdIn.pop {w : World} {p : Pb} {D : Int} {s : Fm} {A : DA} {y : Spot} {ys : List Spot} (h : FdIn w p D s A) (hu : s.up = y :: ys) : FdIn (w.setCell ⟨A.mb, 2, none⟩ (.slice (some ⟨A.way, 0, none⟩) (ys.length + 1) A.cap)) p D { s with top := y, up := ys } A := by
  refine h.put 2 _ rfl ?_
  have hw := h.way
  rw [hu] at hw
  have := ownsN_prefix (n := ys.length + 1) (m := 1) hw
  rw [wayRow_pop] at this
  exact this
theorem FdIn.tried {w : World} {p : Pb} {D : Int} {s : Fm} {A : DA} (h : FdIn w p D s A) (t : Nat) : FdIn (w.setCell ⟨A.way, s.up.length * 5 + 4, none⟩ (.int .i64 t)) p D { s with top := ⟨s.top.n, s.top.b, t⟩ } A := by
  obtain ⟨n1, n2, n3⟩ := h.ne
  have hw := ownsN_set h.way (s.up.length * 5 + 4) (.int .i64 t)
  rw [wayRow_tried] at hw
  exact ⟨h.mach.setOther n1.symm _, h.tree.setOther (q := ⟨A.way, s.up.length * 5 + 4, none⟩) n3 _, hw, h.ne, by simpa using h.glt⟩
theorem FdIn.cell {w : World} {p : Pb} {D : Int} {s : Fm} {A : DA} (h : FdIn w p D s A) {j : Nat} {u : Value} (hj : (wayRow s.top s.up)[j]? = some u) : w.cell? ⟨A.way, j, none⟩ = some u := ownsN_cell h.way hj
theorem FdIn.frz {w : World} {p : Pb} {D : Int} {s : Fm} {A : DA} (h : FdIn w p D s A) (j : Nat) : w.frozen? ⟨A.way, j, none⟩ = false := h.way.frozenAt j
theorem FdIn.top {w : World} {p : Pb} {D : Int} {s : Fm} {A : DA} (h : FdIn w p D s A) : loadAgg w A.way (s.up.length * 5) 3 = .ok (.agg s.top.n.cells) w ∧ w.cell? ⟨A.way, s.up.length * 5 + 2, none⟩ = some (.int .i64 s.top.n.m) ∧ w.cell? ⟨A.way, s.up.length * 5 + 1, none⟩ = some (.int .i64 s.top.n.d) ∧ w.cell? ⟨A.way, s.up.length * 5 + 4, none⟩ = some (.int .i64 s.top.t) :=
  ⟨ownsN_load3 h.way (wayRow_top _ _ (j := 0) (by decide)) (wayRow_top _ _ (j := 1) (by decide)) (wayRow_top _ _ (j := 2) (by decide)), h.cell (wayRow_top _ _ (j := 2) (by decide)), h.cell (wayRow_top _ _ (j := 1) (by decide)), h.cell (wayRow_top _ _ (j := 4) (by decide))⟩
theorem FdIn.par {w : World} {p : Pb} {D : Int} {s : Fm} {A : DA} {y : Spot} {ys : List Spot} (h : FdIn w p D s A) (hu : s.up = y :: ys) : w.cell? ⟨A.way, ys.length * 5 + 2, none⟩ = some (.int .i64 y.n.m) := by
  refine h.cell ?_
  rw [hu]
  exact wayRow_up _ _ _ (j := 2) (by decide)
theorem FdIn.push {w w' : World} {p : Pb} {D : Int} {s : Fm} {A : DA} {z : Spot} {v' : Value} (h : FdIn w p D s A) (hO : w'.ownsRow 0 110 5 v' (s.up.length + 1 + 1) (wayRow s.top s.up ++ z.row))
    (hg : (∃ g c, Value.slice (some ⟨A.way, 0, none⟩) (s.up.length + 1) A.cap = .slice (some ⟨g, 0, none⟩) (s.up.length + 1) c ∧ v' = .slice (some ⟨g, 0, none⟩) (s.up.length + 1 + 1) c ∧ w.grownBy w' (some g)) ∨ (v'.ownBlock = some w.heap.size ∧ w.grownBy w' none)) :
    ∃ g c, v' = .slice (some ⟨g, 0, none⟩) (s.up.length + 1 + 1) c ∧ FdIn (w'.setCell ⟨A.mb, 2, none⟩ v') p D { s with top := z, up := s.top :: s.up } { A with way := g, cap := c } ∧ (g = A.way ∨ w.heap.size ≤ g) ∧ Turn A.wr w (w'.setCell ⟨A.mb, 2, none⟩ v') ∧ Box w' A.mb (fdCells D s A) := by
  have key : ∃ g c, v' = .slice (some ⟨g, 0, none⟩) (s.up.length + 1 + 1) c ∧ (g = A.way ∨ w.heap.size ≤ g) ∧ w.heap.size ≤ w'.heap.size ∧ w'.os = w.os ∧ w'.tape = w.tape ∧ w'.output = w.output ∧ ∀ k, k < w.heap.size → k ≠ A.way → w'.heap[k]? = w.heap[k]? := by
    rcases hg with ⟨g, c, e1, e2, hg⟩ | ⟨e1, hg⟩
    · obtain ⟨rfl, rfl⟩ : A.way = g ∧ A.cap = c := by simpa using e1
      exact ⟨_, _, e2, .inl rfl, hg.size, hg.os, hg.tape, hg.output, fun k hk hn => hg.block k hk (fun e => hn (Option.some.inj e))⟩
    · rcases hO.2 with ⟨_, h0⟩ | ⟨g, c, cur, e2, _⟩
      · omega
      · refine ⟨g, c, e2, .inr ?_, hg.size, hg.os, hg.tape, hg.output, fun k hk hn => hg.block k hk (by simp)⟩
        rw [e2] at e1
        have : g = w.heap.size := by simpa [Value.ownBlock] using e1
        omega
  obtain ⟨g, c, rfl, hgw, hsz, ho, ht, hou, hblk⟩ := key
  obtain ⟨n1, n2, n3⟩ := h.ne
  have hlt := fun k (hk : A.has k) => h.lt hk
  have hm : Box w' A.mb (fdCells D s A) := h.mach.imp fun _ e => (hblk _ h.mach.lt n1).trans e
  have hne : ∀ k, A.has k → k ≠ A.way → k ≠ g := fun k hk hn e => by
    have := hlt k hk
    rcases hgw with h1 | h1
    · exact hn (e.trans h1)
    · omega
  have hT := h.tree.same (w' := w') fun k hk => hblk k (hlt k (by unfold DA.has; rcases hk with h | h <;> simp [h])) (by rcases hk with rfl | rfl; exact Ne.symm n3.1; exact Ne.symm n3.2)
  have a1 : g ≠ A.mb := Ne.symm (hne _ (.inl rfl) n1)
  have hO' := hO
  rw [wayRow_push] at hO'
  refine ⟨g, c, rfl, ⟨?_, hT.setOther (q := ⟨A.mb, 2, none⟩) n2 _, ownsN_block hO' fun k hk => Below.heap_setCell _ _ _ _ (by rw [← Option.some.inj hk]; exact a1), ⟨Ne.symm a1, n2, ?_⟩, by have := h.glt; simp; omega⟩, hgw, ?_, hm⟩
  · exact hm.setCell (i := 2) (.slice (some ⟨g, 0, none⟩) (s.up.length + 1 + 1) c)
  · exact ⟨Ne.symm (hne _ (by simp [DA.has]) (Ne.symm n3.1)), Ne.symm (hne _ (by simp [DA.has]) (Ne.symm n3.2))⟩
  · refine Turn.set ⟨ho, ht, hou, hsz, fun k hk hn => hblk k hk fun e => hn (.inr e)⟩ (.inl rfl) _
set_option maxRecDepth 5000 in
theorem fd_here (p : Pb) (D : Int) (s : Fm) (hl : s.up.length ≤ 1056) (A : DA) (w : World) (h : FdIn w p D s A) : Pure Try.prog 58 #[.pointer (some ⟨A.mb, 0, none⟩)] w (.pointer (some ⟨A.way, s.up.length * 5, none⟩)) := by
  have hc := h.at_.c2
  have hix : wrap64 (((s.up.length + 1 : Nat) : Int) - 1) = (s.up.length : Int) := by unfold wrap64; omega
  go_enter Try.func58, Try.ntmps58
  go_wp2
  (refine wp_region_kept_tail 11 (by kernel_rfl) (by kernel_rfl) ?_; simp only [List.take_succ_cons, List.take_zero, List.drop_succ_cons, List.drop_zero])
  have q := KeptW.cell hc
  repeat first
    | go_big_quiet_step (fail)
  refine wpQuiet_nil ?_
  intro w1 B1
  go_wp2
  go_ret
  exact ⟨rfl, B1⟩
theorem results_aggTmp2 {P : Program} {fn : Func} {t t1 t2 ty n b : Nat} {tmps : Array Value} {w : World} {v v1 v2 : Value} [T : AggTy P ty n] (h : fn.results = #[.cell t ty, .tmp t1, .tmp t2]) (h1' : tmps.getD t1 undef = v1) (h2' : tmps.getD t2 undef = v2) (hp : tmps.getD t undef = .pointer (some ⟨b, 0, none⟩)) (hl : loadAgg w b 0 n = .ok v w) :
    (results fn tmps).run P w = .ok (.tuple #[v, v1, v2]) w := by
  obtain ⟨d, h1, h2, h3⟩ := T.out
  have := run_loadVar_agg (P := P) (w := w) (b := b) (off := 0) h1 h2 h3 (by rw [hl]; rfl)
  simp only [Array.getD_eq_getD_getElem?] at hp h1' h2'
  simp [results, h, hp, h1', h2', asAddr, Sem.run_bind, this, hl]
theorem build_node0 (w : World) : (Instr.build 80 #[]).run Try.prog w = .ok (.agg (Nd.mk 0 0 0).cells) w := by
  go_simp
  try rfl
def Pb.kidV (p : Pb) (x : Spot) : Value := if x.t < (p.kids x.n).length then .tuple #[.agg (p.kidAt x).n.cells, .int .u8 (p.kidAt x).b, .bool true] else .tuple #[.agg (Nd.mk 0 0 0).cells, .int .u8 0, .bool false]
set_option maxRecDepth 5000 in
theorem fd_kid (p : Pb) (hp : p.Ok) (hc : probChk p = 0) (D : Int) (s : Fm) (hl : s.up.length ≤ 1056) (hin : p.In s.top.n) (ht : s.top.t ≤ (p.kids s.top.n).length) (A : DA) (w : World) (h : FdIn w p D s A) : Pure Try.prog 78 #[.pointer (some ⟨A.mb, 0, none⟩)] w (p.kidV s.top) := by
  have hkl := p.kids_pos s.top.n
  go_enter Try.func78, Try.ntmps78
  go_upto_region 1 with fail
  refine name1 ?_
  intro w0 b2 B0
  have h0 := h.kept B0
  obtain ⟨J, hJ⟩ : ∃ J, J = s.up.length := ⟨_, rfl⟩
  have hhere : ∀ W, FdIn W p D s A → Pure Try.prog 58 #[.pointer (some ⟨A.mb, 0, none⟩)] W (.pointer (some ⟨A.way, J * 5, none⟩)) := fun W hW => hJ ▸ fd_here p D s hl A W hW
  have HJ := Lib.hid hJ
  clear hJ
  have c0 := h0.at_.c0
  have gx : loadAgg w0 A.way (J * 5) 3 = .ok (.agg s.top.n.cells) w0 := HJ.out ▸ h0.top.1
  (refine wp_region_call 9 (by kernel_rfl) (by kernel_rfl) rfl rfl (by kernel_rfl) rfl ?_; simp only [List.take_succ_cons, List.take_zero])
  have q0 := KeptW.cell c0
  repeat first
    | ((refine det_plain rfl ?_); ((with_reducible apply q_ld); rfl; (with_reducible assumption); (simp only [List.set_cons_zero, List.set_cons_succ]; rfl)); (refine wpQuiet_nil ?_))
    | ((with_reducible apply det_nilG); rfl; rfl; (simp only [List.set_cons_zero, List.set_cons_succ]; rfl))
    | ((with_reducible apply det_call); rfl; infer_instance; rfl; (intro W hB; exact hhere W (h0.kept hB)); (simp only [List.set_cons_zero, List.set_cons_succ]; rfl))
    | ((refine det_plain rfl ?_); (go_big_quiet_step (fail)); (refine wpQuiet_nil ?_))
  refine wpDet_nil ?_
  refine fr_call (fun v w' => ∃ nb bb, v = .tuple #[.slice (some ⟨nb, 0, none⟩) (p.kids s.top.n).length (p.kids s.top.n).length, .slice (some ⟨bb, 0, none⟩) (p.kidBits s.top.n).length (p.kidBits s.top.n).length] ∧ Box w' nb (ndCells (p.kids s.top.n)) ∧ Box w' bb (u8s (p.kidBits s.top.n)).toArray ∧ w0.heap.size ≤ bb) rfl inferInstance rfl ?_ ?_ ?_
  · exact fun v x y hx ⟨nb, bb, e1, e2, e3, e4⟩ => ⟨nb, bb, e1, e2.kept hx, e3.kept hx, e4⟩
  · intro w2 B2
    refine (doc_Kids p hp hc s.top.n hin _ (h0.kept B2).tree).mono ?_
    rintro e w3 ⟨⟨nb, bb, rfl, x1, x2, x3, x4, x5⟩, B3⟩
    exact ⟨⟨_, rfl, nb, bb, rfl, x1, x2, Nat.le_trans B2.size x5⟩, B3⟩
  rintro v ⟨_, _, nb, bb, rfl, _, _, hbb⟩
  simp only [List.set_cons_zero, List.set_cons_succ]
  repeat first
    | ((refine det_plain rfl ?_); (go_big_quiet_step (fail)); (refine wpQuiet_nil ?_))
  refine wpDet_nil ?_
  rintro w3 B3 ⟨_, nb', bb', hv, x1, x2, _⟩
  obtain ⟨rfl, rfl⟩ : nb = nb' ∧ bb = bb' := by simpa using hv
  have h3 := h0.kept B3
  have b23 := b2.kept B3
  have B30 := bOn B0 B3
  have hb2l := b2.lt
  clear q0 gx c0 h0 B3 h hv b2
  go_wp2_with fail
  refine (hhere _ h3).mono ?_
  rintro e w4 ⟨rfl, B4⟩
  have h4 := h3.kept B4
  have b24 := b23.kept B4
  have B40 := bOn B30 B4
  have x14 := x1.kept B4
  have x24 := x2.kept B4
  have t4 : w4.cell? ⟨A.way, J * 5 + 4, none⟩ = some (.int .i64 s.top.t) := HJ.out ▸ h4.top.2.2.2
  clear hhere h3 b23 x1 x2 B4
  have flatN : ∀ n : Nd, Flat n.cells := fun n => nodeCells_flat n.s n.d n.m
  by_cases hlt : s.top.t < (p.kids s.top.n).length
  · obtain ⟨g1, g2⟩ := Pb.kidAt_get hlt
    obtain ⟨K, hK⟩ : ∃ K, K = (p.kids s.top.n).length - (s.top.t + 1) := ⟨_, rfl⟩
    have hKl : K < (p.kids s.top.n).length := by omega
    have hKb : K < (p.kidBits s.top.n).length := by rw [p.kbits_len]; exact hKl
    rw [← hK] at g1 g2
    have hkix : ((p.kids s.top.n).length : Int) - 1 - (s.top.t : Int) = (K : Int) := by omega
    have gk := (nd_cell x14 g1).1
    have gb := bit_cell x24 g2
    have hV : p.kidV s.top = .tuple #[.agg (p.kidAt s.top).n.cells, .int .u8 (p.kidAt s.top).b, .bool true] := if_pos hlt
    have HV := Lib.hid hV
    clear hV hK
    go_upto_region 5 with fail
    clear hkix t4
    have hbne : bb ≠ w.heap.size := by omega
    (refine wp_region_tree (.pure 0 (.pure 1 (.pure 4 (.pure 5 (.pure 2 (.pure 6 (.two 3 (.two 7 (.one 8 (.one 9 (.one 10 .nil))) 8 (.one 7 (.one 9 (.one 10 .nil)))) 7 (.one 3 (.one 8 (.one 9 (.one 10 .nil))))))))))) (by kernel_rfl) (by kernel_rfl) ?_; simp only [List.getD_cons_zero, List.getD_cons_succ, wpOT])
    intro w5 B5
    have b25 := b24.kept B5
    have B50 := bOn B40 B5
    have gk5 := (nd_cell (x14.kept B5) g1).1
    have x25 := x24.kept B5
    have gb5 := bit_cell x25 g2
    clear gk gb b24 x14 x24 h4
    iterate 6
      refine ⟨_, fun w => by go_simp; first | done | rfl, ?_⟩
      try simp only [put_list, List.set_cons_zero, List.set_cons_succ]
    refine ⟨?_, ?_⟩
    · go_wp2_with ((with_reducible apply ld); rfl; (with_reducible assumption); (simp only [List.set_cons_zero, List.set_cons_succ]; rfl))
      refine ⟨?_, ?_⟩
      · go_wp2_with (first | ((with_reducible apply ld); rfl; (with_reducible assumption); (simp only [List.set_cons_zero, List.set_cons_succ]; rfl)) | ((with_reducible apply stO); rfl; rfl; exact b25; rfl; rfl; exact flatN _; intro w6 b6 B6 ho6 hs6; have x26 : Box w6 bb (u8s (p.kidBits s.top.n)).toArray := x25.imp fun _ e => (ho6 bb hbne).trans e; have gb6 := bit_cell x26 g2))
        refine bodyPost_ret (results_aggTmp2 rfl rfl rfl rfl (b6.load (off := 0) (n := 3) (cs' := (p.kidAt s.top).n.cells) (Nat.le_refl _) (Array.extract_eq_self_of_le (Nat.le_refl _)))) rfl ?_
        rw [HV.out]
        exact ⟨rfl, B50.trans B6⟩
      · go_wp2_with (first | ((with_reducible apply ld); rfl; (with_reducible assumption); (simp only [List.set_cons_zero, List.set_cons_succ]; rfl)) | ((with_reducible apply stO); rfl; rfl; exact b25; rfl; rfl; exact flatN _; intro w6 b6 B6 ho6 hs6; have x26 : Box w6 bb (u8s (p.kidBits s.top.n)).toArray := x25.imp fun _ e => (ho6 bb hbne).trans e; have gb6 := bit_cell x26 g2))
        refine bodyPost_ret (results_aggTmp2 rfl rfl rfl rfl (b6.load (off := 0) (n := 3) (cs' := (p.kidAt s.top).n.cells) (Nat.le_refl _) (Array.extract_eq_self_of_le (Nat.le_refl _)))) rfl ?_
        rw [HV.out]
        exact ⟨rfl, B50.trans B6⟩
    · go_wp2_with (first | ((with_reducible apply ld); rfl; (with_reducible assumption); (simp only [List.set_cons_zero, List.set_cons_succ]; rfl)) | ((with_reducible apply stO); rfl; rfl; exact b25; rfl; rfl; exact flatN _; intro w6 b6 B6 ho6 hs6; have x26 : Box w6 bb (u8s (p.kidBits s.top.n)).toArray := x25.imp fun _ e => (ho6 bb hbne).trans e; have gb6 := bit_cell x26 g2))
      refine bodyPost_ret (results_aggTmp2 rfl rfl rfl rfl (b6.load (off := 0) (n := 3) (cs' := (p.kidAt s.top).n.cells) (Nat.le_refl _) (Array.extract_eq_self_of_le (Nat.le_refl _)))) rfl ?_
      rw [HV.out]
      exact ⟨rfl, B50.trans B6⟩
  · have hV : p.kidV s.top = .tuple #[.agg (Nd.mk 0 0 0).cells, .int .u8 0, .bool false] := if_neg hlt
    have HV := Lib.hid hV
    have hkix : ((p.kids s.top.n).length : Int) - 1 - (s.top.t : Int) = -1 := by omega
    clear hV
    go_wp2_with (first | ((with_reducible apply w_build (d := 32) (cs := (Nd.mk 0 0 0).cells)); ((simp only [List.map_toArray, List.map_cons, List.map_nil]); exact build_node0 _)) | ((with_reducible apply stO); rfl; rfl; exact b24; rfl; rfl; exact flatN _; intro w6 b6 B6 ho6 hs6))
    refine bodyPost_ret (results_aggTmp2 rfl rfl rfl rfl (b6.load (off := 0) (n := 3) (cs' := (Nd.mk 0 0 0).cells) (Nat.le_refl _) (Array.extract_eq_self_of_le (Nat.le_refl _)))) rfl ?_
    rw [HV.out]
    exact ⟨rfl, B40.trans B6⟩
end Go.Proofs.Ytkjnmjilkhigaaa

/- Fano's machine, the document's: fall and look. -/
namespace Go.Proofs.Ytkjnmjilkhigaaa
open Go.RowKit

def dLen (w : World) (mb : Nat) : Nat := match w.cell? ⟨mb, 2, none⟩ with
  | some (.slice _ n _) => n
  | _ => 0
theorem FdIn.dLen {w : World} {p : Pb} {D : Int} {s : Fm} {A : DA} (h : FdIn w p D s A) : dLen w A.mb = s.up.length + 1 := by unfold Proofs.Ytkjnmjilkhigaaa.dLen; rw [h.at_.c2]
def FallPost (p : Pb) (D : Int) (s' : Fm) (A : DA) (w : World) (e : Ending) (w' : World) : Prop := e = .returned (.tuple #[]) ∧ FdIn w' p D s' A ∧ Turn A.wr w w'
set_option maxRecDepth 5000 in
theorem fd_fall (p : Pb) (hp : p.Ok) (hc : probChk p = 0) (D : Int) (hD : 1 ≤ D) (hD2 : D ≤ 65536) (s : Fm) (hb1 : -13100000 ≤ s.thr) (hb2 : s.thr ≤ 13100000) (hw : p.WayOk s.top s.up) (A : DA) (w : World) (h : FdIn w p D s A) :
    Calls Try.prog 79 #[.pointer (some ⟨A.mb, 0, none⟩)] w (FallPost p D (p.fall D s) A w) := by
  go_enter Try.func79, Try.ntmps79
  go_wp2_with fail
  go_loopw [2] (fun _ wr => ∃ x ys, p.fallL s.thr s.top s.up = p.fallL s.thr x ys ∧ p.WayOk x ys ∧ FdIn wr p D { s with top := x, up := ys } A ∧ Turn A.wr w wr) (fun _ wr => dLen wr A.mb)
  case atStart => exact ⟨s.top, s.up, rfl, hw, h, Turn.refl _ _⟩
  case round =>
    obtain ⟨x, ys, hf, hwx, hR, TR⟩ := hrel
    clear h
    have HF := Lib.hid hf; clear hf
    have hJ1 : ys.length ≤ 1055 := by have := (hwx.facts hc).2.1; have := Pb.N_le hc; omega
    obtain ⟨J, hJ⟩ : ∃ J, J = ys.length := ⟨_, rfl⟩
    have hhere : ∀ w' x, FdIn w' p D { s with top := x, up := ys, thr := s.thr - D, low := min s.low (s.thr - D) } A → Pure Try.prog 58 #[.pointer (some ⟨A.mb, 0, none⟩)] w' (.pointer (some ⟨A.way, J * 5, none⟩)) := fun w' x h => hJ ▸ fd_here p D _ (show ys.length ≤ 1056 by omega) A w' h
    have HJ := Lib.hid hJ
    clear hJ
    have HLR := Lib.hid hR.dLen
    have hat := hR.at_
    have c2 : wr.cell? ⟨A.mb, 2, none⟩ = some (.slice (some ⟨A.way, 0, none⟩) (J + 1) A.cap) := HJ.out ▸ hat.c2
    have c3 : wr.cell? ⟨A.mb, 3, none⟩ = some (.int .i64 s.thr) := hat.c3
    clear hat
    go_upto_region 0 with fail
    rcases ys with _ | ⟨y, zs⟩
    · have e1 : ((J : Int) + 1 == 1) = true := by have h := HJ.out; simp at h; simp [h]
      have HX : Hid (p.fallL s.thr x [] = (true, ⟨x.n, x.b, 0⟩, [])) := Lib.hid rfl
      refine wp_region_kept (by kernel_rfl) (by kernel_rfl) ?_
      have q2 := KeptW.cell c2
      repeat first
        | go_big_quiet_skip
        | go_big_quiet_step (fail)
      refine wpQuiet_nil ?_
      intro w4 B4
      have h4 := hR.kept B4
      have T4 := TR.on B4
      clear q2 c2 c3 B4 hR TR e1
      go_upto_region 1 with fail
      have a4 := h4.at_
      have c3 : w4.cell? ⟨A.mb, 3, none⟩ = some (.int .i64 s.thr) := a4.c3
      have c1 := a4.c1
      clear a4
      (refine wp_region_kept_tail 12 (by kernel_rfl) (by kernel_rfl) ?_; simp only [List.take_succ_cons, List.take_zero, List.drop_succ_cons, List.drop_zero])
      have q3 := KeptW.cell c3
      have q1 := KeptW.cell c1
      repeat first
        | go_big_quiet_step (fail)
      refine wpQuiet_nil ?_
      intro w5 B5
      have h5 := h4.kept B5
      have T5 := T4.on B5
      have f5 := h5.at_.fz 3
      have g5 : w5.cell? ⟨A.mb, 3, none⟩ = some (.int .i64 s.thr) := h5.at_.c3
      have h6 : FdIn (w5.setCell ⟨A.mb, 3, none⟩ (.int .i64 (s.thr - D))) p D { s with top := x, up := [], thr := s.thr - D } A := h5.thr (s.thr - D)
      have T6 := T5.set (q := ⟨A.mb, 3, none⟩) (.inl rfl) (.int .i64 (s.thr - D))
      clear q3 q1 c3 c1 h4 T4 B5 h5 T5
      go_upto_region 2 with fail
      refine nameAny (fun W => FdIn W p D { s with top := x, up := [], thr := s.thr - D } A ∧ Turn A.wr w W) ⟨h6, T6⟩ ?_
      clear f5 g5 h6 T6
      rintro w6 ⟨h6, T6⟩
      have c3 : w6.cell? ⟨A.mb, 3, none⟩ = some (.int .i64 (s.thr - D)) := h6.at_.c3
      have c4 : w6.cell? ⟨A.mb, 4, none⟩ = some (.int .i64 s.low) := h6.at_.c4
      refine wp_region_kept (by kernel_rfl) (by kernel_rfl) ?_
      have q3 := KeptW.cell c3
      have q4 := KeptW.cell c4
      repeat first
        | go_big_quiet_step (fail)
      refine wpQuiet_nil ?_
      intro w7 B7
      have h7 := h6.kept B7
      have T7 := T6.on B7
      clear q3 q4 c3 c4 h6 T6 B7
      by_cases hl : s.thr - D < s.low
      · have hd : decide (s.thr - D < s.low) = true := by simpa using hl
        have hm : min s.low (s.thr - D) = s.thr - D := Int.min_eq_right (by omega)
        have HM := Lib.hid hm
        clear hm
        have c3 : w7.cell? ⟨A.mb, 3, none⟩ = some (.int .i64 (s.thr - D)) := h7.at_.c3
        have c4 : w7.cell? ⟨A.mb, 4, none⟩ = some (.int .i64 s.low) := h7.at_.c4
        have f4 := h7.at_.fz 4
        have h8' : FdIn (w7.setCell ⟨A.mb, 4, none⟩ (.int .i64 (s.thr - D))) p D { s with top := x, up := [], thr := s.thr - D, low := min s.low (s.thr - D) } A := by rw [HM.out]; exact h7.low (s.thr - D)
        have T8' := T7.set (q := ⟨A.mb, 4, none⟩) (.inl rfl) (.int .i64 (s.thr - D))
        clear h7 T7
        go_upto_region 4 with fail
        refine nameAny (fun W => FdIn W p D { s with top := x, up := [], thr := s.thr - D, low := min s.low (s.thr - D) } A ∧ Turn A.wr w W) ⟨h8', T8'⟩ ?_
        clear c3 c4 f4 h8' T8' hd hl
        rintro w8 ⟨h8, T8⟩
        have hh := hhere _ x h8
        go_wp2_with fail
        refine hh.mono ?_
        rintro e w9 ⟨rfl, B9⟩
        have h9 := h8.kept B9
        have T9 := T8.on B9
        have t4 : w9.cell? ⟨A.way, J * 5 + 4, none⟩ = some (.int .i64 x.t) := HJ.out ▸ h9.top.2.2.2
        have tz := h9.frz (J * 5 + 4)
        have h10 : FdIn (w9.setCell ⟨A.way, J * 5 + 4, none⟩ (.int .i64 0)) p D { s with top := ⟨x.n, x.b, 0⟩, up := [], thr := s.thr - D, low := min s.low (s.thr - D) } A := HJ.out ▸ h9.tried 0
        have T10 := T9.set (q := ⟨A.way, J * 5 + 4, none⟩) (.inr rfl) (.int .i64 0)
        clear h8 T8 h9 T9 B9 hh
        go_wp2_with fail
        refine bodyPost_end (results_nil rfl) rfl ?_
        refine (show FallPost _ _ _ _ _ _ _ from ⟨rfl, ?_, T10⟩)
        unfold Pb.fall
        rw [HF.out, HX.out]
        exact h10
      · have hd : decide (s.thr - D < s.low) = false := by simpa using hl
        have h8 : FdIn w7 p D { s with top := x, up := [], thr := s.thr - D, low := min s.low (s.thr - D) } A := by
          rw [Int.min_eq_left (by omega)]
          exact h7
        have T8 := T7
        clear h7 T7
        have hh := hhere _ x h8
        go_wp2_with fail
        refine hh.mono ?_
        rintro e w9 ⟨rfl, B9⟩
        have h9 := h8.kept B9
        have T9 := T8.on B9
        have t4 : w9.cell? ⟨A.way, J * 5 + 4, none⟩ = some (.int .i64 x.t) := HJ.out ▸ h9.top.2.2.2
        have tz := h9.frz (J * 5 + 4)
        have h10 : FdIn (w9.setCell ⟨A.way, J * 5 + 4, none⟩ (.int .i64 0)) p D { s with top := ⟨x.n, x.b, 0⟩, up := [], thr := s.thr - D, low := min s.low (s.thr - D) } A := HJ.out ▸ h9.tried 0
        have T10 := T9.set (q := ⟨A.way, J * 5 + 4, none⟩) (.inr rfl) (.int .i64 0)
        clear h8 T8 h9 T9 B9 hh
        go_wp2_with fail
        refine bodyPost_end (results_nil rfl) rfl ?_
        refine (show FallPost _ _ _ _ _ _ _ from ⟨rfl, ?_, T10⟩)
        unfold Pb.fall
        rw [HF.out, HX.out]
        exact h10
    · have hpar : wr.cell? ⟨A.way, zs.length * 5 + 2, none⟩ = some (.int .i64 y.n.m) := hR.par rfl
      have hz1 : zs.length + 1 ≤ 1055 := hJ1
      have hJz : J = zs.length + 1 := HJ.out
      have HJ2 : Hid (J = (y :: zs).length) := HJ
      have hix : wrap64 ((J : Int) + 1 - 2) = (zs.length : Int) := by unfold wrap64; omega
      have e1 : ((J : Int) + 1 == 1) = false := by rw [hJz]; simp; omega
      have hJ2 : zs.length < J + 1 := by omega
      have hmx := hwx.2.2.2.2.2.bd hc
      have hyin := hwx.2.2.2.2.2.in_ hc hwx.2.2.2.2.1
      have hyt := hwx.2.1
      by_cases hlt : y.n.m < s.thr
      · have hd : decide (y.n.m < s.thr) = true := by simpa using hlt
        have HX : Hid (p.fallL s.thr x (y :: zs) = (true, ⟨x.n, x.b, 0⟩, y :: zs)) := Lib.hid (if_pos hlt)
        clear hJz
        refine wp_region_kept (by kernel_rfl) (by kernel_rfl) ?_
        have q2 := KeptW.cell c2
        have q3 := KeptW.cell c3
        have qp := KeptW.cell hpar
        repeat first
          | go_big_quiet_skip
          | go_big_quiet_step (fail)
        refine wpQuiet_nil ?_
        intro w4 B4
        have h4 := hR.kept B4
        have T4 := TR.on B4
        clear q2 q3 qp c2 c3 B4 hR TR hd hpar e1 hix
        go_upto_region 1 with fail
        have a4 := h4.at_
        have c3 : w4.cell? ⟨A.mb, 3, none⟩ = some (.int .i64 s.thr) := a4.c3
        have c1 := a4.c1
        clear a4
        (refine wp_region_kept_tail 12 (by kernel_rfl) (by kernel_rfl) ?_; simp only [List.take_succ_cons, List.take_zero, List.drop_succ_cons, List.drop_zero])
        have q3 := KeptW.cell c3
        have q1 := KeptW.cell c1
        repeat first
          | go_big_quiet_step (fail)
        refine wpQuiet_nil ?_
        intro w5 B5
        have h5 := h4.kept B5
        have T5 := T4.on B5
        have f5 := h5.at_.fz 3
        have g5 : w5.cell? ⟨A.mb, 3, none⟩ = some (.int .i64 s.thr) := h5.at_.c3
        have h6 : FdIn (w5.setCell ⟨A.mb, 3, none⟩ (.int .i64 (s.thr - D))) p D { s with top := x, up := y :: zs, thr := s.thr - D } A := h5.thr (s.thr - D)
        have T6 := T5.set (q := ⟨A.mb, 3, none⟩) (.inl rfl) (.int .i64 (s.thr - D))
        clear q3 q1 c3 c1 h4 T4 B5 h5 T5
        go_upto_region 2 with fail
        refine nameAny (fun W => FdIn W p D { s with top := x, up := y :: zs, thr := s.thr - D } A ∧ Turn A.wr w W) ⟨h6, T6⟩ ?_
        clear f5 g5 h6 T6
        rintro w6 ⟨h6, T6⟩
        have c3 : w6.cell? ⟨A.mb, 3, none⟩ = some (.int .i64 (s.thr - D)) := h6.at_.c3
        have c4 : w6.cell? ⟨A.mb, 4, none⟩ = some (.int .i64 s.low) := h6.at_.c4
        refine wp_region_kept (by kernel_rfl) (by kernel_rfl) ?_
        have q3 := KeptW.cell c3
        have q4 := KeptW.cell c4
        repeat first
          | go_big_quiet_step (fail)
        refine wpQuiet_nil ?_
        intro w7 B7
        have h7 := h6.kept B7
        have T7 := T6.on B7
        clear q3 q4 c3 c4 h6 T6 B7
        by_cases hl : s.thr - D < s.low
        · have hd : decide (s.thr - D < s.low) = true := by simpa using hl
          have hm : min s.low (s.thr - D) = s.thr - D := Int.min_eq_right (by omega)
          have HM := Lib.hid hm
          clear hm
          have c3 : w7.cell? ⟨A.mb, 3, none⟩ = some (.int .i64 (s.thr - D)) := h7.at_.c3
          have c4 : w7.cell? ⟨A.mb, 4, none⟩ = some (.int .i64 s.low) := h7.at_.c4
          have f4 := h7.at_.fz 4
          have h8' : FdIn (w7.setCell ⟨A.mb, 4, none⟩ (.int .i64 (s.thr - D))) p D { s with top := x, up := y :: zs, thr := s.thr - D, low := min s.low (s.thr - D) } A := by rw [HM.out]; exact h7.low (s.thr - D)
          have T8' := T7.set (q := ⟨A.mb, 4, none⟩) (.inl rfl) (.int .i64 (s.thr - D))
          clear h7 T7
          go_upto_region 4 with fail
          refine nameAny (fun W => FdIn W p D { s with top := x, up := y :: zs, thr := s.thr - D, low := min s.low (s.thr - D) } A ∧ Turn A.wr w W) ⟨h8', T8'⟩ ?_
          clear c3 c4 f4 h8' T8' hd hl
          rintro w8 ⟨h8, T8⟩
          have hh := hhere _ x h8
          go_wp2_with fail
          refine hh.mono ?_
          rintro e w9 ⟨rfl, B9⟩
          have h9 := h8.kept B9
          have T9 := T8.on B9
          have t4 : w9.cell? ⟨A.way, J * 5 + 4, none⟩ = some (.int .i64 x.t) := HJ.out ▸ h9.top.2.2.2
          have tz := h9.frz (J * 5 + 4)
          have h10 : FdIn (w9.setCell ⟨A.way, J * 5 + 4, none⟩ (.int .i64 0)) p D { s with top := ⟨x.n, x.b, 0⟩, up := y :: zs, thr := s.thr - D, low := min s.low (s.thr - D) } A := HJ.out ▸ h9.tried 0
          have T10 := T9.set (q := ⟨A.way, J * 5 + 4, none⟩) (.inr rfl) (.int .i64 0)
          clear h8 T8 h9 T9 B9 hh
          go_wp2_with fail
          refine bodyPost_end (results_nil rfl) rfl ?_
          refine (show FallPost _ _ _ _ _ _ _ from ⟨rfl, ?_, T10⟩)
          unfold Pb.fall
          rw [HF.out, HX.out]
          exact h10
        · have hd : decide (s.thr - D < s.low) = false := by simpa using hl
          have h8 : FdIn w7 p D { s with top := x, up := y :: zs, thr := s.thr - D, low := min s.low (s.thr - D) } A := by
            rw [Int.min_eq_left (by omega)]
            exact h7
          have T8 := T7
          clear h7 T7
          have hh := hhere _ x h8
          go_wp2_with fail
          refine hh.mono ?_
          rintro e w9 ⟨rfl, B9⟩
          have h9 := h8.kept B9
          have T9 := T8.on B9
          have t4 : w9.cell? ⟨A.way, J * 5 + 4, none⟩ = some (.int .i64 x.t) := HJ.out ▸ h9.top.2.2.2
          have tz := h9.frz (J * 5 + 4)
          have h10 : FdIn (w9.setCell ⟨A.way, J * 5 + 4, none⟩ (.int .i64 0)) p D { s with top := ⟨x.n, x.b, 0⟩, up := y :: zs, thr := s.thr - D, low := min s.low (s.thr - D) } A := HJ.out ▸ h9.tried 0
          have T10 := T9.set (q := ⟨A.way, J * 5 + 4, none⟩) (.inr rfl) (.int .i64 0)
          clear h8 T8 h9 T9 B9 hh
          go_wp2_with fail
          refine bodyPost_end (results_nil rfl) rfl ?_
          refine (show FallPost _ _ _ _ _ _ _ from ⟨rfl, ?_, T10⟩)
          unfold Pb.fall
          rw [HF.out, HX.out]
          exact h10
      · have hd : decide (y.n.m < s.thr) = false := by simpa using hlt
        clear HJ
        have HJ := Lib.hid hJz
        clear hJz
        refine wp_region_kept (by kernel_rfl) (by kernel_rfl) ?_
        have q2 := KeptW.cell c2
        have q3 := KeptW.cell c3
        have qp := KeptW.cell hpar
        repeat first
          | go_big_quiet_skip
          | go_big_quiet_step (fail)
        refine wpQuiet_nil ?_
        intro w4 B4
        have h4 := hR.kept B4
        have T4 := TR.on B4
        clear q2 q3 qp c2 c3 B4 hR TR hd hpar e1 hix hhere
        go_upto_region 5 with fail
        have hjc : J ≤ A.cap := by have := ownsN_cap h4.way; have e : ((y :: zs).length + 1) ≤ A.cap := this; have := HJ.out; simp at e; omega
        have c2 : w4.cell? ⟨A.mb, 2, none⟩ = some (.slice (some ⟨A.way, 0, none⟩) (J + 1) A.cap) := HJ2.out ▸ h4.at_.c2
        have hixJ : wrap64 (J : Int) = (J : Int) := by have := HJ.out; unfold wrap64; omega
        (refine wp_region_kept_tail 14 (by kernel_rfl) (by kernel_rfl) ?_; simp only [List.take_succ_cons, List.take_zero, List.drop_succ_cons, List.drop_zero])
        have q2 := KeptW.cell c2
        repeat first
          | ((with_reducible apply q_slHi); rfl; (first | rfl | exact congrArg (Value.int .i64) hixJ); exact hjc; (simp only [List.set_cons_zero, List.set_cons_succ]; rfl))
          | go_big_quiet_step (fail)
        refine wpQuiet_nil ?_
        intro w5 B5
        have h5 := h4.kept B5
        have T5 := T4.on B5
        have f5 := h5.at_.fz 2
        have g5 := h5.at_.c2
        have h6 : FdIn (w5.setCell ⟨A.mb, 2, none⟩ (.slice (some ⟨A.way, 0, none⟩) J A.cap)) p D { s with top := y, up := zs } A := HJ.out ▸ h5.pop rfl
        have T6 := T5.set (q := ⟨A.mb, 2, none⟩) (.inl rfl) (.slice (some ⟨A.way, 0, none⟩) J A.cap)
        clear q2 c2 h4 T4 B5 h5 T5 hixJ
        go_upto_region 6 with fail
        refine nameAny (fun W => FdIn W p D { s with top := y, up := zs } A ∧ Turn A.wr w W) ⟨h6, T6⟩ ?_
        clear f5 g5 h6 T6
        rintro w6 ⟨h6, T6⟩
        have hkid := fd_kid p hp hc D { s with top := y, up := zs } (show zs.length ≤ 1056 by omega) hyin hyt A w6 h6
        have hkid : Pure Try.prog 78 #[.pointer (some ⟨A.mb, 0, none⟩)] w6 (p.kidV y) := hkid
        have flatN : ∀ n : Nd, Flat n.cells := fun n => nodeCells_flat n.s n.d n.m
        by_cases hl : y.t < (p.kids y.n).length
        · have hV : p.kidV y = .tuple #[.agg (p.kidAt y).n.cells, .int .u8 (p.kidAt y).b, .bool true] := if_pos hl
          rw [hV] at hkid
          have HX : Hid (p.fallL s.thr x (y :: zs) = (false, y, zs)) := Lib.hid (by show (if _ then _ else _) = _; rw [if_neg (show ¬ y.n.m < s.thr by omega), if_pos (by simpa [Pb.left] using hl)])
          clear hV
          go_wp2_with fail
          refine hkid.mono ?_
          rintro e w7 ⟨rfl, B7⟩
          have h7 := h6.kept B7
          have T7 := T6.on B7
          clear hkid h6 T6 B7
          have bn := Box.new w7 #[.int .u32 0, .int .i64 0, .int .i64 0] 80
          go_wp2_with ((with_reducible apply stO); rfl; rfl; exact bn; rfl; rfl; exact flatN _; intro w8 b8 B8 ho8 hs8)
          refine bodyPost_end (results_nil rfl) rfl ?_
          have B87 : Below w7.heap.size w7 w8 := ((Below.refl _ w7).alloc (Nat.le_refl _) _).trans B8
          refine (show FallPost _ _ _ _ _ _ _ from ⟨rfl, ?_, T7.on B87⟩)
          unfold Pb.fall
          rw [HF.out, HX.out]
          exact h7.kept B87
        · have hV : p.kidV y = .tuple #[.agg (Nd.mk 0 0 0).cells, .int .u8 0, .bool false] := if_neg hl
          rw [hV] at hkid
          have HX : Hid (p.fallL s.thr x (y :: zs) = p.fallL s.thr y zs) := Lib.hid (by show (if _ then _ else _) = _; rw [if_neg (show ¬ y.n.m < s.thr by omega), if_neg (by simpa [Pb.left] using hl)])
          clear hV
          go_wp2_with fail
          refine hkid.mono ?_
          rintro e w7 ⟨rfl, B7⟩
          have h7 := h6.kept B7
          have T7 := T6.on B7
          clear hkid h6 T6 B7
          have bn := Box.new w7 #[.int .u32 0, .int .i64 0, .int .i64 0] 80
          go_wp2_with ((with_reducible apply stO); rfl; rfl; exact bn; rfl; rfl; exact flatN _; intro w8 b8 B8 ho8 hs8)
          have B87 : Below w7.heap.size w7 w8 := ((Below.refl _ w7).alloc (Nat.le_refl _) _).trans B8
          have h8 := h7.kept B87
          have HL8 := Lib.hid h8.dLen
          go_roundw
          case measure => have := HL8.out; have := HLR.out; have := HJ.out; show dLen _ A.mb < dLen _ A.mb; simp at *; omega
          case rel => exact ⟨y, zs, HF.out.trans HX.out, hwx.2.2.2.2.2, h8, T7.on B87⟩
end Go.Proofs.Ytkjnmjilkhigaaa
