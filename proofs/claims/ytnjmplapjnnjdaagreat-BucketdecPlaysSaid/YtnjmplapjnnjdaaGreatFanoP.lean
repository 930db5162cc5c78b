import Derived.Test.YtnjmplapjnnjdaaGreatFanoL
import Derived.Defers
import Derived.Test.YtnjmplapjnnjdaaGreatLFloors
set_option linter.unusedSimpArgs false
set_option linter.unusedVariables false
set_option linter.unnecessarySimpa false
/- The search of layer 17: step. -/
namespace Go.Proofs.YtnjmplapjnnjdaaGreat
open Go.RowKit

theorem build_way (wb kb : Nat) (n : Nd) (dip : Int) (w : World) : (Instr.build 69 #[(0, .pointer (some ⟨wb, 0, none⟩)), (1, .int .u8 kb), (2, .agg n.cells), (3, .int .i64 dip)]).run Tryz.prog w = .ok (.agg #[.pointer (some ⟨wb, 0, none⟩), .int .u8 kb, .int .u32 n.s, .int .i64 n.d, .int .i64 n.m, .int .i64 dip]) w := by
  unfold Nd.cells nodeCells
  go_simp
  try rfl
theorem det_known {P : Program} {ops : Array Oper} {w0 : World} {o : Oper} {rest : List Oper} {l l' : List Value} {ds : List Deferred} {K : Act → Prop} {v : Value} {d : Nat} (hw : Region.wanted o (yielded ops l.toArray) = true) (hd : o.dst = some d)
    (hr : ∀ w, (execOp (Act.mk l.toArray ds).eval o).run P w = .ok (.value v) w) (hs : l.set d v = l') (hn : wpDet P ops w0 K rest ⟨l'.toArray, ds⟩) : wpDet P ops w0 K (o :: rest) ⟨l.toArray, ds⟩ := by
  unfold wpDet
  rw [if_pos hw]
  refine ⟨v, fun w _ => ?_, by rw [hd, put_list, hs]; exact hn⟩
  rw [hr]
  exact ⟨rfl, rfl⟩
/-- What a step leaves behind: the ways may be more. -/
def SeStep (p : Pb) (D : Int) (most : Nat) (s : Bq) (A : SA) (Wy : Nat → Prop) (wk : Int) (w : World) (e : Ending) (w' : World) : Prop :=
  ∃ b' m' ids' A' Wy', e = .returned (.tuple #[]) ∧ Se w' p D most s b' m' ids' A' Wy' ∧ SrNext A A' w w' ∧ (∀ k, Wy' k → Wy k ∨ (w.heap.size ≤ k ∧ k < w'.heap.size)) ∧ m'.work = wk
theorem Se.take {w w2 : World} {p : Pb} {D : Int} {most : Nat} {s : Bq} {b : Bk} {m : Sr} {ids : List Nat} {A A1 : SA} {Wy : Nat → Prop} (h : Se w p D most s b m ids A Wy) {x : Nat × Int} (hx : b.I[b.nextIx]? = some x)
    (hS : SrIn w2 p { b with I := b.I.eraseIdx b.nextIx } { m with ats := m.ats.set x.1 none, frees := m.frees ++ [x.1] } A1) (hN : SrNext A A1 w w2) :
    Se w2 p D most { s with L := s.L.eraseIdx (nextIx D s.L) } { b with I := b.I.eraseIdx b.nextIx } { m with ats := m.ats.set x.1 none, frees := m.frees ++ [x.1] } (ids.eraseIdx b.nextIx) A1 Wy := by
  obtain ⟨e, h1, h2, h3⟩ := h.rel.at_ hx
  have hR := h.rel.erase h2
  rw [h.rel.next] at hR ⊢
  rw [h.rel.next] at hS
  exact ⟨hS, h.rel.next ▸ h.bok.less b.nextIx, Nat.le_trans (List.length_eraseIdx_le ..) h.blen, h.lo, h.hi, hR.mono fun _ _ hx => hx.next h.wy hN, wy_next h.wy hN⟩
theorem SrNext.own {A A2 : SA} {w w3 w4 : World} (N : SrNext A A2 w w3) (T : Turn A2.own w3 w4) : SrNext A A2 w w4 := N.trans ⟨⟨rfl, rfl, rfl, rfl, rfl, rfl, rfl, rfl⟩, fun k hk => .inl hk, T⟩
theorem SrNext.below {A A2 : SA} {w w3 w4 : World} (N : SrNext A A2 w w3) (B : Below w3.heap.size w3 w4) : SrNext A A2 w w4 := ⟨N.1, fun k hk => (N.2.1 k hk).imp_right fun h => ⟨h.1, Nat.lt_of_lt_of_le h.2 B.size⟩, N.2.2.trans (Turn.ofBelow B)⟩
/-- There are more ways. -/
theorem Se.more {w : World} {p : Pb} {D : Int} {most : Nat} {s : Bq} {b : Bk} {m : Sr} {ids : List Nat} {A : SA} {Wy Wy' : Nat → Prop} (h : Se w p D most s b m ids A Wy) (h1 : ∀ k, Wy k → Wy' k) (h2 : ∀ k, Wy' k → Wy k ∨ (¬A.own k ∧ k < w.heap.size)) : Se w p D most s b m ids A Wy' :=
  ⟨h.sr, h.bok, h.blen, h.lo, h.hi, h.rel.mono fun _ _ hx => hx.same (fun _ _ _ => rfl) h1, fun k hk => (h2 k hk).elim (h.wy k) id⟩
theorem Pb.kidEnts_len (p : Pb) (x : Ent) : (p.kidEnts x).length = (p.kids x.n).length := by
  unfold Pb.kidEnts
  rw [List.length_map, List.length_zip, p.kbits_len, Nat.min_self]
theorem Pb.kidEnts_get (p : Pb) (x : Ent) {k kb : Nat} {kn : Nd} (h1 : (p.kids x.n)[k]? = some kn) (h2 : (p.kidBits x.n)[k]? = some kb) : (p.kidEnts x)[k]? = some ⟨kn, x.bs ++ [kb], min x.dip kn.m⟩ := by
  unfold Pb.kidEnts
  rw [List.getElem?_map, List.getElem?_zip_eq_some.2 ⟨h1, h2⟩ |> fun h : ((p.kids x.n).zip (p.kidBits x.n))[k]? = some (kn, kb) => h]
  rfl
/-- It was found. -/
theorem Se.find {w : World} {p : Pb} {D : Int} {most : Nat} {s : Bq} {b : Bk} {m : Sr} {ids : List Nat} {A : SA} {Wy : Nat → Prop} (h : Se w p D most s b m ids A Wy) {wb : Nat} {e : Ent} (hx : WayIn w Wy wb e) (k : Int) :
    Se (w.setCell ⟨A.sb, 6, none⟩ (ptrV (some wb))) p D most { s with work := k, found := some e } b { m with fnd := some wb } ids A Wy := by
  have hP := h.sr.put (m' := { m with fnd := some wb }) 6 (ptrV (some wb)) rfl rfl rfl
  have hq : ∀ {b' : Nat} {e' : Ent}, WayIn w Wy b' e' → WayIn (w.setCell ⟨A.sb, 6, none⟩ (ptrV (some wb))) Wy b' e' := fun hx => hx.same (fun k hk hl => Below.heap_setCell _ _ _ _ fun ek => (h.wy k hk).1 (.inl ek)) fun _ h => h
  have R := h.rel
  exact ⟨hP, h.bok, h.blen, h.lo, h.hi, ⟨R.D_, R.cap, R.I, R.len, R.sum, R.lt, R.nd, fun j i e h1 h2 => (R.ways j i e h1 h2).imp fun _ h => ⟨h.1, hq h.2⟩, .inr ⟨e, wb, rfl, rfl, hq hx⟩, R.mark, R.drops, R.most_⟩, fun k hk => ⟨(h.wy k hk).1, by simpa using (h.wy k hk).2⟩⟩
/-- The counter is the list's alone. -/
theorem Se.work {w : World} {p : Pb} {D : Int} {most : Nat} {s : Bq} {b : Bk} {m : Sr} {ids : List Nat} {A : SA} {Wy : Nat → Prop} (h : Se w p D most s b m ids A Wy) (k : Int) : Se w p D most { s with work := k } b m ids A Wy :=
  ⟨h.sr, h.bok, h.blen, h.lo, h.hi, ⟨h.rel.D_, h.rel.cap, h.rel.I, h.rel.len, h.rel.sum, h.rel.lt, h.rel.nd, h.rel.ways, h.rel.fnd, h.rel.mark, h.rel.drops, h.rel.most_⟩, h.wy⟩
set_option maxRecDepth 5000 in
set_option maxHeartbeats 1000000 in
theorem se_step {w : World} {p : Pb} (hp : p.Ok) (hc : probChk p = 0) {D : Int} {most : Nat} {s : Bq} (hs : s.Ok p D most) (hf : s.found = none) {b : Bk} {m : Sr} {ids : List Nat} {A : SA} {Wy : Nat → Prop} (h : Se w p D most s b m ids A Wy) :
    Calls Tryz.prog 55 #[.pointer (some ⟨A.sb, 0, none⟩)] w (SeStep p D most (p.bstep D most s) A Wy m.work w) := by
  have hne := hs.ne hf
  have hbne : b.I ≠ [] := fun e => by have := h.rel.ilen; rw [e] at this; simp at this; omega
  have hpop := bk_Pop h.bok hbne w h.sr.bk
  have c3 := h.sr.cells.c3
  have hc1 := h.bok.c1
  have hcap := h.rel.cap
  have hml := h.rel.most_
  have hsum := h.rel.sum
  go_enter Tryz.func55, Tryz.ntmps55
  go_wp2_with fail
  refine hpop.mono ?_
  rintro e w1 ⟨x, top, vs, hx, rfl, hB1, T1⟩
  obtain ⟨en, he1, he2, he3⟩ := h.rel.at_ hx
  obtain ⟨wb, hat, hway⟩ := h.rel.ways _ _ _ he2 he1
  have hen : s.best D = en := by
    have e1 := Bq.best_get (D := D) hne
    rw [← h.rel.next, he1] at e1
    exact (Option.some.inj e1).symm
  have T1' : Turn A.OB w w1 := T1.mono fun k _ hk => by rcases hk with rfl | rfl; exact h.sr.bk.own.1; exact h.sr.bk.own.2.1
  have hS1 := h.sr.newB (b' := { b with I := b.I.eraseIdx b.nextIx }) hB1 (fun k hk => .inl hk) T1' rfl
  obtain ⟨A1, hA1⟩ : ∃ A1, A1 = ({ A with top := top, vs := vs } : SA) := ⟨_, rfl⟩
  have hS1 : SrIn w1 p { b with I := b.I.eraseIdx b.nextIx } m A1 := by rw [hA1]; exact hS1
  have N1 : SrNext A A1 w w1 := ⟨by rw [hA1]; exact ⟨rfl, rfl, rfl, rfl, rfl, rfl, rfl, rfl⟩, fun k hk => .inl (by rw [hA1] at hk; exact hk), T1'.mono fun k _ hk => .inr (.inr (.inr hk))⟩
  have hsb1 : A1.sb = A.sb := N1.1.1
  clear c3 hpop hA1
  have hgone := sr_gone (p := p) hat (by omega) (by omega) w1 hS1
  rw [hsb1] at hgone
  go_wp2_with fail
  refine hgone.mono ?_
  rintro e w2 ⟨A2, rfl, hS2, N2, _⟩
  have N12 := N1.trans N2
  have hSe := h.take hx hS2 N12
  have hway2 : WayIn w2 Wy wb en := hway.next h.wy N12
  have hsb2 : A2.sb = A.sb := N12.1.1
  obtain ⟨up, bit, hbx, hwy⟩ := hway2.box
  have c2 : w2.cell? ⟨A.sb, 2, none⟩ = some (.pointer (some ⟨A2.tb, 0, none⟩)) := hsb2 ▸ hSe.sr.cells.c2
  have gx : loadAgg w2 wb 2 3 = .ok (.agg en.n.cells) w2 := hbx.box.load (off := 2) (n := 3) (cs' := en.n.cells) (by show 2 + 3 ≤ 6; omega) rfl
  have hpn : ptrV (some wb) = Value.pointer (some ⟨wb, 0, none⟩) := rfl
  rw [hpn]
  have htree := hSe.sr.tree
  clear hgone hS1 T1 T1' hB1
  go_upto_region 2 with fail
  refine wp_region_kept (by kernel_rfl) (by kernel_rfl) ?_
  have q2 := KeptW.cell c2
  repeat first
    | ((with_reducible apply q_ld); rfl; (with_reducible assumption); (simp only [List.set_cons_zero, List.set_cons_succ]; rfl))
    | go_big_quiet_step (exact Calls.kept (tree_Leaf p en.n _ (htree.kept (Subtype.property _))))
  refine wpQuiet_nil ?_
  intro w3 B3
  have hSe3 := hSe.kept B3
  have hway3 : WayIn w3 Wy wb en := hway2.same (fun k hk hl => B3.block k hl) fun _ h => h
  obtain ⟨m2, hm2⟩ : ∃ m2, m2 = ({ m with ats := m.ats.set x.1 none, frees := m.frees ++ [x.1] } : Sr) := ⟨_, rfl⟩
  rw [← hm2] at hSe3
  have hmw : m2.work = m.work := by rw [hm2]
  obtain ⟨b2, hb2⟩ : ∃ b2, b2 = ({ b with I := b.I.eraseIdx b.nextIx } : Bk) := ⟨_, rfl⟩
  rw [← hb2] at hSe3
  obtain ⟨ids2, hids2⟩ : ∃ ids2, ids2 = ids.eraseIdx b.nextIx := ⟨_, rfl⟩
  rw [← hids2] at hSe3
  obtain ⟨s2, hs2⟩ : ∃ s2, s2 = ({ s with L := s.L.eraseIdx (nextIx D s.L) } : Bq) := ⟨_, rfl⟩
  rw [← hs2] at hSe3
  have N3 : SrNext A A2 w w3 := ⟨N12.1, fun k hk => (N12.2.1 k hk).imp_right fun h => ⟨h.1, Nat.lt_of_lt_of_le h.2 B3.size⟩, N12.2.2.trans (Turn.ofBelow B3)⟩
  have hstep : p.bstep D most s = if en.n.d = p.N then { s2 with work := wrap64 (s.work + 1), found := some en } else (p.kidEnts en).foldl (Bq.put D most) { s2 with work := wrap64 (s.work + 1) } := by rw [hs2, ← hen]; rfl
  clear q2 c2 gx htree hSe hS2 N1 N2 N12 hm2 hb2 hids2 h hx hbx hway2 hat he1 he2 hml hsum hway
  by_cases hd : en.n.d = p.N
  · have hd1 : (en.n.d == p.N) = true := by simpa using hd
    have z6 : w3.frozen? ⟨A.sb, 6, none⟩ = false := hsb2 ▸ hSe3.sr.box.box.frozen 6
    have c6 : w3.cell? ⟨A.sb, 6, none⟩ = some (ptrV m2.fnd) := hsb2 ▸ hSe3.sr.cells.c6
    go_wp2
    have hF := hSe3.find hway3 (wrap64 (s.work + 1))
    have N4 := N3.own (w4 := w3.setCell ⟨A2.sb, 6, none⟩ (ptrV (some wb))) (Turn.setCell _ _ _ (.inl rfl))
    rw [hsb2, hpn] at hF N4
    refine bodyPost_end (results_nil rfl) rfl ?_
    refine (show SeStep p D most _ A Wy m.work w _ _ from ⟨b2, { m2 with fnd := some wb }, ids2, A2, Wy, rfl, ?_, N4, fun k hk => .inl hk, hmw⟩)
    rw [hstep, if_pos hd]
    exact hF
  · have hd1 : (en.n.d == p.N) = false := by simpa using hd
    rw [hd1]
    clear hd1
    have heo : en.Ok p := hs.ents _ (hen ▸ List.mem_of_getElem? (Bq.best_get (D := D) hne))
    have hNb := Pb.N_le hc
    have hin : p.In en.n := by
      have hl := heo.len
      have hxd : en.n.d = (en.bs.length : Int) := by rw [heo.nd]; rfl
      have hlt : (en.bs.length : Int) < p.N := by omega
      rw [heo.nd]
      exact Pb.nd_in _ hlt
    go_upto_region 4 with fail
    have c2 : w3.cell? ⟨A.sb, 2, none⟩ = some (.pointer (some ⟨A2.tb, 0, none⟩)) := hsb2 ▸ hSe3.sr.cells.c2
    obtain ⟨up, bit, hbx, hwy⟩ := hway3.box
    have gx : loadAgg w3 wb 2 3 = .ok (.agg en.n.cells) w3 := hbx.box.load (off := 2) (n := 3) (cs' := en.n.cells) (by show 2 + 3 ≤ 6; omega) rfl
    (refine wp_region_call 8 (by kernel_rfl) (by kernel_rfl) rfl rfl (by kernel_rfl) rfl ?_; simp only [List.take_succ_cons, List.take_zero])
    have q2 := KeptW.cell c2
    repeat first
      | ((refine det_plain rfl ?_); ((with_reducible apply q_ld); rfl; (with_reducible assumption); (simp only [List.set_cons_zero, List.set_cons_succ]; rfl)); (refine wpQuiet_nil ?_))
      | ((with_reducible apply det_nilG); rfl; rfl; (simp only [List.set_cons_zero, List.set_cons_succ]; rfl))
      | ((refine det_plain rfl ?_); (go_big_quiet_step (fail)); (refine wpQuiet_nil ?_))
    refine wpDet_nil ?_
    refine fr_call (fun v w' => ∃ nb bb, v = .tuple #[.slice (some ⟨nb, 0, none⟩) (p.kids en.n).length (p.kids en.n).length, .slice (some ⟨bb, 0, none⟩) (p.kidBits en.n).length (p.kidBits en.n).length] ∧ Box w' nb (ndCells (p.kids en.n)) ∧ Box w' bb (u8s (p.kidBits en.n)).toArray ∧ w3.heap.size ≤ nb ∧ w3.heap.size ≤ bb) rfl inferInstance rfl ?_ ?_ ?_
    · exact fun v x y hx ⟨nb, bb, e1, e2, e3, e4, e5⟩ => ⟨nb, bb, e1, e2.kept hx, e3.kept hx, e4, e5⟩
    · intro w4 B4
      refine (tree_KidsT p hp hc en.n hin _ (hSe3.sr.kept B4).tree).mono ?_
      rintro e w5 ⟨⟨nb, bb, rfl, x1, x2, x3, x4, x5⟩, B5⟩
      exact ⟨⟨_, rfl, nb, bb, rfl, x1, x2.box, Nat.le_trans B4.size x4, Nat.le_trans B4.size x5⟩, B5⟩
    rintro v ⟨_, _, nb, bb, rfl, _, _, x4, x5⟩
    simp only [List.set_cons_zero, List.set_cons_succ]
    repeat first
      | ((refine det_plain rfl ?_); (go_big_quiet_step (fail)); (refine wpQuiet_nil ?_))
    refine wpDet_nil ?_
    rintro w4 B4 ⟨_, nb', bb', hv, x1, x2, _, _⟩
    obtain ⟨rfl, rfl⟩ : nb = nb' ∧ bb = bb' := by simpa using hv
    have hSe4 := (hSe3.kept B4).work (wrap64 (s.work + 1))
    have hway4 : WayIn w4 Wy wb en := hway3.same (fun k hk hl => B4.block k hl) fun _ h => h
    have N4 : SrNext A A2 w w4 := ⟨N3.1, fun k hk => (N3.2.1 k hk).imp_right fun h => ⟨h.1, Nat.lt_of_lt_of_le h.2 B4.size⟩, N3.2.2.trans (Turn.ofBelow B4)⟩
    have hnl : ¬A2.own nb ∧ ¬A2.own bb := ⟨fun ho => by have := hSe3.sr.lt ho; omega, fun ho => by have := hSe3.sr.lt ho; omega⟩
    have hnl4 : nb < w4.heap.size ∧ bb < w4.heap.size := ⟨x1.lt, x2.lt⟩
    have hkb : (p.kidBits en.n).length = (p.kids en.n).length := p.kbits_len en.n
    clear q2 gx c2 hSe3 hway3 N3 hbx x4 x5 hv B4 B3 hsb1 hne hbne hcap hs hf hc1
    go_upto_region 6 with fail
    obtain ⟨l, hl⟩ : ∃ l, l = p.kids en.n := ⟨_, rfl⟩
    obtain ⟨bs, hbs⟩ : ∃ l, l = p.kidBits en.n := ⟨_, rfl⟩
    rw [← hl, ← hbs] at hkb
    rw [← hl] at x1 ⊢
    rw [← hbs] at x2 ⊢
    have HL := Lib.hid hl
    have HB := Lib.hid hbs
    have hl2 : l.length ≤ 2 := HL.out ▸ p.kids_len en.n
    have HKB := Lib.hid hkb
    clear hl hbs hkb
    go_loopw [49] (fun i wr => ∃ (k : Nat) (b' : Bk) (m' : Sr) (ids' : List Nat) (A' : SA) (Wy' : Nat → Prop), k ≤ l.length ∧ i = .int .i64 k ∧ Se wr p D most (((p.kidEnts en).take k).foldl (Bq.put D most) { s2 with work := wrap64 (s.work + 1) }) b' m' ids' A' Wy' ∧ WayIn wr Wy' wb en ∧ SrNext A2 A' w4 wr ∧ (∀ k, Wy' k → Wy k ∨ (w4.heap.size ≤ k ∧ k < wr.heap.size)) ∧ m'.work = m.work ∧ Box wr nb (ndCells l) ∧ Box wr bb (u8s bs).toArray) (fun i _ => l.length - (intOf i).toNat)
    case atStart => exact ⟨0, b2, m2, ids2, A2, Wy, by omega, rfl, hSe4, hway4, ⟨⟨rfl, rfl, rfl, rfl, rfl, rfl, rfl, rfl⟩, fun k hk => .inl hk, Turn.refl _ _⟩, fun k hk => .inl hk, hmw, x1, x2⟩
    case round =>
      obtain ⟨k, b5, m5, ids5, A5, Wy5, hk, rfl, hSe5, hway5, N5, W5, hmw5, y1, y2⟩ := hrel
      by_cases hkl : k < l.length
      · have hk2 : decide ((k : Int) < l.length) = true := by simp; omega
        have hk3 : (k : Int) < l.length := by omega
        obtain ⟨kn, hkn⟩ : ∃ kn, l[k]? = some kn := ⟨_, List.getElem?_eq_getElem hkl⟩
        obtain ⟨kb, hkbt⟩ : ∃ kb, bs[k]? = some kb := ⟨_, List.getElem?_eq_getElem (by have := HKB.out; omega)⟩
        have hbz := Box.new wr #[.int .u32 0, .int .i64 0, .int .i64 0] 66
        have hflat : Flat kn.cells := nodeCells_flat _ _ _
        have gk := (nd_cell y1 hkn).1
        go_upto_region 8 with (first | ((with_reducible apply ld); rfl; (with_reducible assumption); (simp only [List.set_cons_zero, List.set_cons_succ]; rfl)) | ((with_reducible apply stO); rfl; rfl; exact hbz; rfl; rfl; exact hflat; intro w6 hb6 B6 ho6 hs6))
        have B60 : Below wr.heap.size wr w6 := ((Below.refl _ wr).alloc (Nat.le_refl _) _).trans B6
        have hSe6 := hSe5.kept B60
        have hway6 : WayIn w6 Wy5 wb en := hway5.same (fun k hk hl => B60.block k hl) fun _ h => h
        have y16 := y1.kept B60
        have y26 := y2.kept B60
        obtain ⟨up, bit, hbx, hwy5⟩ := hway6.box
        have gn := hb6.load (off := 0) (n := 3) (cs' := kn.cells) (Nat.le_refl _) (Array.extract_eq_self_of_le (Nat.le_refl _))
        have cnm : w6.cell? ⟨wr.heap.size, 2, none⟩ = some (.int .i64 kn.m) := hb6.cell 2
        have cdip : w6.cell? ⟨wb, 5, none⟩ = some (.int .i64 en.dip) := hbx.box.cell 5
        have cb := bit_cell y26 hkbt
        have hkl2 : (k : Int) < bs.length := by have := HKB.out; omega
        clear gk hflat hbz y1 y2 hSe5 hway5 B6 ho6 hs6 hbx hb6
        (refine wp_region_link 15 0 (by kernel_rfl) rfl (by decide) (by kernel_rfl) (by kernel_rfl) (by kernel_rfl) (by kernel_rfl) ?_; simp only [linkAt, Nat.reduceAdd, List.modify_succ_cons, List.modify_zero_cons, List.push_toArray, List.cons_append, List.nil_append, List.take_succ_cons, List.take_zero, List.drop_succ_cons, List.drop_zero])
        have qn := KeptW.cell cnm
        have qd := KeptW.cell cdip
        have qb := KeptW.cell cb
        repeat first
          | ((refine det_plain rfl ?_); ((with_reducible apply q_ld); rfl; (with_reducible assumption); (simp only [List.set_cons_zero, List.set_cons_succ]; rfl)); (refine wpQuiet_nil ?_))
          | ((with_reducible apply det_nilG); rfl; rfl; (simp only [List.set_cons_zero, List.set_cons_succ]; rfl))
          | (refine det_known (d := 67) (v := .int .i64 (min en.dip kn.m)) rfl rfl ?_ (by simp only [List.set_cons_zero, List.set_cons_succ]; rfl) ?_; (intro w; go_simp; first | done | rfl | (split <;> omega)))
          | ((refine det_plain rfl ?_); ((with_reducible apply q_build (d := 68) (cs := #[.pointer (some ⟨wb, 0, none⟩), .int .u8 kb, .int .u32 kn.s, .int .i64 kn.d, .int .i64 kn.m, .int .i64 (min en.dip kn.m)])); ((simp only [List.map_toArray, List.map_cons, List.map_nil]); exact build_way wb kb kn (min en.dip kn.m)); (simp only [List.set_cons_zero, List.set_cons_succ]; rfl)); (refine wpQuiet_nil ?_))
          | ((refine det_plain rfl ?_); (go_big_quiet_step (fail)); (refine wpQuiet_nil ?_))
        refine wpDet_nil ?_
        unfold wpFree
        intro w7 B7 _
        have hSe7 := hSe6.kept B7
        have hway7 : WayIn w7 Wy5 wb en := hway6.same (fun k hk hl => B7.block k hl) fun _ h => h
        have y17 := y16.kept B7
        have y27 := y26.kept B7
        have B80 := (B60.trans (B7.mono B60.size))
        have hsb5 : A5.sb = A.sb := N5.1.1.trans hsb2
        have hke : (p.kidEnts en)[k]? = some ⟨kn, en.bs ++ [kb], min en.dip kn.m⟩ := p.kidEnts_get en (HL.out ▸ hkn) (HB.out ▸ hkbt)
        obtain ⟨hkok, hkd⟩ := heo.kids hc hd _ (List.mem_of_getElem? hke)
        rw [hway7.depth] at hkd
        have HKD := Lib.hid (show kn.d = (en.bs.length : Int) + 1 from hkd)
        clear hkd
        have hrg : p.lo_ ≤ kn.m ∧ kn.m ≤ p.hi_ := by
          have e1 : kn = p.nd (en.bs ++ [kb]) (en.bs ++ [kb]).length := hkok.nd
          have e2 := hkok.len
          have := Pb.nd_range hc (en.bs ++ [kb]) (i := (en.bs ++ [kb]).length) e2
          rw [← e1] at this
          exact this
        obtain ⟨X, hX⟩ : ∃ X : Ent, X = ⟨kn, en.bs ++ [kb], min en.dip kn.m⟩ := ⟨_, rfl⟩
        have hbn : BoxT (w7.alloc (.cells #[.pointer (some ⟨wb, 0, none⟩), .int .u8 kb, .int .u32 kn.s, .int .i64 kn.d, .int .i64 kn.m, .int .i64 (min en.dip kn.m)] 69)) w7.heap.size (wayCells (some wb) kb X) 69 := by rw [hX]; exact BoxT.new w7 _ _
        have B8 : Below w7.heap.size w7 (w7.alloc (.cells #[.pointer (some ⟨wb, 0, none⟩), .int .u8 kb, .int .u32 kn.s, .int .i64 kn.d, .int .i64 kn.m, .int .i64 (min en.dip kn.m)] 69)) := (Below.refl _ _).alloc (Nat.le_refl _) _
        have hlt8 : w7.heap.size < (w7.alloc (.cells #[.pointer (some ⟨wb, 0, none⟩), .int .u8 kb, .int .u32 kn.s, .int .i64 kn.d, .int .i64 kn.m, .int .i64 (min en.dip kn.m)] 69)).heap.size := Box.lt ⟨_, hbn⟩
        clear qn qd qb cnm cdip cb gn hSe6 hway6 y16 y26 B7 B60 hwy5
        obtain ⟨w8, hw8⟩ : ∃ W, W = w7.alloc (.cells #[.pointer (some ⟨wb, 0, none⟩), .int .u8 kb, .int .u32 kn.s, .int .i64 kn.d, .int .i64 kn.m, .int .i64 (min en.dip kn.m)] 69) := ⟨_, rfl⟩
        have hput : ∃ V, V = w8 ∧ Calls Tryz.prog 16 #[.pointer (some ⟨A.sb, 0, none⟩), .pointer (some ⟨w7.heap.size, 0, none⟩)] V (fun e w9 => e = .returned (.tuple #[]) ∧ ∃ (b9 : Bk) (m9 : Sr) (ids9 : List Nat) (A9 : SA) (Wy9 : Nat → Prop), Se w9 p D most (((p.kidEnts en).take (k + 1)).foldl (Bq.put D most) { s2 with work := wrap64 (s.work + 1) }) b9 m9 ids9 A9 Wy9 ∧ WayIn w9 Wy9 wb en ∧ SrNext A2 A9 w4 w9 ∧ (∀ k, Wy9 k → Wy k ∨ (w4.heap.size ≤ k ∧ k < w9.heap.size)) ∧ m9.work = m.work ∧ Box w9 nb (ndCells l) ∧ Box w9 bb (u8s bs).toArray) := by
          refine ⟨w8, rfl, ?_⟩
          rw [← hw8] at hbn B8 hlt8
          have hsz4 := N5.2.2.size
          have hsz7 := B80.size
          have hSe8 := (hSe7.kept B8).more (Wy' := fun k => Wy5 k ∨ k = w7.heap.size) (fun _ h => .inl h) (fun k hk => hk.imp_right fun e => ⟨fun ho => by have := hSe7.sr.lt ho; omega, by omega⟩)
          have hway8 : WayIn w8 (fun k => Wy5 k ∨ k = w7.heap.size) wb en := hway7.same (fun k hk hl => B8.block k hl) fun _ h => .inl h
          have hX8 : WayIn w8 (fun k => Wy5 k ∨ k = w7.heap.size) w7.heap.size X := by rw [hX] at hbn ⊢; exact .kid hbn (.inr rfl) HKD.out hway8
          have hc8 := se_put hSe8 (wb := w7.heap.size) (x := X) (by rw [hX]; exact hrg.1) (by rw [hX]; exact hrg.2) hX8
          rw [hsb5] at hc8
          refine hc8.mono ?_
          rintro e w9 ⟨b9, m9, ids9, A9, rfl, hSe9, N9, _, hw9⟩
          have N8 : SrNext A2 A5 w4 w8 := (N5.below B80).below B8
          have hno : ∀ q, ¬A2.own q → q < w4.heap.size → ¬A5.own q := fun q h1 h2 ho => (N5.2.1 q ho).elim h1 fun h => by omega
          refine ⟨rfl, b9, m9, ids9, A9, _, ?_, hway8.next hSe8.wy N9, N8.trans N9, fun q hq => ?_, hw9.trans hmw5, (y17.kept B8).turn N9.2.2 (hno _ hnl.1 hnl4.1), (y27.kept B8).turn N9.2.2 (hno _ hnl.2 hnl4.2)⟩
          · have e : (p.kidEnts en).take (k + 1) = (p.kidEnts en).take k ++ [X] := by rw [List.take_add_one, hke, hX]; rfl
            rw [e, List.foldl_append]
            exact hSe9
          · have := N9.2.2.size
            rcases hq with hq | rfl
            · exact (W5 q hq).imp_right fun h => ⟨h.1, by omega⟩
            · exact .inr ⟨by omega, by omega⟩
        obtain ⟨V, rfl, hput⟩ := hput
        rw [hw8] at hput
        clear hw8 hbn B8 hlt8 hSe7 hway7 y17 y27 B80 hke hkok hrg hX N5 W5 hmw5
        go_wp2_with fail
        refine hput.mono ?_
        rintro e w9 ⟨rfl, b9, m9, ids9, A9, Wy9, r1, r2, r3, r4, r5, r6, r7⟩
        go_wp2
        refine ⟨rfl, ?_⟩
        go_wp2
        go_roundw
        case measure => simp only [intOf]; omega
        case rel => exact ⟨k + 1, b9, m9, ids9, A9, Wy9, by omega, by go_num, r1, r2, r3, r4, r5, r6, r7⟩
      · obtain rfl : k = l.length := by omega
        go_wp2
        refine bodyPost_end (results_nil rfl) rfl ?_
        have hkl : (p.kidEnts en).length = l.length := by rw [p.kidEnts_len, HL.out]
        refine (show SeStep p D most _ A Wy m.work w _ _ from ⟨b5, m5, ids5, A5, Wy5, rfl, ?_, N4.trans N5, fun q hq => (W5 q hq).imp_right fun h => ⟨Nat.le_trans N4.2.2.size h.1, h.2⟩, hmw5⟩)
        rw [hstep, if_neg hd]
        rw [List.take_of_length_le (by omega)] at hSe5
        exact hSe5
end Go.Proofs.YtnjmplapjnnjdaaGreat

/- The search of layer 17: Run. -/
namespace Go.Proofs.YtnjmplapjnnjdaaGreat
open Go.RowKit

def Run1Post (A : SA) (k wk : Int) (w : World) (u : FrameMode) (e : Ending) (u' : FrameMode) (w' : World) : Prop :=
  u' = u ∧ e = .returned (.tuple #[]) ∧ ∃ W, Below w.heap.size w W ∧ w' = W.setCell ⟨A.sb, 7, none⟩ (.int .i64 (wrap64 (wk + k)))
set_option maxRecDepth 5000 in
theorem se_Run1 {p : Pb} {b : Bk} {m : Sr} {A : SA} {vb nb : Nat} {k : Int} (u : FrameMode) (w : World) (h : SrIn w p b m A) (hv : Box w vb #[.pointer (some ⟨A.sb, 0, none⟩)]) (hn : Box w nb #[.int .i64 k]) :
    CallsD Tryz.prog 54 #[.pointer (some ⟨vb, 0, none⟩), .pointer (some ⟨nb, 0, none⟩)] u w (Run1Post A k m.work w u) := by
  have c7 := h.cells.c7
  have cv : w.cell? ⟨vb, 0, none⟩ = some (.pointer (some ⟨A.sb, 0, none⟩)) := hv.cell 0
  have cn : w.cell? ⟨nb, 0, none⟩ = some (.int .i64 k) := hn.cell 0
  have HS := Lib.hid h
  clear h hv hn
  go_enter_d Tryz.func54, Tryz.ntmps54
  (refine wp_region_treeV (fun W => Below w.heap.size w W) 8 (.pure 0 (.pure 1 (.pure 2 (.pure 3 (.pure 4 (.pure 5 (.free 6 (.pure 7 (.one 8 .nil))))))))) (by kernel_rfl) (by kernel_rfl) ?_; simp only [List.getD_cons_zero, List.getD_cons_succ, wpOVI])
  intro w3 B3
  iterate 6
    refine ⟨fun _ => B3, _, fun W hI => by have cv := KeptW.cell cv ⟨W, hI⟩; have cn := KeptW.cell cn ⟨W, hI⟩; have c7 := KeptW.cell c7 ⟨W, hI⟩; go_simp; first | done | rfl, ?_⟩
    try simp only [put_list, List.set_cons_zero, List.set_cons_succ]
  refine ⟨rfl, _, fun W => by go_simp; first | done | rfl, ?_⟩
  try simp only [put_list, List.set_cons_zero, List.set_cons_succ]
  refine ⟨fun _ => B3, _, fun W hI => by go_simp; first | done | rfl, ?_⟩
  try simp only [put_list, List.set_cons_zero, List.set_cons_succ]
  refine ⟨fun _ => B3, ?_⟩
  have h3 := (HS.out.kept B3)
  have z7 := h3.box.box.frozen 7
  have d7 := h3.cells.c7
  go_wp2
  refine bodyPost_end (results_nil rfl) rfl ?_
  exact ⟨rfl, w3, B3, rfl⟩
theorem Pb.bstep_work (p : Pb) (D : Int) (most : Nat) (s : Bq) (hm : 1 ≤ most) (hl : s.L.length ≤ most) : (p.bstep D most s).work = wrap64 (s.work + 1) := by
  unfold Pb.bstep
  split
  · rfl
  · have h2 : ({ s with L := s.L.eraseIdx (nextIx D s.L), work := wrap64 (s.work + 1) } : Bq).L.length ≤ most := Nat.le_trans (List.length_eraseIdx_le ..) hl
    exact (Bq.puts_facts (D := D) hm _ h2 (.inl (p.kidEnts_ne _))).2.2.2.2
def intAt (w : World) (b : Nat) : Int := match w.cell? ⟨b, 0, none⟩ with
  | some (.int _ n) => n
  | _ => 0
def SeRunPost (p : Pb) (D : Int) (most : Nat) (s : Bq) (A : SA) (Wy : Nat → Prop) (w : World) (e : Ending) (w' : World) : Prop :=
  ∃ b' m' ids' A' Wy', e = .returned (.tuple #[.bool s.found.isSome, .int .i64 0]) ∧ Se w' p D most s b' m' ids' A' Wy' ∧ SrNext A A' w w' ∧ (∀ k, Wy' k → Wy k ∨ (w.heap.size ≤ k ∧ k < w'.heap.size)) ∧ m'.work = s.work
/-- A block that is none of its own is written. -/
theorem Se.far {w : World} {p : Pb} {D : Int} {most : Nat} {s : Bq} {b : Bk} {m : Sr} {ids : List Nat} {A : SA} {Wy : Nat → Prop} (h : Se w p D most s b m ids A Wy) (q : Addr) (v : Value) (hq : ∀ k, A.has k ∨ Wy k → k ≠ q.block) : Se (w.setCell q v) p D most s b m ids A Wy :=
  h.turn (H := fun k => k = q.block) (Turn.setCell _ _ _ rfl) hq
theorem Se.setWork {w : World} {p : Pb} {D : Int} {most : Nat} {s : Bq} {b : Bk} {m : Sr} {ids : List Nat} {A : SA} {Wy : Nat → Prop} (h : Se w p D most s b m ids A Wy) (k : Int) :
    Se (w.setCell ⟨A.sb, 7, none⟩ (.int .i64 k)) p D most s b { m with work := k } ids A Wy := by
  have hP := h.sr.put (m' := { m with work := k }) 7 (.int .i64 k) rfl rfl rfl
  have hq : ∀ {b' : Nat} {e' : Ent}, WayIn w Wy b' e' → WayIn (w.setCell ⟨A.sb, 7, none⟩ (.int .i64 k)) Wy b' e' := fun hx => hx.same (fun k hk hl => Below.heap_setCell _ _ _ _ fun ek => (h.wy k hk).1 (.inl ek)) fun _ h => h
  have R := h.rel
  exact ⟨hP, h.bok, h.blen, h.lo, h.hi, ⟨R.D_, R.cap, R.I, R.len, R.sum, R.lt, R.nd, fun j i e h1 h2 => (R.ways j i e h1 h2).imp fun _ h => ⟨h.1, hq h.2⟩, R.fnd.imp_right fun ⟨e, wb, h1, h2, h3⟩ => ⟨e, wb, h1, h2, hq h3⟩, R.mark, R.drops, R.most_⟩, fun k hk => ⟨(h.wy k hk).1, by simpa using (h.wy k hk).2⟩⟩
def NextX (H : Nat → Prop) (A A' : SA) (w w' : World) : Prop := (A'.sb = A.sb ∧ A'.bb = A.bb ∧ A'.tb = A.tb ∧ A'.pb = A.pb ∧ A'.rb = A.rb ∧ A'.g = A.g ∧ A'.c = A.c ∧ A'.B0 = A.B0) ∧ (∀ k, A'.own k → A.own k ∨ (w.heap.size ≤ k ∧ k < w'.heap.size)) ∧ Turn H w w'
theorem NextX.trans {H : Nat → Prop} {A B C : SA} {w w1 w2 : World} (h1 : NextX H A B w w1) (hH : ∀ k, A.own k → H k) (h2 : SrNext B C w1 w2) : NextX H A C w w2 := by
  obtain ⟨⟨a1, a2, a3, a4, a5, a6, a7, a8⟩, o1, T1⟩ := h1
  obtain ⟨⟨b1, b2, b3, b4, b5, b6, b7, b8⟩, o2, T2⟩ := h2
  refine ⟨⟨b1.trans a1, b2.trans a2, b3.trans a3, b4.trans a4, b5.trans a5, b6.trans a6, b7.trans a7, b8.trans a8⟩, fun k hk => ?_, ?_⟩
  · rcases o2 k hk with h | h
    · rcases o1 k h with h | h
      · exact .inl h
      · exact .inr ⟨h.1, Nat.lt_of_lt_of_le h.2 T2.size⟩
    · exact .inr ⟨Nat.le_trans T1.size h.1, h.2⟩
  · have t1 : Turn (fun k => H k ∨ w.heap.size ≤ k) w w1 := T1.mono fun k _ hk => .inl hk
    have t2 : Turn (fun k => H k ∨ w.heap.size ≤ k) w1 w2 := T2.mono fun k _ hk => (o1 k hk).imp (hH k) fun h => h.1
    exact (t1.trans t2).mono fun k hl hk => hk.resolve_right (by omega)
theorem NextX.set {H : Nat → Prop} {A B : SA} {w w1 : World} (h : NextX H A B w w1) (q : Addr) (v : Value) (hq : H q.block) : NextX H A B w (w1.setCell q v) := ⟨h.1, fun k hk => by simpa using h.2.1 k hk, h.2.2.trans (Turn.setCell _ _ _ hq)⟩
set_option maxRecDepth 5000 in
set_option maxHeartbeats 1000000 in
theorem se_Run {w : World} {p : Pb} (hp : p.Ok) (hc : probChk p = 0) {D : Int} {most : Nat} {s : Bq} (hm1 : 1 ≤ most) (hs : s.Ok p D most) {b : Bk} {m : Sr} {ids : List Nat} {A : SA} {Wy : Nat → Prop} (h : Se w p D most s b m ids A Wy) (hwk : m.work = s.work) (hwr : wrap64 s.work = s.work) {n : Int} (n0 : 0 ≤ n) (n1 : n ≤ 1048576) :
    Calls Tryz.prog 32 #[.pointer (some ⟨A.sb, 0, none⟩), .int .i64 n] w (SeRunPost p D most (p.brun D most n.toNat s) A Wy w) := by
  have hmf : ∀ (fn : Fn) (first cap : Array Value) (w : World), (Instr.makeFunc fn first cap).run Tryz.prog w = .ok (.func fn first cap) w := fun _ _ _ _ => rfl
  go_enter_defers Tryz.func32, Tryz.ntmps32
  have hvb := Box.new w #[.pointer (some ⟨A.sb, 0, none⟩)] 35
  have BA : Below w.heap.size w (w.alloc (.cells #[.pointer (some ⟨A.sb, 0, none⟩)] 35)) := (Below.refl _ _).alloc (Nat.le_refl _) _
  have hSe1 := h.kept BA
  have cv : (w.alloc (.cells #[.pointer (some ⟨A.sb, 0, none⟩)] 35)).cell? ⟨w.heap.size, 0, none⟩ = some (.pointer (some ⟨A.sb, 0, none⟩)) := hvb.cell 0
  go_wp2_with fail
  refine (sr_good _ hSe1.sr).mono ?_
  rintro e w1 ⟨rfl, B1⟩
  have hSe2 := hSe1.kept B1
  have hvb2 := hvb.kept B1
  have B10 := BA.trans (B1.mono BA.size)
  have hA2 : ∀ k, A.own k → k < w.heap.size := fun k hk => h.sr.lt hk
  have hvlt : w.heap.size < w1.heap.size := hvb2.lt
  have hWy : ∀ q, Wy q → q < w.heap.size := fun q hq => (h.wy q hq).2
  clear hvb BA hSe1 cv B1 h
  go_upto_region 5 with fail
  have e1 : decide (n < 0) = false := by simpa using n0
  have e2 : decide (1048576 < n) = false := by simpa using n1
  simp only [e1, e2, Bool.or_false]
  clear e1 e2
  have hnb := Box.new w1 #[.int .i64 0] 3
  have B2 : Below w1.heap.size w1 (w1.alloc (.cells #[.int .i64 0] 3)) := (Below.refl _ _).alloc (Nat.le_refl _) _
  have hSe3 := hSe2.kept B2
  have hvb3 := hvb2.kept B2
  have B20 := B10.trans (B2.mono B10.size)
  obtain ⟨nb, hnbe⟩ : ∃ nb, nb = w1.heap.size := ⟨_, rfl⟩
  obtain ⟨vb, hvbe⟩ : ∃ vb, vb = w.heap.size := ⟨_, rfl⟩
  obtain ⟨w2, hw2⟩ : ∃ W, W = w1.alloc (.cells #[.int .i64 0] 3) := ⟨_, rfl⟩
  rw [← hw2] at hnb B2 hSe3 hvb3 B20 ⊢
  rw [← hnbe] at hnb hvlt ⊢
  rw [← hvbe] at hvb3 hvlt hA2 hWy ⊢
  have hnl : ¬A.own nb ∧ ¬A.own vb := ⟨fun ho => by have := hA2 _ ho; omega, fun ho => by have := hA2 _ ho; omega⟩
  have hnl2 : nb < w2.heap.size ∧ vb < w2.heap.size := ⟨hnb.lt, hvb3.lt⟩
  have hvn : vb ≠ nb := by omega
  have hnv : vb < nb := hvlt
  have hsl : A.sb < vb := hA2 _ (.inl rfl)
  have hWl : ∀ q, Wy q → q < nb := fun q hq => by have := hWy q hq; omega
  clear hnbe hw2 hvlt hvb2 hSe2 B2 hA2 hWy
  rw [hvbe] at hvb3 hnl hnl2 hvn hnv hsl ⊢
  obtain ⟨hvb, rfl⟩ : ∃ _ : True, vb = w.heap.size := ⟨trivial, hvbe⟩
  go_loopw [] (fun wr => ∃ (k : Nat) (b' : Bk) (m' : Sr) (ids' : List Nat) (A' : SA) (Wy' : Nat → Prop), k ≤ n.toNat ∧ Box wr nb #[.int .i64 k] ∧ Box wr w.heap.size #[.pointer (some ⟨A.sb, 0, none⟩)] ∧ Se wr p D most (p.brun D most k s) b' m' ids' A' Wy' ∧ NextX (fun q => A.own q ∨ q = nb) A A' w2 wr ∧ (∀ q, Wy' q → Wy q ∨ (w2.heap.size ≤ q ∧ q < wr.heap.size)) ∧ m'.work = s.work ∧ (p.brun D most k s).work = wrap64 (s.work + k) ∧ (p.brun D most k s).Ok p D most) (fun wr => n.toNat - (intAt wr nb).toNat)
  case atStart => exact ⟨0, b, m, ids, A, Wy, by omega, hnb, hvb3, hSe3, ⟨⟨rfl, rfl, rfl, rfl, rfl, rfl, rfl, rfl⟩, fun k hk => .inl hk, Turn.refl _ _⟩, fun k hk => .inl hk, hwk, by show s.work = wrap64 (s.work + 0); rw [Int.add_zero, hwr], hs⟩
  case round =>
    obtain ⟨k, b5, m5, ids5, A5, Wy5, hk, hnb5, hvb5, hSe5, N5, W5, hmw5, hwk5, hs5⟩ := hrel
    have hsb5 : A5.sb = A.sb := N5.1.1
    have cn : wr.cell? ⟨nb, 0, none⟩ = some (.int .i64 k) := hnb5.cell 0
    have cv : wr.cell? ⟨w.heap.size, 0, none⟩ = some (.pointer (some ⟨A.sb, 0, none⟩)) := hvb5.cell 0
    have zn : wr.frozen? ⟨nb, 0, none⟩ = false := hnb5.frozen 0
    have c6 : wr.cell? ⟨A.sb, 6, none⟩ = some (ptrV m5.fnd) := hsb5 ▸ hSe5.sr.cells.c6
    have hno : ∀ q, ¬A.own q → q < w2.heap.size → ¬A5.own q := fun q h1 h2 ho => (N5.2.1 q ho).elim h1 fun h => by omega
    have hvb5' : Box wr w.heap.size #[.pointer (some ⟨A5.sb, 0, none⟩)] := by rw [hsb5]; exact hvb5
    have fin : p.brun D most n.toNat s = p.brun D most k s → ∀ W, Below wr.heap.size wr W → SeRunPost p D most (p.brun D most n.toNat s) A Wy w (.returned (.tuple #[.bool (p.brun D most k s).found.isSome, .int .i64 0])) (W.setCell ⟨A5.sb, 7, none⟩ (.int .i64 (wrap64 (m5.work + k)))) := by
      intro he W BW
      rw [he]
      have hsz := N5.2.2.size
      have hsz2 := B20.size
      have hsz3 := BW.size
      refine ⟨b5, _, ids5, A5, Wy5, rfl, (hSe5.kept BW).setWork _, ⟨N5.1, fun q hq => (N5.2.1 q hq).imp_right fun h => ⟨by omega, by simp; omega⟩, ?_⟩, fun q hq => (W5 q hq).imp_right fun h => ⟨by omega, by simp; omega⟩, ?_⟩
      · have t1 : Turn (fun k => A.own k ∨ w.heap.size ≤ k) w wr := (Turn.ofBelow B20).trans (N5.2.2.mono fun k _ hk => hk.imp_right fun h => by omega)
        refine ((t1.trans (Turn.ofBelow BW)).trans (Turn.setCell _ _ _ (.inl ?_))).mono fun k hl hk => hk.resolve_right (by omega)
        exact .inl hsb5
      · show wrap64 (m5.work + k) = _
        rw [hmw5, hwk5]
    by_cases hkn : (k : Int) < n
    · have hkn1 : decide ((k : Int) < n) = true := by simpa using hkn
      rcases hSe5.rel.fnd with ⟨f1, f2⟩ | ⟨en, wb, f1, f2, f3⟩
      · rw [f2] at c6
        replace c6 : wr.cell? ⟨A.sb, 6, none⟩ = some (.pointer none) := c6
        have hstep := se_step hp hc hs5 f1 hSe5
        rw [hsb5] at hstep
        go_wp2_with fail
        refine hstep.mono ?_
        rintro e w6 ⟨b6, m6, ids6, A6, Wy6, rfl, hSe6, N6, W6, hmw6⟩
        have hnb6 := hnb5.turn N6.2.2 (hno _ hnl.1 hnl2.1)
        have hvb6 := hvb5.turn N6.2.2 (hno _ hnl.2 hnl2.2)
        have N7 := N5.trans (fun k hk => .inl hk) N6
        have hk6 : (k : Int) ≤ 1048575 := by omega
        have cn6 : w6.cell? ⟨nb, 0, none⟩ = some (.int .i64 k) := hnb6.cell 0
        have zn6 : w6.frozen? ⟨nb, 0, none⟩ = false := hnb6.frozen 0
        have hfar : ∀ q, A6.has q ∨ Wy6 q → q ≠ nb := fun q hq => by
          rcases hq with (hq | hq) | hq
          · rintro rfl
            exact (N7.2.1 _ hq).elim hnl.1 fun h => by omega
          · have ho := hSe6.sr.old
            have hl := hSe6.sr.low.2.1
            have h1 := N7.1.1
            rcases hq with h | h | h | h <;> omega
          · rcases W6 q hq with h | h
            · rcases W5 q h with h | h
              · have := hWl q h; omega
              · omega
            · have := N5.2.2.size; omega
        have hstep2 : p.brun D most (k + 1) s = p.bstep D most (p.brun D most k s) := by rw [p.brun_snoc, f1]; rfl
        have hsk : (p.bstep D most (p.brun D most k s)).Ok p D most := hs5.step hc hm1 f1
        have hwk6 : (p.bstep D most (p.brun D most k s)).work = wrap64 (s.work + (k + 1 : Nat)) := by
          rw [p.bstep_work D most _ hm1 hs5.len, hwk5]
          unfold wrap64
          omega
        go_wp2
        go_roundw
        case measure =>
          unfold intAt
          rw [cn, (hnb6.setCell _).cell 0]
          show n.toNat - ((k : Int) + 1).toNat < n.toNat - (k : Int).toNat
          omega
        case rel =>
          refine ⟨k + 1, b6, m6, ids6, A6, Wy6, by omega, (hnb6.setCell _).cast rfl, hvb6.setOther (p := ⟨nb, 0, none⟩) (Ne.symm hvn) _, ?_, N7.set _ _ (.inr rfl), fun q hq => ?_, hmw6.trans hmw5, hstep2 ▸ hwk6, hstep2 ▸ hsk⟩
          · rw [hstep2]
            exact hSe6.far _ _ hfar
          · have := N6.2.2.size
            rcases W6 q hq with h | h
            · exact (W5 q h).imp_right fun h => ⟨h.1, by simp; omega⟩
            · exact .inr ⟨Nat.le_trans N5.2.2.size h.1, by simpa using h.2⟩
      · rw [f2] at c6
        replace c6 : wr.cell? ⟨A.sb, 6, none⟩ = some (.pointer (some ⟨wb, 0, none⟩)) := c6
        go_wp2
        refine leaves_cons (f := 54) (args := #[.pointer (some ⟨w.heap.size, 0, none⟩), .pointer (some ⟨nb, 0, none⟩)]) (by simp) (by simp [go_sem]) ?_
        refine (se_Run1 .returning _ hSe5.sr hvb5' hnb5).mono ?_
        rintro e u' w9 ⟨rfl, rfl, W, BW, rfl⟩
        have hF := fin (by
          obtain ⟨j, hj⟩ : ∃ j, n.toNat = k + j := ⟨n.toNat - k, by omega⟩
          rw [hj, p.brun_add, p.brun_done D most j (by rw [f1]; rfl)]) W BW
        rw [f1] at hF
        exact ⟨_, results_tmp2 (t := 4) (u := 5) rfl _ _ _, hF⟩
    · have hkn1 : decide ((k : Int) < n) = false := by simpa using hkn
      rcases hSe5.rel.fnd with ⟨f1, f2⟩ | ⟨en, wb, f1, f2, f3⟩
      · rw [f2] at c6
        replace c6 : wr.cell? ⟨A.sb, 6, none⟩ = some (.pointer none) := c6
        go_wp2
        refine leaves_cons (f := 54) (args := #[.pointer (some ⟨w.heap.size, 0, none⟩), .pointer (some ⟨nb, 0, none⟩)]) (by simp) (by simp [go_sem]) ?_
        refine (se_Run1 .returning _ hSe5.sr hvb5' hnb5).mono ?_
        rintro e u' w9 ⟨rfl, rfl, W, BW, rfl⟩
        have hF := fin (by rw [show n.toNat = k by omega]) W BW
        rw [f1] at hF
        exact ⟨_, results_tmp2 (t := 4) (u := 5) rfl _ _ _, hF⟩
      · rw [f2] at c6
        replace c6 : wr.cell? ⟨A.sb, 6, none⟩ = some (.pointer (some ⟨wb, 0, none⟩)) := c6
        go_wp2
        refine leaves_cons (f := 54) (args := #[.pointer (some ⟨w.heap.size, 0, none⟩), .pointer (some ⟨nb, 0, none⟩)]) (by simp) (by simp [go_sem]) ?_
        refine (se_Run1 .returning _ hSe5.sr hvb5' hnb5).mono ?_
        rintro e u' w9 ⟨rfl, rfl, W, BW, rfl⟩
        have hF := fin (by rw [show n.toNat = k by omega]) W BW
        rw [f1] at hF
        exact ⟨_, results_tmp2 (t := 4) (u := 5) rfl _ _ _, hF⟩
end Go.Proofs.YtnjmplapjnnjdaaGreat

/- Fano's machine, the program's: Path, Result, Run, the looks. -/
namespace Go.Proofs.YtnjmplapjnnjdaaGreat
open Go.RowKit

/-- THE ARM for 'make([]T, n)', the kind of block told. -/
theorem mkT {P : Program} {ops : Array Oper} {rest : List Oper} {l l' : List Value} {ds : List Deferred} {w : World} {Q : Exit → Act → World → Prop} {t e d size bytes : Nat} {n : Int} {kl kc : IntKind} {s x : Operand} {z : Value} {ty : TypeId} {ps : String} {af : Array Edge}
    [S : SlTy P t e] [E : ElTy P e z size bytes] (hs : (Act.mk l.toArray ds).eval s = .int kl n) (hx : (Act.mk l.toArray ds).eval x = .int kc n) (h0 : 0 ≤ n) (hb : (bytes : Int) * n ≤ 281474976710656) (h63 : n ≤ 9223372036854775807)
    (hl : l.set d (.slice (some ⟨w.heap.size, 0, none⟩) n.toNat n.toNat) = l')
    (h : ∀ w', BoxT w' w.heap.size (madeCells z.cells (n.toNat * size)) e → Below w.heap.size w w' → w'.heap.size = w.heap.size + 1 → wpList P ops Q rest ⟨l'.toArray, ds⟩ w') :
    wpList P ops Q (⟨some d, .makeSlice t s x, ty, ps, af, none⟩ :: rest) ⟨l.toArray, ds⟩ w := by
  obtain ⟨i, hi, hz0, hz1, hz2, hz3⟩ := E.out
  have hr := run_make (P := P) w t e i z S.out hi hz0 kl kc n n h0 (Int.le_refl _) (by rw [hz2]; exact hb) h63
  refine wpList_plain rfl fun K hK => ?_
  unfold Oper.wp execOp
  simp only [hs, hx, Sem.run_bind, hr, Result.andThen_ok, Sem.run_pure]
  rw [Oper.upon_value, put_list, hl]
  exact hK _ _ (h (w.alloc (.cells (madeCells z.cells (n.toNat * i.size)) e)) (by rw [← hz1]; exact heap_alloc_new w _) ((Below.refl _ w).alloc (Nat.le_refl _) _) (by simp))
theorem BoxT.setCell {w : World} {b i : Nat} {cs : Array Value} {t : TypeId} (h : BoxT w b cs t) (v : Value) : BoxT (w.setCell ⟨b, i, none⟩ v) b (cs.setIfInBounds i v) t := setCell_block w b i v cs t _ h
theorem BoxT.below {B : Nat} {w w' : World} {b : Nat} {cs : Array Value} {t : TypeId} (h : BoxT w b cs t) (hB : Below B w w') (hb : b < B) : BoxT w' b cs t := (hB.block b hb).trans h
theorem ownsN_load {w : World} {B : Nat} {e sz n c g : Nat} {xs : List Value} (h : w.ownsRow B e sz (.slice (some ⟨g, 0, none⟩) n c) n xs) {j m : Nat} (hj : j + m ≤ xs.length) : loadAgg w g j m = .ok (.agg ((xs.drop j).take m).toArray) w := by
  have hl := h.1
  rcases h.2 with ⟨h', _⟩ | ⟨g', cap, cur, hv, hb, hg, hnc, hcm, hcs, htake⟩
  · cases h'
  obtain ⟨rfl, rfl⟩ : g = g' ∧ c = cap := by simpa using hv
  have hle : n * sz ≤ c * sz := Nat.mul_le_mul_right _ hnc
  rw [loadAgg_block hg (by omega)]
  congr 2
  apply Array.ext'
  rw [Array.toList_extract, List.extract_eq_take_drop, ← htake, List.drop_take, List.take_take, Nat.add_sub_cancel_left]
  congr 1
  omega
end Go.Proofs.YtnjmplapjnnjdaaGreat
