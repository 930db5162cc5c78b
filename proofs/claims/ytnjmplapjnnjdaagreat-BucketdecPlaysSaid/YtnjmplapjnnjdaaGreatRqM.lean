import Derived.Test.YtnjmplapjnnjdaaGreatRqP
import Derived.Test.YtnjmplapjnnjdaaGreatFanoP
import Derived.Test.YtnjmplapjnnjdaaGreatDocLook
import Derived.Test.YtnjmplapjnnjdaaGreatSeSize
set_option linter.unusedSimpArgs false
set_option linter.unusedVariables false
set_option linter.unnecessarySimpa false
/- The search of layer 17, the document's: step. -/
namespace Go.Proofs.YtnjmplapjnnjdaaGreat
open Go.RowKit
set_option linter.unusedSimpArgs false
set_option linter.unusedVariables false

/-- THE ARM for a store of a whole struct into some cells of a block, which are named. -/
theorem stMidE {P : Program} {ops : Array Oper} {rest : List Oper} {l : List Value} {ds : List Deferred} {w : World} {Q : Exit → Act → World → Prop} {t n b o : Nat} {x y : Operand} {cs old : Array Value} {ty : TypeId} {ps : String} {af : Array Edge}
    (hx : (Act.mk l.toArray ds).eval x = .pointer (some ⟨b, o, none⟩)) [T : AggTy P t n] (hy : (Act.mk l.toArray ds).eval y = .agg cs) (hb : Box w b old) (ho : o + n ≤ old.size) (hn : cs.size = n) (hf : ∀ u ∈ cs.toList, u.oneCell' = true)
    (h : ∀ w', Box w' b (old.toList.take o ++ cs.toList ++ old.toList.drop (o + n)).toArray → (∀ k, k ≠ b → w'.heap[k]? = w.heap[k]?) → (w'.os = w.os ∧ w'.tape = w.tape ∧ w'.output = w.output ∧ w'.heap.size = w.heap.size) → wpList P ops Q rest ⟨l.toArray, ds⟩ w') : wpList P ops Q (⟨none, .store t x y, ty, ps, af, none⟩ :: rest) ⟨l.toArray, ds⟩ w := by
  obtain ⟨d, h1, h2, h3⟩ := T.out
  obtain ⟨tb, hb⟩ := hb
  have hr := run_storeCells_at P b o tb cs.toList 0 old w hb (by simp; omega) hf
  refine wpList_plain rfl fun K hK => ?_
  unfold Oper.wp execOp
  cases hq : P.info? t with
  | none => simp [hq] at h3
  | some i =>
    have hsz : i.size = n := by simpa [hq] using h3
    simp only [hx, hy, Instr.storeAt, Instr.sureAddr, Sem.run_bind, Sem.run_pure, Result.andThen_ok, storeVar, sizeOf, typeInfo, program, Sem.run, hq, hsz, Value.cells, hn, ne_eq, not_true_eq_false, if_false, hr]
    have hR := setRow_heap w b old (old.toList.take o ++ cs.toList ++ old.toList.drop (o + n)).toArray tb _ hb
    have e : cs.toList.length = n := by rw [Array.length_toList, hn]
    refine hK _ _ (h _ ⟨tb, ?_⟩ (fun k hk => setRow_other w b k _ hk) ⟨rfl, rfl, rfl, by simp⟩)
    simp only [Nat.add_zero, e]
    exact hR
theorem rq_found_cells {p : Pb} (hp : p.Ok) {D : Int} {most n : Nat} {s : Bq} {fv v : Value} {A : RA} {e : Ent} :
    (((rqCells p D most s n fv A).setIfInBounds 48 (.bool true)).toList.take 49 ++ (rqCell (e, v)).toArray.toList ++ ((rqCells p D most s n fv A).setIfInBounds 48 (.bool true)).toList.drop (49 + 4)).toArray = rqCells p D most { s with found := some e } n v A := by
  have hl : (p.cells (.slice (some ⟨A.g, 0, none⟩) p.B.length A.c)).toList.length = 40 := by rw [Array.length_toList, hp.size]
  apply Array.ext'
  unfold rqCells
  rw [Array.toList_setIfInBounds, Array.toList_append, Array.toList_append]
  generalize (p.cells (.slice (some ⟨A.g, 0, none⟩) p.B.length A.c)).toList = pl at hl
  rw [List.set_append_right _ _ (by omega), List.take_append, List.drop_append, List.take_of_length_le (by omega), List.drop_of_length_le (by omega), hl]
  simp [rqTail, rqCell]
theorem Rq.found {w w' : World} {p : Pb} {D : Int} {most : Nat} {s : Bq} {es : List (Ent × Value)} {fv v : Value} {A : RA} {Ow : Nat → Prop} {e : Ent} (h : Rq w p D most s es fv A Ow) (hb : Box w' A.sb (rqCells p D most { s with found := some e } es.length v A)) (hk : ∀ k, k ≠ A.sb → w'.heap[k]? = w.heap[k]?) (hs : w.heap.size ≤ w'.heap.size) (hv : BitsAt w Ow v e.bs) :
    Rq w' p D most { s with found := some e } es v A Ow := by
  obtain ⟨n1, n2, n3⟩ := h.ne
  have far : ∀ k, Ow k → k < w.heap.size → w'.heap[k]? = w.heap[k]? := fun k hk' _ => hk k (h.ow k hk').1.1
  exact ⟨hb, h.tree.same fun k hk' => hk k (by rcases hk' with rfl | rfl; exact Ne.symm n2.1; exact Ne.symm n2.2), ownsN_block h.list fun k hk' => hk k (by rw [← Option.some.inj hk']; exact Ne.symm n1), h.ents, fun x hx => (h.bits x hx).same far fun _ h => h, hv.same far fun _ h => h, h.ne, fun k hk' => ⟨(h.ow k hk').1, Nat.lt_of_lt_of_le (h.ow k hk').2 hs⟩, Nat.lt_of_lt_of_le h.glt hs⟩
def KidI (nb bb : Nat) (l : List Nd) (bs : List Nat) (W : World) : Prop := Box W nb (ndCells l) ∧ Box W bb (u8s bs).toArray
def RqStepPost (p : Pb) (D : Int) (most : Nat) (s' : Bq) (A : RA) (Ow : Nat → Prop) (w : World) (e : Ending) (w' : World) : Prop :=
  e = .returned (.tuple #[]) ∧ (∃ es' fv' g c Ow', Rq w' p D most s' es' fv' { A with lb := g, cap := c } Ow' ∧ (g = A.lb ∨ w.heap.size ≤ g) ∧ ∀ k, Ow' k → Ow k ∨ (w.heap.size ≤ k ∧ k < w'.heap.size)) ∧ Turn (fun k => k = A.sb ∨ k = A.lb) w w'
theorem Ent.Ok.m_bd {p : Pb} (h : probChk p = 0) {e : Ent} (he : e.Ok p) : -100000000 ≤ e.n.m ∧ e.n.m ≤ 100000000 := by
  have e1 := he.nd
  have := p.nd_bd h e.bs e.bs.length
  rw [e1]
  omega
theorem puts_ok {p : Pb} {D : Int} {most : Nat} (hm : 1 ≤ most) : ∀ (l : List Ent) {s : Bq}, s.L.length ≤ most → (∀ e ∈ s.L, e.Ok p) → (∀ e ∈ l, e.Ok p) → (l.foldl (Bq.put D most) s).L.length ≤ most ∧ ∀ e ∈ (l.foldl (Bq.put D most) s).L, e.Ok p
  | [], s, h1, h2, _ => ⟨h1, h2⟩
  | x :: l, s, h1, h2, h3 => by
    obtain ⟨a1, a2, _⟩ := s.put_facts (D := D) hm h1 x
    exact puts_ok hm l a2 (fun e he => (a1 e he).elim (h2 e) fun e' => by rw [e']; exact h3 x (by simp)) (fun e he => h3 e (by simp [he]))
set_option maxRecDepth 5000 in
set_option maxHeartbeats 1000000 in
theorem rq_step {w : World} {p : Pb} (hp : p.Ok) (hc : probChk p = 0) {D : Int} (hD : 1 ≤ D) {most : Nat} (hmost : most ≤ 65536) {s : Bq} (hs : s.Ok p D most) (hf : s.found = none) {es : List (Ent × Value)} {fv : Value} {A : RA} {Ow : Nat → Prop} (h : Rq w p D most s es fv A Ow) :
    Calls Tryz.prog 56 #[.pointer (some ⟨A.sb, 0, none⟩)] w (RqStepPost p D most (p.bstep D most s) A Ow w) := by
  have hne := hs.ne hf
  have hlen := h.len
  have hsl := hs.len
  have hmem : ∀ x ∈ es, x.1.Ok p := fun x hx => hs.ents x.1 (by rw [← h.ents]; exact List.mem_map_of_mem hx)
  have hmm : ∀ x ∈ es, -100000000 ≤ x.1.n.m ∧ x.1.n.m ≤ 100000000 := fun x hx => (hmem x hx).m_bd hc
  have hnx := rq_next hp hD h (by omega) (by omega) hmm
  have hlt := nextIx_lt (D := D) hne
  obtain ⟨nx, hnxe⟩ : ∃ nx, nx = nextIx D s.L := ⟨_, rfl⟩
  rw [← hnxe] at hnx hlt
  obtain ⟨x, hx⟩ : ∃ x, es[nx]? = some x := ⟨_, List.getElem?_eq_getElem (by omega)⟩
  have hxo := hmem x (List.mem_of_getElem? hx)
  have hxb := h.bits x (List.mem_of_getElem? hx)
  have hbest : s.best D = x.1 := by
    unfold Bq.best
    rw [← hnxe, List.getD_eq_getElem?_getD, ← h.ents, List.getElem?_map, hx]
    rfl
  obtain ⟨en, hen⟩ : ∃ en, en = x.1 := ⟨_, rfl⟩
  obtain ⟨xv, hxv⟩ : ∃ xv, xv = x.2 := ⟨_, rfl⟩
  have hxe : x = (en, xv) := by rw [hen, hxv]
  have hstep : p.bstep D most s = if en.n.d = p.N then { s with L := s.L.eraseIdx nx, work := wrap64 (s.work + 1), found := some en } else (p.kidEnts en).foldl (Bq.put D most) { s with L := s.L.eraseIdx nx, work := wrap64 (s.work + 1) } := by
    unfold Pb.bstep
    rw [hbest, ← hen, ← hnxe]
  rw [← hen] at hxo hxb
  rw [← hxv] at hxb
  have HSTEP := Lib.hid hstep
  have HXE := Lib.hid hxe
  have HL := Lib.hid (And.intro hlen hsl)
  have HMM := Lib.hid hmm
  have HMEM := Lib.hid hmem
  clear hstep hbest hnxe hen hxv hlt hmem hmm hlen hsl hne
  go_enter Tryz.func56, Tryz.ntmps56
  go_wp2_with fail
  refine hnx.mono ?_
  rintro e w1 ⟨rfl, B1⟩
  have h1 := h.kept B1
  have hout := rq_out hp h1 hx (by have := HL.out; omega)
  clear hnx
  go_wp2_with fail
  refine hout.mono ?_
  rintro e w2 ⟨rfl, ⟨g2, c2, h2, hg2⟩, T2⟩
  have hfl := rq_flat (x := x) (by obtain ⟨a, c, e, _⟩ := hxb; exact ⟨a, _, c, by rw [HXE.out]; exact e⟩)
  have hone := rqCell_one (x := x) (by rw [HXE.out]; exact hxb.one)
  obtain ⟨X, hX⟩ : ∃ X, X = (rqCell x).toArray := ⟨_, rfl⟩
  have hXs : X.size = 4 := by rw [hX]; rfl
  have hX2 : X = (rqCell (en, xv)).toArray := by rw [hX, HXE.out]
  rw [← hX] at hfl ⊢
  have HX := Lib.hid hX2
  have HXS := Lib.hid hXs
  have HONE := Lib.hid hone
  have bz := Box.new w2 #[.int .u32 0, .int .i64 0, .int .i64 0, .slice none 0 0] 77
  clear hX hXs hX2 hone hout h1
  go_upto_region 1 with ((with_reducible apply stO); rfl; rfl; exact bz; rfl; exact HXS.out; exact hfl; intro w3 b3 B3 ho3 hs3)
  have B3' : Below w2.heap.size w2 w3 := ((Below.refl _ w2).alloc (Nat.le_refl _) _).trans B3
  have h3 : Rq w3 p D most { s with L := s.L.eraseIdx nx } (es.eraseIdx nx) fv { A with lb := g2, cap := c2 } Ow := h2.kept B3'
  have hxb3 : BitsAt w3 Ow xv en.bs := hxb.same (fun k hk hl => by
    have h4 := (h.ow k hk)
    exact (B3'.block k (Nat.lt_of_lt_of_le hl (Nat.le_trans B1.size T2.size))).trans ((T2.block k (Nat.lt_of_lt_of_le hl B1.size) h4.1.1).trans (B1.block k hl))) fun _ h => h
  have T3 : Turn (fun k => k = A.sb ∨ k = A.lb) w w3 := ((Turn.ofBelow B1).trans (T2.mono fun k _ hk => .inl hk)).trans (Turn.ofBelow B3')
  have hg3 : w.heap.size ≤ g2 := Nat.le_trans B1.size hg2
  have hxg : w.heap.size ≤ w2.heap.size := Nat.le_trans B1.size T2.size
  have hxl : w2.heap.size < w3.heap.size := b3.lt
  obtain ⟨xb, hxbe⟩ : ∃ xb, xb = w2.heap.size := ⟨_, rfl⟩
  rw [← hxbe] at b3 hxg hxl ⊢
  have hfar : ∀ k, ({ A with lb := g2, cap := c2 } : RA).has k ∨ Ow k → k < xb := fun k hk => by
    rw [hxbe]
    exact hk.elim h2.hasLt fun hk => (h2.ow k hk).2
  have HFAR := Lib.hid hfar
  clear hfar hxbe bz ho3 hs3 B3 B3' h2 hxb B1 T2 hfl
  have hA := h3.at_ hp
  have c44 : w3.cell? ⟨A.sb, 44, none⟩ = some (.int .i64 s.work) := hA.c44
  have z44 : w3.frozen? ⟨A.sb, 44, none⟩ = false := hA.fz 44
  have h4 := h3.work hp (wrap64 (s.work + 1))
  have T4 := T3.set (q := ⟨A.sb, 44, none⟩) (.inl rfl) (.int .i64 (wrap64 (s.work + 1)))
  have hsx : A.sb < xb := HFAR.out A.sb (.inl (.inl rfl))
  have b4 : Box (w3.setCell ⟨A.sb, 44, none⟩ (.int .i64 (wrap64 (s.work + 1)))) xb X := b3.setOther (p := ⟨A.sb, 44, none⟩) (by show A.sb ≠ xb; omega) _
  have hxb4 : BitsAt (w3.setCell ⟨A.sb, 44, none⟩ (.int .i64 (wrap64 (s.work + 1)))) Ow xv en.bs := hxb3.same (fun k hk _ => Below.heap_setCell _ _ _ _ (h3.ow k hk).1.1) fun _ h => h
  have hl4 : xb < (w3.setCell ⟨A.sb, 44, none⟩ (.int .i64 (wrap64 (s.work + 1)))).heap.size := by simpa using hxl
  clear hA
  go_upto_region 2 with fail
  refine nameAny (fun W => Rq W p D most { s with L := s.L.eraseIdx nx, work := wrap64 (s.work + 1) } (es.eraseIdx nx) fv { A with lb := g2, cap := c2 } Ow ∧ Turn (fun k => k = A.sb ∨ k = A.lb) w W ∧ Box W xb X ∧ BitsAt W Ow xv en.bs ∧ xb < W.heap.size) ⟨h4, T4, b4, hxb4, hl4⟩ ?_
  clear h4 T4 b4 hxb4 hl4 c44 z44 h3 T3 b3 hxb3 hxl
  rintro w4 ⟨h4, T4, b4, hxb4, hl4⟩
  have c40 : w4.cell? ⟨A.sb, 40, none⟩ = some (.pointer (some ⟨A.tb, 0, none⟩)) := (h4.at_ hp).c40
  have gx : loadAgg w4 xb 0 3 = .ok (.agg en.n.cells) w4 := b4.load (by rw [HXS.out]; omega) (by rw [HX.out]; rfl)
  have htree : DocIn w4 p A.tb A.g A.c := h4.tree
  refine wp_region_kept (by kernel_rfl) (by kernel_rfl) ?_
  have q40 := KeptW.cell c40
  repeat first
    | ((with_reducible apply q_ld); rfl; (with_reducible assumption); (simp only [List.set_cons_zero, List.set_cons_succ]; rfl))
    | go_big_quiet_step (exact Calls.kept (doc_Leaf p hp hc en.n _ (htree.kept (Subtype.property _))))
  refine wpQuiet_nil ?_
  intro w5 B5
  have h5 := h4.kept B5
  have T5 := T4.on B5
  have b5 := b4.kept B5
  have hxb5 : BitsAt w5 Ow xv en.bs := hxb4.same (fun k hk hl => B5.block k hl) fun _ h => h
  have hl5 : xb < w5.heap.size := Nat.lt_of_lt_of_le hl4 B5.size
  clear q40 c40 gx htree h4 T4 b4 hxb4 hl4 B5
  by_cases hd : en.n.d = p.N
  · have hd1 : (en.n.d == p.N) = true := by simpa using hd
    have hst := HSTEP.out
    rw [if_pos hd] at hst
    have HS := Lib.hid hst
    have c48 : w5.cell? ⟨A.sb, 48, none⟩ = some (.bool s.found.isSome) := (h5.at_ hp).c48
    have z48 : w5.frozen? ⟨A.sb, 48, none⟩ = false := (h5.at_ hp).fz 48
    have hbs := h5.box.setCell (i := 48) (.bool true)
    have b6 := b5.setOther (p := ⟨A.sb, 48, none⟩) (by show A.sb ≠ xb; omega) (.bool true)
    have hk6 : ∀ k, k ≠ A.sb → (w5.setCell ⟨A.sb, 48, none⟩ (.bool true)).heap[k]? = w5.heap[k]? := fun k hk => Below.heap_setCell _ _ _ _ hk
    have hs6 : (w5.setCell ⟨A.sb, 48, none⟩ (.bool true)).heap.size = w5.heap.size := by simp
    have T6 := T5.set (q := ⟨A.sb, 48, none⟩) (.inl rfl) (.bool true)
    clear hst hd
    go_upto_region 4 with fail
    refine nameAny (fun W => Box W A.sb ((rqCells p D most { s with L := s.L.eraseIdx nx, work := wrap64 (s.work + 1) } (es.eraseIdx nx).length fv { A with lb := g2, cap := c2 }).setIfInBounds 48 (.bool true)) ∧ Box W xb X ∧ Hid (∀ k, k ≠ A.sb → W.heap[k]? = w5.heap[k]?) ∧ Hid (W.heap.size = w5.heap.size) ∧ Turn (fun k => k = A.sb ∨ k = A.lb) w W) ⟨hbs, b6, Lib.hid hk6, Lib.hid hs6, T6⟩ ?_
    clear hbs b6 hk6 hs6 T6 c48 z48
    rintro w6 ⟨hbs, b6, hk6, hs6, T6⟩
    have gx4 : loadAgg w6 xb 0 4 = .ok (.agg X) w6 := b6.load (by rw [HXS.out]; exact Nat.le_refl _) (Array.extract_eq_self_of_le (by rw [HXS.out]; exact Nat.le_refl _))
    have hbsz : ((rqCells p D most { s with L := s.L.eraseIdx nx, work := wrap64 (s.work + 1) } (es.eraseIdx nx).length fv { A with lb := g2, cap := c2 }).setIfInBounds 48 (.bool true)).size = 53 := by
      rw [Array.size_setIfInBounds]
      unfold rqCells
      rw [Array.size_append, hp.size]
      rfl
    have HBSZ := Lib.hid hbsz
    clear hbsz
    have hone : ∀ u ∈ X.toList, u.oneCell' = true := by rw [HX.out, ← HXE.out]; exact HONE.out
    have HON := Lib.hid hone
    clear hone
    go_wp2_with (first | ((with_reducible apply ld); rfl; (with_reducible assumption); (simp only [List.set_cons_zero, List.set_cons_succ]; rfl)) | ((with_reducible apply stMidE (o := 49)); rfl; rfl; exact hbs; (rw [HBSZ.out]; decide); exact HXS.out; exact HON.out; intro w7 b7 hk7 hs7))
    refine bodyPost_end (results_nil rfl) rfl ?_
    rw [HX.out, rq_found_cells hp] at b7
    have hF := h5.found (e := en) (v := xv) (w' := w7) b7 (fun k hk => (hk7 k hk).trans (hk6.out k hk)) (Nat.le_of_eq (hs6.out.symm.trans hs7.2.2.2.symm)) hxb5
    rw [HS.out]
    exact (show RqStepPost _ _ _ _ _ _ _ _ _ from ⟨rfl, ⟨_, _, g2, c2, Ow, hF, .inr hg3, fun k hk => .inl hk⟩, T6.trans ⟨hs7.1, hs7.2.1, hs7.2.2.1, Nat.le_of_eq hs7.2.2.2.symm, fun k hk hn => hk7 k fun e => hn (.inl e)⟩⟩)
  · have hd1 : (en.n.d == p.N) = false := by simpa using hd
    rw [hd1]
    clear hd1
    have hst := HSTEP.out
    rw [if_neg hd] at hst
    have HS := Lib.hid hst
    clear hst
    have hNb := Pb.N_le hc
    have hin : p.In en.n := by
      have hl := hxo.len
      have hxd : en.n.d = (en.bs.length : Int) := by rw [hxo.nd]; rfl
      have hlt : (en.bs.length : Int) < p.N := by omega
      rw [hxo.nd]
      exact Pb.nd_in _ hlt
    have c40 : w5.cell? ⟨A.sb, 40, none⟩ = some (.pointer (some ⟨A.tb, 0, none⟩)) := (h5.at_ hp).c40
    have gx : loadAgg w5 xb 0 3 = .ok (.agg en.n.cells) w5 := b5.load (by rw [HXS.out]; omega) (by rw [HX.out]; rfl)
    have htree : DocIn w5 p A.tb A.g A.c := h5.tree
    go_upto_region 5 with fail
    (refine wp_region_call 6 (by kernel_rfl) (by kernel_rfl) rfl rfl (by kernel_rfl) rfl ?_; simp only [List.take_succ_cons, List.take_zero])
    have q40 := KeptW.cell c40
    repeat first
      | ((refine det_plain rfl ?_); ((with_reducible apply q_ld); rfl; (with_reducible assumption); (simp only [List.set_cons_zero, List.set_cons_succ]; rfl)); (refine wpQuiet_nil ?_))
      | ((with_reducible apply det_nilG); rfl; rfl; (simp only [List.set_cons_zero, List.set_cons_succ]; rfl))
      | ((refine det_plain rfl ?_); (go_big_quiet_step (fail)); (refine wpQuiet_nil ?_))
    refine wpDet_nil ?_
    refine fr_call (fun v w' => ∃ nb bb, v = .tuple #[.slice (some ⟨nb, 0, none⟩) (p.kids en.n).length (p.kids en.n).length, .slice (some ⟨bb, 0, none⟩) (p.kidBits en.n).length (p.kidBits en.n).length] ∧ Box w' nb (ndCells (p.kids en.n)) ∧ Box w' bb (u8s (p.kidBits en.n)).toArray ∧ w5.heap.size ≤ nb ∧ w5.heap.size ≤ bb) rfl inferInstance rfl ?_ ?_ ?_
    · exact fun v x y hx ⟨nb, bb, e1, e2, e3, e4, e5⟩ => ⟨nb, bb, e1, e2.kept hx, e3.kept hx, e4, e5⟩
    · intro w6 B6
      refine (doc_Kids p hp hc en.n hin _ (htree.kept B6)).mono ?_
      rintro e w7 ⟨⟨nb, bb, rfl, x1, x2, x3, x4, x5⟩, B7⟩
      exact ⟨⟨_, rfl, nb, bb, rfl, x1, x2, Nat.le_trans B6.size x4, Nat.le_trans B6.size x5⟩, B7⟩
    rintro v ⟨_, _, nb, bb, rfl, _, _, x4, x5⟩
    simp only [List.set_cons_zero, List.set_cons_succ]
    repeat first
      | ((refine det_plain rfl ?_); (go_big_quiet_step (fail)); (refine wpQuiet_nil ?_))
    refine wpDet_nil ?_
    rintro w6 B6 ⟨_, nb', bb', hv, x1, x2, _, _⟩
    obtain ⟨rfl, rfl⟩ : nb = nb' ∧ bb = bb' := by simpa using hv
    have h6 := h5.kept B6
    have T6 := T5.on B6
    have b6 := b5.kept B6
    have hxb6 : BitsAt w6 Ow xv en.bs := hxb5.same (fun k hk hl => B6.block k hl) fun _ h => h
    have hkb : (p.kidBits en.n).length = (p.kids en.n).length := p.kbits_len en.n
    have hs56 : w5.heap.size ≤ w6.heap.size := B6.size
    have hnl6 : nb < w6.heap.size ∧ bb < w6.heap.size := ⟨x1.lt, x2.lt⟩
    clear q40 c40 gx htree h5 T5 b5 hxb5 B6 hv
    obtain ⟨s2, hs2⟩ : ∃ s2, s2 = ({ s with L := s.L.eraseIdx nx, work := wrap64 (s.work + 1) } : Bq) := ⟨_, rfl⟩
    rw [← hs2] at h6 HS
    have hm1 : 1 ≤ most := by
      have h8 := hs.ne hf
      have := HL.out.2
      omega
    have hs2l : s2.L.length ≤ most := by rw [hs2]; exact Nat.le_trans (List.length_eraseIdx_le ..) HL.out.2
    have hs2o : ∀ e ∈ s2.L, e.Ok p := by rw [hs2]; exact fun e he => hs.ents e (List.mem_of_mem_eraseIdx he)
    have hkids := hxo.kids hc hd
    have HPO := Lib.hid (fun k => puts_ok (D := D) hm1 ((p.kidEnts en).take k) hs2l hs2o (fun e he => (hkids e (List.mem_of_mem_take he)).1))
    have HKID := Lib.hid hkids
    clear hs2 hs2l hs2o hkids
    obtain ⟨l, hl⟩ : ∃ l, l = p.kids en.n := ⟨_, rfl⟩
    obtain ⟨bs, hbs⟩ : ∃ l, l = p.kidBits en.n := ⟨_, rfl⟩
    rw [← hl, ← hbs] at hkb
    rw [← hl] at x1 ⊢
    rw [← hbs] at x2 ⊢
    have HLL := Lib.hid hl
    have HB := Lib.hid hbs
    have hl2 : l.length ≤ 2 := HLL.out ▸ p.kids_len en.n
    have HKB := Lib.hid hkb
    have hnx : nb ≠ xb ∧ bb ≠ xb := by omega
    clear hl hbs hkb
    go_wp2_with fail
    go_loopw [5] (fun i wr => ∃ (k : Nat) (es' : List (Ent × Value)) (g c : Nat) (Ow' : Nat → Prop), k ≤ l.length ∧ i = .int .i64 k ∧ Rq wr p D most (((p.kidEnts en).take k).foldl (Bq.put D most) s2) es' fv { A with lb := g, cap := c } Ow' ∧ w.heap.size ≤ g ∧ (∀ q, Ow' q → Ow q ∨ (w.heap.size ≤ q ∧ q < wr.heap.size)) ∧ (∀ q, ({ A with lb := g, cap := c } : RA).has q ∨ Ow' q → q ≠ xb ∧ q ≠ nb ∧ q ≠ bb) ∧ BitsAt wr Ow' xv en.bs ∧ Box wr xb X ∧ Box wr nb (ndCells l) ∧ Box wr bb (u8s bs).toArray ∧ Turn (fun k => k = A.sb ∨ k = A.lb) w wr) (fun i _ => l.length - (intOf i).toNat)
    case atStart => exact ⟨0, es.eraseIdx nx, g2, c2, Ow, Nat.zero_le _, rfl, h6, hg3, fun q hq => .inl hq, fun q hq => by have := HFAR.out q hq; omega, hxb6, b6, x1, x2, T6⟩
    case round =>
      clear h6 hxb6 b6 x1 x2 T6
      obtain ⟨k, es7, g7, c7, Ow7, hk, rfl, h7, hg7, hO7, hF7, hxb7, b7, x17, x27, T7⟩ := hrel
      have HF7 := Lib.hid hF7
      have HO7 := Lib.hid hO7
      clear hF7 hO7
      by_cases hkl : k < l.length
      · have hk2 : decide ((k : Int) < l.length) = true := by simp; omega
        have hk3 : (k : Int) < l.length := by omega
        obtain ⟨kn, hkn⟩ : ∃ kn, l[k]? = some kn := ⟨_, List.getElem?_eq_getElem hkl⟩
        obtain ⟨kb, hkbt⟩ : ∃ kb, bs[k]? = some kb := ⟨_, List.getElem?_eq_getElem (by have := HKB.out; omega)⟩
        obtain ⟨ax, cx, hxv, hby, hlc, hob⟩ := hxb7
        have hbl : en.bs.length ≤ 1100 := by have := hxo.len; omega
        have gbx : wr.cell? ⟨xb, 3, none⟩ = some (.slice ax en.bs.length cx) := by rw [b7.cell 3, HX.out, ← hxv]; rfl
        have BA : Below wr.heap.size wr (wr.alloc (.cells #[] 5)) := (Below.refl _ wr).alloc (Nat.le_refl _) _
        have gbA := (BA.cell (lt_of_cell gbx)).trans gbx
        have hown : (wr.alloc (.cells #[] 5)).ownsRow wr.heap.size 5 1 (.slice (some ⟨wr.heap.size, 0, none⟩) 0 0) 0 [] := World.ownsRow_lit (e := 5) (size := 1) wr #[] 0 (Nat.le_refl _) (by decide) rfl
        have hbyA := hby.kept BA
        have HXV := Lib.hid hxv
        clear hxv
        go_upto_region 10 with (at_builtin; refine apB hown hbyA rfl rfl rfl (by omega) (by simp) ?_; intro v8 w8 hown8 hgr8 hat8; have B8' := own_below hown hgr8 (by simp); obtain ⟨g8, c8, rfl, hc8, hg8⟩ := doc_form hown8 hat8)
        have B8 : Below wr.heap.size wr w8 := BA.trans B8'
        have h8 := h7.kept B8
        have x18 := x17.kept B8
        have x28 := x27.kept B8
        have b8 := b7.kept B8
        have T8 := T7.on B8
        simp only [Nat.zero_add, List.nil_append] at hown8
        have hown8' : w8.ownsRow 0 5 1 (.slice (some ⟨g8, 0, none⟩) en.bs.length c8) en.bs.length (u8s en.bs) := owns_base hown8 (Nat.zero_le _)
        clear hown hbyA gbA BA B8' hgr8 hat8 hown8 gbx
        have hkb2 : (k : Int) < bs.length := by have := HKB.out; omega
        have hkb3 : k < bs.length := by have := HKB.out; omega
        have gk := fun W (hI : KidI nb bb l bs W) => (nd_cell hI.1 hkn).1
        have GK := Lib.hid gk
        clear gk
        (refine wp_region_treeT (KidI nb bb l bs) 13 (.free 0 (.free 1 (.free 2 (.free 3 (.pure 4 (.free 5 (.free 6 (.free 7 (.free 8 (.one 9 (.one 10 (.one 11 (.free 12 (.one 13 .nil)))))))))))))) (by kernel_rfl) (by kernel_rfl) ?_; simp only [List.getD_cons_zero, List.getD_cons_succ, wpOVI])
        intro w9 B9
        have I9 : KidI nb bb l bs w9 := ⟨x18.kept B9, x28.kept B9⟩
        iterate 4
          refine ⟨rfl, _, fun W => by go_simp; first | done | rfl, ?_⟩
          try simp only [put_list, List.set_cons_zero, List.set_cons_succ]
        refine ⟨fun _ => I9, .agg kn.cells, fun W hI => pure_ldR rfl (GK.out W hI), ?_⟩
        try simp only [put_list, List.set_cons_zero, List.set_cons_succ]
        iterate 4
          refine ⟨rfl, _, fun W => by go_simp; first | done | rfl, ?_⟩
          try simp only [put_list, List.set_cons_zero, List.set_cons_succ]
        refine ⟨fun _ => I9, ?_⟩
        have cb := bit_cell I9.2 hkbt
        have BU : Below w9.heap.size w9 (w9.alloc (.cells #[.int .u8 kb] 5)) := (Below.refl _ w9).alloc (Nat.le_refl _) _
        have own9 := (ownsN_block (w' := w9) hown8' fun q hq => B9.block q (World.ownsRow.lt hown8' q hq).2).alloc (.cells #[.int .u8 kb] 5)
        have HN9 := Lib.hid (alloc_cells_new w9 [.int .u8 kb] 5)
        go_wp2_with fail
        have IU : KidI nb bb l bs (w9.alloc (.cells #[.int .u8 kb] 5)) := ⟨I9.1.kept BU, I9.2.kept BU⟩
        refine ⟨IU, ?_⟩
        refine apR (us := [.int .u8 kb]) (g := g8) (n := en.bs.length) (cap := c8) (m := 1) (xs := u8s en.bs) (base := 0) rfl rfl own9 (by decide) rfl HN9.out (by intro u hu; simp at hu; rw [hu]; rfl) (by omega) (by omega) (Nat.zero_le _) ?_
        intro g10 c10 w10 hO10 hg10
        refine ⟨rfl, ?_⟩
        have hw89 : wr.heap.size ≤ w9.heap.size := Nat.le_trans B8.size B9.size
        obtain ⟨hg11, B10⟩ := apR_below (B := wr.heap.size) (Nat.le_trans hw89 BU.size) hg8 hg10
        have BR : Below wr.heap.size wr w10 := (B8.trans (B9.mono B8.size)).trans ((BU.mono hw89).trans B10)
        have I10 : KidI nb bb l bs w10 := ⟨x17.kept BR, x27.kept BR⟩
        refine ⟨.agg #[.int .u32 kn.s, .int .i64 kn.d, .int .i64 kn.m, .slice (some ⟨g10, 0, none⟩) (en.bs.length + 1) c10], fun W => by simp only [Nd.cells, nodeCells]; go_simp; first | done | rfl, ?_⟩
        try simp only [put_list, List.set_cons_zero, List.set_cons_succ]
        refine ⟨I10, ?_⟩
        have hke : (p.kidEnts en)[k]? = some ⟨kn, en.bs ++ [kb], min en.dip kn.m⟩ := p.kidEnts_get en (HLL.out ▸ hkn) (HB.out ▸ hkbt)
        obtain ⟨hkok, hkd⟩ := HKID.out _ (List.mem_of_getElem? hke)
        have h10 := h7.kept BR
        have hOn : ∀ q, (Ow7 q ∨ q = g10) → (q ≠ A.sb ∧ q ≠ g7) ∧ q < w10.heap.size := fun q hq => by
          have hsz := BR.size
          rcases hq with hq | rfl
          · have h1 := h7.ow q hq
            exact ⟨h1.1, by omega⟩
          · have h1 : A.sb < wr.heap.size := h7.hasLt (.inl rfl)
            have h2 : g7 < wr.heap.size := h7.hasLt (.inr (.inl rfl))
            exact ⟨by omega, ownsN_lt hO10⟩
        have h11 := h10.more (Ow' := fun q => Ow7 q ∨ q = g10) (fun q hq => .inl hq) hOn
        obtain ⟨XE, hXE⟩ : ∃ XE : Ent × Value, XE = (⟨kn, en.bs ++ [kb], min en.dip kn.m⟩, .slice (some ⟨g10, 0, none⟩) (en.bs.length + 1) c10) := ⟨_, rfl⟩
        have hby10 : Bytes w10 (some ⟨g10, 0, none⟩) (en.bs ++ [kb]) := own_bytes (bs := en.bs ++ [kb]) (by simpa [u8s] using hO10) (fun b hb => by
          rcases List.mem_append.1 hb with hb | hb
          · have := hxo.lt b hb; omega
          · have := hkok.lt b (by simp at hb; simp [hb])
            omega)
        have hbx : BitsAt w10 (fun q => Ow7 q ∨ q = g10) XE.2 XE.1.bs := by
          rw [hXE]
          exact ⟨some ⟨g10, 0, none⟩, c10, by simp, hby10, by simpa using ownsN_cap hO10, fun b o s' e => .inr (by simp at e; exact e.1.symm)⟩
        have hpo := HPO.out k
        have hlen7 : es7.length ≤ most := by rw [h7.len]; exact hpo.1
        have hmm : ∀ y ∈ es7 ++ [XE], -100000000 ≤ y.1.n.m ∧ y.1.n.m ≤ 100000000 := fun y hy => by
          rcases List.mem_append.1 hy with hy | hy
          · exact (hpo.2 y.1 (by rw [← h7.ents]; exact List.mem_map_of_mem hy)).m_bd hc
          · rw [List.mem_singleton.1 hy, hXE]
            exact hkok.m_bd hc
        have hput := rq_put hp hD hmost h11 hlen7 (x := XE) hbx hmm
        have hXc : (rqCell XE).toArray = #[.int .u32 kn.s, .int .i64 kn.d, .int .i64 kn.m, .slice (some ⟨g10, 0, none⟩) (en.bs.length + 1) c10] := by rw [hXE]; rfl
        rw [hXc] at hput
        refine one_call rfl rfl inferInstance rfl ?_
        refine hput.mono ?_
        rintro e w11 ⟨rfl, ⟨es11, g11, c11, hN, hgN⟩, T11⟩
        refine ⟨_, rfl, rfl, ?_⟩
        have T11 : Turn (fun q => q = A.sb ∨ q = g7) w10 w11 := T11
        have hsz1 := BR.size
        have hsz2 := T11.size
        have hsz3 := T7.size
        have hxl7 := b7.lt
        have hnl7 := x17.lt
        have hbl7 := x27.lt
        have hF7 := HF7.out
        have hO7 := HO7.out
        have hgl7 : g7 < wr.heap.size := h7.hasLt (.inr (.inl rfl))
        have hN12 : Rq w11 p D most (((p.kidEnts en).take (k + 1)).foldl (Bq.put D most) s2) es11 fv { A with lb := g11, cap := c11 } (fun q => Ow7 q ∨ q = g10) := by
          have e : (p.kidEnts en).take (k + 1) = (p.kidEnts en).take k ++ [XE.1] := by rw [List.take_add_one, hke, hXE]; rfl
          rw [e, List.foldl_append]
          exact hN
        have f1 : w.heap.size ≤ g11 := by
          have hgN : g11 = g7 ∨ w10.heap.size ≤ g11 := hgN
          omega
        have f2 : ∀ q, (Ow7 q ∨ q = g10) → Ow q ∨ (w.heap.size ≤ q ∧ q < w11.heap.size) := fun q hq => by
          rcases hq with hq | rfl
          · exact (hO7 q hq).imp_right fun h => ⟨h.1, by omega⟩
          · have := ownsN_lt hO10
            exact .inr ⟨by omega, by omega⟩
        have f3 : ∀ q, ({ A with lb := g11, cap := c11 } : RA).has q ∨ (Ow7 q ∨ q = g10) → q ≠ xb ∧ q ≠ nb ∧ q ≠ bb := fun q hq => by
          rcases hq with (h1 | h1 | h1 | h1) | h1 | h1
          · exact hF7 q (.inl (.inl h1))
          · have h1 : q = g11 := h1
            have hgN : g11 = g7 ∨ w10.heap.size ≤ g11 := hgN
            rcases hgN with e | e
            · exact hF7 q (.inl (.inr (.inl (h1.trans e))))
            · omega
          · exact hF7 q (.inl (.inr (.inr (.inl h1))))
          · exact hF7 q (.inl (.inr (.inr (.inr h1))))
          · exact hF7 q (.inr h1)
          · omega
        have n1 : ∀ q, q = xb ∨ q = nb ∨ q = bb → ¬(q = A.sb ∨ q = g7) := fun q hq hn => by
          have h1 := hF7 A.sb (.inl (.inl rfl))
          have h2 := hF7 g7 (.inl (.inr (.inl rfl)))
          omega
        have f4 : BitsAt w11 (fun q => Ow7 q ∨ q = g10) xv en.bs := (show BitsAt w10 Ow7 xv en.bs from ⟨ax, cx, HXV.out, hby.kept BR, hlc, hob⟩).same (fun q hq hl => T11.block q hl fun hn => by
          have h1 := (h7.ow q hq).1
          rcases hn with hn | hn
          · exact h1.1 hn
          · exact h1.2 hn) fun _ h => .inl h
        have f5 : Box w11 xb X := T11.box (b7.kept BR) (n1 xb (.inl rfl))
        have f6 : Box w11 nb (ndCells l) := T11.box (x17.kept BR) (n1 nb (.inr (.inl rfl)))
        have f7 : Box w11 bb (u8s bs).toArray := T11.box (x27.kept BR) (n1 bb (.inr (.inr rfl)))
        have f8 : Turn (fun k => k = A.sb ∨ k = A.lb) w w11 := (T7.trans (Turn.ofBelow BR)).trans' T11 fun q hq hn hw => by
          rcases hw with hw | hw
          · exact hn (.inl hw)
          · omega
        have FIN := Lib.hid (And.intro f1 (And.intro f2 (And.intro f3 f8)))
        clear f1 f2 f3 f8 n1 hF7 hO7 T11 BR B10 hg10 hO10 hgN hpo hmm hput hXc hke hkok hkd hby hob h10 h11 h7 T7 hbx hby10 hsz1 hsz2 hsz3 hxl7 hnl7 hbl7 hgl7 b7 x17 x27 I9 I10 IU BU own9 cb hN hlen7 hXE
        go_wp2_with fail
        go_roundw
        case measure => simp only [intOf]; omega
        case rel => exact ⟨k + 1, es11, g11, c11, _, by omega, by go_num, hN12, FIN.out.1, FIN.out.2.1, FIN.out.2.2.1, f4, f5, f6, f7, FIN.out.2.2.2⟩
      · obtain rfl : k = l.length := by omega
        have k3 : decide ((l.length : Int) < (l.length : Int)) = false := by simp
        go_wp2
        refine bodyPost_end (results_nil rfl) rfl ?_
        have hkl : (p.kidEnts en).length = l.length := by rw [p.kidEnts_len, HLL.out]
        rw [List.take_of_length_le (by omega)] at h7
        rw [HS.out]
        exact (show RqStepPost _ _ _ _ _ _ _ _ _ from ⟨rfl, ⟨_, _, g7, c7, Ow7, h7, .inr hg7, HO7.out⟩, T7⟩)
end Go.Proofs.YtnjmplapjnnjdaaGreat

/- The search of layer 17, the document's, as one thing in memory: Run, Top, Size, Mark. -/
namespace Go.Proofs.YtnjmplapjnnjdaaGreat
open Go.RowKit
set_option linter.unusedSimpArgs false
set_option linter.unusedVariables false

theorem Grows.trans {F F1 F2 : Nat → Prop} {w w1 w2 : World} (h : Grows F F1 w w1) (k : Grows F1 F2 w1 w2) : Grows F F2 w w2 :=
  ⟨⟨k.1.os.trans h.1.os, k.1.tape.trans h.1.tape, k.1.output.trans h.1.output, Nat.le_trans h.1.size k.1.size, fun q hq hn => (k.1.block q (Nat.lt_of_lt_of_le hq h.1.size) fun h1 => (h.2 q h1).elim hn fun h2 => by omega).trans (h.1.block q hq hn)⟩,
    fun q hq => (k.2 q hq).elim (fun h1 => (h.2 q h1).imp_right fun h2 => ⟨h2.1, Nat.lt_of_lt_of_le h2.2 k.1.size⟩) fun h1 => .inr ⟨Nat.le_trans h.1.size h1.1, h1.2⟩⟩
structure RqM (w : World) (p : Pb) (D : Int) (most : Nat) (s : Bq) (sb : Nat) (F : Nat → Prop) : Prop where
  ok : s.Ok p D most
  rq : ∃ es fv A Ow, A.sb = sb ∧ Rq w p D most s es fv A Ow ∧ ∀ k, (A.has k ∨ Ow k) → F k
  lt : ∀ k, F k → k < w.heap.size
theorem RqM.same {w w' : World} {p : Pb} {D : Int} {most : Nat} {s : Bq} {sb : Nat} {F : Nat → Prop} (h : RqM w p D most s sb F) (hs : w.heap.size ≤ w'.heap.size) (hk : ∀ k, F k → w'.heap[k]? = w.heap[k]?) : RqM w' p D most s sb F := by
  obtain ⟨es, fv, A, Ow, h1, h2, h4⟩ := h.rq
  exact ⟨h.ok, ⟨es, fv, A, Ow, h1, h2.same hs fun k hk' => hk k (h4 k hk'), h4⟩, fun k hk' => Nat.lt_of_lt_of_le (h.lt k hk') hs⟩
theorem RqM.kept {w w' : World} {p : Pb} {D : Int} {most : Nat} {s : Bq} {sb : Nat} {F : Nat → Prop} (h : RqM w p D most s sb F) (hB : Below w.heap.size w w') : RqM w' p D most s sb F := h.same hB.size fun k hk => hB.block k (h.lt k hk)
theorem RqM.turn {w w' : World} {p : Pb} {D : Int} {most : Nat} {s : Bq} {sb : Nat} {F H : Nat → Prop} (h : RqM w p D most s sb F) (T : Turn H w w') (hn : ∀ k, F k → ¬H k) : RqM w' p D most s sb F := h.same T.size fun k hk => T.block k (h.lt k hk) (hn k hk)
def RqMPost (p : Pb) (D : Int) (most : Nat) (s : Bq) (sb : Nat) (F : Nat → Prop) (w : World) (v : Value) (e : Ending) (w' : World) : Prop :=
  e = .returned v ∧ ∃ F', RqM w' p D most s sb F' ∧ Grows F F' w w'
theorem RqM.step {w : World} {p : Pb} (hp : p.Ok) (hc : probChk p = 0) {D : Int} (hD : 1 ≤ D) {most : Nat} (hm1 : 1 ≤ most) (hmost : most ≤ 65536) {s : Bq} {sb : Nat} {F : Nat → Prop} (h : RqM w p D most s sb F) (hf : s.found = none) :
    Calls Tryz.prog 56 #[.pointer (some ⟨sb, 0, none⟩)] w (RqMPost p D most (p.bstep D most s) sb F w (.tuple #[])) := by
  obtain ⟨es, fv, A, Ow, rfl, hR, hF⟩ := h.rq
  refine (rq_step hp hc hD hmost h.ok hf hR).mono ?_
  rintro e w' ⟨rfl, ⟨es', fv', g, c, Ow', hR', hg, hO⟩, T⟩
  have hs := h.ok.run hc hm1 1
  have e1 : p.brun D most 1 s = p.bstep D most s := by
    show (if s.found.isSome then s else _) = _
    rw [if_neg (by rw [hf]; decide)]
    rfl
  rw [e1] at hs
  refine ⟨rfl, fun k => ({ A with lb := g, cap := c } : RA).has k ∨ Ow' k, ⟨hs, ⟨es', fv', { A with lb := g, cap := c }, Ow', rfl, hR', fun k hk => hk⟩, fun k hk => hk.elim hR'.hasLt fun hk => (hR'.ow k hk).2⟩, T.mono fun k _ hk => ?_, fun k hk => ?_⟩
  · rcases hk with rfl | rfl
    · exact hF _ (.inl (.inl rfl))
    · exact hF _ (.inl (.inr (.inl rfl)))
  · rcases hk with (h1 | h1 | h1 | h1) | h1
    · exact .inl (hF k (.inl (.inl h1)))
    · have h1' : k = g := h1
      rcases hg with e | e
      · exact .inl (hF k (.inl (.inr (.inl (h1'.trans e)))))
      · exact .inr ⟨by omega, h1' ▸ hR'.hasLt (.inr (.inl rfl))⟩
    · exact .inl (hF k (.inl (.inr (.inr (.inl h1)))))
    · exact .inl (hF k (.inl (.inr (.inr (.inr h1)))))
    · exact (hO k h1).imp_left fun h2 => hF k (.inr h2)
theorem RqM.c48 {w : World} {p : Pb} (hp : p.Ok) {D : Int} {most : Nat} {s : Bq} {sb : Nat} {F : Nat → Prop} (h : RqM w p D most s sb F) : w.cell? ⟨sb, 48, none⟩ = some (.bool s.found.isSome) := by
  obtain ⟨es, fv, A, Ow, rfl, hR, hF⟩ := h.rq
  exact (hR.at_ hp).c48
theorem rq_Run_bad (sb : Nat) {n : Int} (hb : n < 0 ∨ 1048576 < n) (w : World) : Pure Tryz.prog 33 #[.pointer (some ⟨sb, 0, none⟩), .int .i64 n] w (.tuple #[.bool false, .int .i64 1]) := by
  have hd : decide (n < 0) = true ∨ (decide (n < 0) = false ∧ decide (1048576 < n) = true) := by
    by_cases h : n < 0
    · exact .inl (by simpa using h)
    · exact .inr ⟨by simpa using h, by simp; omega⟩
  clear hb
  rcases hd with d1 | ⟨d1, d2⟩
  all_goals
    go_enter Tryz.func33, Tryz.ntmps33
    go_wp2
    go_ret2
    exact ⟨rfl, Below.refl _ _⟩
set_option maxRecDepth 5000 in
theorem RqM.run_ {w : World} {p : Pb} (hp : p.Ok) (hc : probChk p = 0) {D : Int} (hD : 1 ≤ D) {most : Nat} (hm1 : 1 ≤ most) (hmost : most ≤ 65536) {s : Bq} {sb : Nat} {F : Nat → Prop} (h : RqM w p D most s sb F) {n : Int} (n0 : 0 ≤ n) (n1 : n ≤ 1048576) :
    Calls Tryz.prog 33 #[.pointer (some ⟨sb, 0, none⟩), .int .i64 n] w (RqMPost p D most (p.brun D most n.toNat s) sb F w (.tuple #[.bool (p.brun D most n.toNat s).found.isSome, .int .i64 0])) := by
  have d1 : decide (n < 0) = false := by simp; omega
  have d2 : decide (1048576 < n) = false := by simp; omega
  go_enter Tryz.func33, Tryz.ntmps33
  go_wp2_with fail
  go_loopw [6] (fun i wr => ∃ (k : Nat) (F' : Nat → Prop), (k : Int) ≤ n ∧ i = .int .i64 k ∧ RqM wr p D most (p.brun D most k s) sb F' ∧ Grows F F' w wr) (fun i _ => n.toNat - (intOf i).toNat)
  case atStart => exact ⟨0, F, n0, rfl, h, Grows.below (Below.refl _ _)⟩
  case round =>
    clear h
    obtain ⟨k, F7, hk, rfl, hR, G7⟩ := hrel
    obtain ⟨sk, hsk⟩ : ∃ sk, sk = p.brun D most k s := ⟨_, rfl⟩
    rw [← hsk] at hR
    have HS := Lib.hid hsk
    clear hsk
    have c48 := hR.c48 hp
    by_cases hkn : (k : Int) < n
    · have hkn1 : decide ((k : Int) < n) = true := by simpa using hkn
      cases hf : sk.found with
      | some e =>
        rw [hf] at c48
        replace c48 : wr.cell? ⟨sb, 48, none⟩ = some (.bool true) := c48
        have HE : Hid (p.brun D most n.toNat s = sk) := Lib.hid (by
          have e : n.toNat = k + (n.toNat - k) := by omega
          rw [e, p.brun_add, ← HS.out]
          exact p.brun_done D most _ (by rw [hf]; rfl))
        have HF := Lib.hid hf
        clear hf
        go_wp2_with fail
        go_ret2
        rw [HE.out]
        exact (show RqMPost _ _ _ _ _ _ _ _ _ _ from ⟨by rw [HF.out]; rfl, F7, hR, G7⟩)
      | none =>
        rw [hf] at c48
        replace c48 : wr.cell? ⟨sb, 48, none⟩ = some (.bool false) := c48
        have hst := hR.step hp hc hD hm1 hmost hf
        have HN : Hid (p.brun D most (k + 1) s = p.bstep D most sk) := Lib.hid (by rw [p.brun_snoc, ← HS.out, hf]; rfl)
        clear hf
        go_wp2_with fail
        refine hst.mono ?_
        rintro e w8 ⟨rfl, F8, hR8, G8⟩
        have G78 := G7.trans G8
        have kb : (k : Int) + 1 ≤ 9223372036854775807 := by omega
        clear hst hR c48 G7 G8
        go_wp2_with fail
        go_roundw
        case measure => simp only [intOf]; omega
        case rel => exact ⟨k + 1, F8, by omega, (by first | rfl | exact congrArg (Value.int .i64) (ap_succ kb)), by rw [HN.out]; exact hR8, G78⟩
    · have hkn1 : decide ((k : Int) < n) = false := by simpa using hkn
      have HE : Hid (p.brun D most n.toNat s = sk) := Lib.hid (by rw [show n.toNat = k by omega, ← HS.out])
      go_wp2_with fail
      go_ret2
      rw [HE.out]
      exact (show RqMPost _ _ _ _ _ _ _ _ _ _ from ⟨rfl, F7, hR, G7⟩)
theorem RqM.run {w : World} {p : Pb} (hp : p.Ok) (hc : probChk p = 0) {D : Int} (hD : 1 ≤ D) {most : Nat} (hm1 : 1 ≤ most) (hmost : most ≤ 65536) {s : Bq} {sb : Nat} {F : Nat → Prop} (h : RqM w p D most s sb F) (n : Int) :
    Calls Tryz.prog 33 #[.pointer (some ⟨sb, 0, none⟩), .int .i64 n] w (RqMPost p D most (p.bRun D most n s) sb F w (p.bAns D most n s)) := by
  unfold Pb.bRun Pb.bAns
  by_cases hb : n < 0 ∨ 1048576 < n
  · rw [if_pos hb, if_pos hb]
    refine (rq_Run_bad sb hb w).mono ?_
    rintro e w' ⟨rfl, B⟩
    exact ⟨rfl, F, h.kept B, Grows.below B⟩
  · rw [if_neg hb, if_neg hb]
    exact h.run_ hp hc hD hm1 hmost (by omega) (by omega)
set_option maxRecDepth 5000 in
theorem RqM.top {w : World} {p : Pb} (hp : p.Ok) (hc : probChk p = 0) {D : Int} (hD : 1 ≤ D) {most : Nat} (hmost : most ≤ 65536) {s : Bq} {sb : Nat} {F : Nat → Prop} (h : RqM w p D most s sb F) :
    Pure Tryz.prog 22 #[.pointer (some ⟨sb, 0, none⟩)] w (s.top_ D) := by
  unfold Bq.top_
  obtain ⟨es, fv, A, Ow, rfl, hR, hF⟩ := h.rq
  have c48 := (hR.at_ hp).c48
  cases hf : s.found with
  | some e =>
    rw [hf] at c48
    replace c48 : w.cell? ⟨A.sb, 48, none⟩ = some (.bool true) := c48
    clear hf
    go_enter Tryz.func22, Tryz.ntmps22
    go_wp2
    go_ret2
    exact ⟨rfl, Below.refl _ _⟩
  | none =>
    rw [hf] at c48
    replace c48 : w.cell? ⟨A.sb, 48, none⟩ = some (.bool false) := c48
    have hne := h.ok.ne hf
    have hlen := hR.len
    have hsl := h.ok.len
    have hmem : ∀ x ∈ es, x.1.Ok p := fun x hx => h.ok.ents x.1 (by rw [← hR.ents]; exact List.mem_map_of_mem hx)
    have hmm : ∀ x ∈ es, -100000000 ≤ x.1.n.m ∧ x.1.n.m ≤ 100000000 := fun x hx => (hmem x hx).m_bd hc
    have hnx := rq_next hp hD hR (by omega) (by omega) hmm
    have hlt := nextIx_lt (D := D) hne
    obtain ⟨x, hx⟩ : ∃ x, es[nextIx D s.L]? = some x := ⟨_, List.getElem?_eq_getElem (by omega)⟩
    have hxm := hmm x (List.mem_of_getElem? hx)
    have hkey : topKey D s.L = x.1.n.m / D := rq_key hR hx
    obtain ⟨nx, hnxe⟩ : ∃ nx, nx = nextIx D s.L := ⟨_, rfl⟩
    rw [← hnxe] at hnx hx
    have HK := Lib.hid hkey
    clear hf hnxe hlt hmem hmm hlen hsl hne hkey
    go_enter Tryz.func22, Tryz.ntmps22
    go_wp2_with fail
    refine hnx.mono ?_
    rintro e w1 ⟨rfl, B1⟩
    have hb := rq_bucket hp hD (hR.kept B1) hx hxm.1 hxm.2
    clear hnx
    go_wp2_with fail
    refine hb.mono ?_
    rintro e w2 ⟨rfl, B2⟩
    clear hb
    go_wp2
    go_ret2
    exact ⟨by rw [HK.out]; rfl, bOn B1 B2⟩
set_option maxRecDepth 5000 in
theorem RqM.size {w : World} {p : Pb} (hp : p.Ok) {D : Int} {most : Nat} {s : Bq} {sb : Nat} {F : Nat → Prop} (h : RqM w p D most s sb F) :
    Pure Tryz.prog 26 #[.pointer (some ⟨sb, 0, none⟩)] w (.int .i64 s.L.length) := by
  obtain ⟨es, fv, A, Ow, rfl, hR, hF⟩ := h.rq
  have c43 := (hR.at_ hp).c43
  rw [hR.len] at c43
  go_enter Tryz.func26, Tryz.ntmps26
  go_wp2
  go_ret
  exact ⟨rfl, Below.refl _ _⟩
set_option maxRecDepth 5000 in
theorem RqM.mark {w : World} {p : Pb} (hp : p.Ok) {D : Int} {most : Nat} {s : Bq} {sb : Nat} {F : Nat → Prop} (h : RqM w p D most s sb F) :
    Pure Tryz.prog 24 #[.pointer (some ⟨sb, 0, none⟩)] w (.tuple #[.int .i64 s.gone, .bool s.some_]) := by
  obtain ⟨es, fv, A, Ow, rfl, hR, hF⟩ := h.rq
  have c46 := (hR.at_ hp).c46
  have c47 := (hR.at_ hp).c47
  go_enter Tryz.func24, Tryz.ntmps24
  go_wp2_with fail
  (refine wp_region_treeE (.pure 0 (.pure 1 (.pure 2 (.pure 3 (.pure 4 (.pure 5 (.pure 6 (.pure 7 (.one 8 (.one 9 .nil)))))))))) (by kernel_rfl) (by kernel_rfl) ?_; simp only [List.getD_cons_zero, List.getD_cons_succ, wpOTE])
  intro w1 B1
  have q46 := KeptW.cell c46
  have q47 := KeptW.cell c47
  iterate 3
    refine ⟨rfl, _, fun W hW => by go_simp; first | done | rfl, ?_⟩
    try simp only [put_list, List.set_cons_zero, List.set_cons_succ]
  refine ⟨rfl, .int .i64 s.gone, fun W hW => by have c := q46 ⟨W, ext_trans B1 hW⟩; go_simp, ?_⟩
  try simp only [put_list, List.set_cons_zero, List.set_cons_succ]
  iterate 3
    refine ⟨rfl, _, fun W hW => by go_simp; first | done | rfl, ?_⟩
    try simp only [put_list, List.set_cons_zero, List.set_cons_succ]
  refine ⟨rfl, .bool s.some_, fun W hW => by have c := q47 ⟨W, ext_trans B1 hW⟩; go_simp, ?_⟩
  try simp only [put_list, List.set_cons_zero, List.set_cons_succ]
  clear q46 q47 c46 c47
  refine one_valR rfl (v := .int .i64 s.gone) (by go_simp) ⟨Below.refl _ _, ?_⟩
  try simp only [put_list, List.set_cons_zero, List.set_cons_succ]
  refine one_valR rfl (v := .bool s.some_) (by go_simp) ⟨Below.refl _ _, ?_⟩
  try simp only [put_list, List.set_cons_zero, List.set_cons_succ]
  go_wp2
  go_ret2
  exact ⟨rfl, B1⟩
end Go.Proofs.YtnjmplapjnnjdaaGreat
