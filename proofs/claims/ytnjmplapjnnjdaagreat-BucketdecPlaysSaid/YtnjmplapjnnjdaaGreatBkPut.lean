/- Buckets: the walk of Put. -/
import Derived.Test.YtnjmplapjnnjdaaGreatTreeV
set_option linter.unusedSimpArgs false
set_option linter.unusedVariables false
set_option linter.unnecessarySimpa false
namespace Go.Proofs.YtnjmplapjnnjdaaGreat
open Go.RowKit

theorem run_slLo1 {P : Program} {w : World} {t e g o n cap : Nat} [S : SlTy P t e] {z : Value} {bytes : Nat} [T : ElTy P e z 1 bytes] (h1 : 1 ≤ n) (h2 : n ≤ cap) : (Instr.sliceAt t (.slice (some ⟨g, o, none⟩) n cap) (some (.int .i64 1)) none none).run P w = .ok (.slice (some (if cap = 1 then ⟨g, o, none⟩ else ⟨g, o + 1, none⟩)) (n - 1) (cap - 1)) w := by
  obtain ⟨i, hi, hz0, hz1, _⟩ := T.out
  have hsz : i.size = 1 := hz1
  have h3 : ¬ n < 1 := by omega
  have h4 : ¬ cap < n := by omega
  by_cases hc : cap = 1
  · subst hc
    obtain rfl : n = 1 := by omega
    simp [Instr.sliceAt, Instr.slice, Sem.run_bind, run_underlying S.out, Instr.sliceBounds, Instr.sliceBound, asIntOf, Sem.run_pure, sizeOf, typeInfo, hi, hsz, Addr.add]
  · simp [Instr.sliceAt, Instr.slice, Sem.run_bind, run_underlying S.out, Instr.sliceBounds, Instr.sliceBound, asIntOf, Sem.run_pure, sizeOf, typeInfo, hi, hsz, Addr.add, h3, h4, hc]
    intro h
    omega
theorem pure_slLo1 {P : Program} {a : Act} {w : World} {d t e g o n cap : Nat} {x lo : Operand} {ty : TypeId} {ps : String} {af : Array Edge} {gd : Option (Nat × Bool)} {z : Value} {bytes : Nat} [S : SlTy P t e] [T : ElTy P e z 1 bytes]
    (hx : a.eval x = .slice (some ⟨g, o, none⟩) n cap) (hh : a.eval lo = .int .i64 1) (h1 : 1 ≤ n) (h2 : n ≤ cap) :
    (execOp a.eval ⟨some d, .slice t x (some lo) none none, ty, ps, af, gd⟩).run P w = .ok (.value (.slice (some (if cap = 1 then ⟨g, o, none⟩ else ⟨g, o + 1, none⟩)) (n - 1) (cap - 1))) w := by
  have hr := run_slLo1 (P := P) (w := w) (t := t) (e := e) (g := g) (o := o) (n := n) (z := z) (bytes := bytes) h1 h2
  unfold execOp
  simp [hx, hh, Sem.run_bind, hr]
/-- THE ARM for 'append' of one number to a row that may begin in the midst. -/
theorem apO {ops : Array Oper} {rest : List Oper} {l : List Value} {ds : List Deferred} {w : World} {Q : Exit → Act → World → Prop} {t d b c : Nat} {s x : Operand} {v : Value} {xs : List Int} {y : Int} {ty : TypeId} {ps : String} {af : Array Edge}
    [S : SlTy Tryz.prog t 3] [E : ElTy Tryz.prog 3 (.int .i64 0) 1 8] (h : RowO w v xs) (hs : (Act.mk l.toArray ds).eval s = v) (hx : (Act.mk l.toArray ds).eval x = .slice (some ⟨b, 0, none⟩) 1 c) (hb : w.cell? ⟨b, 0, none⟩ = some (.int .i64 y)) (hn : xs.length ≤ 1000000)
    (hk : ∀ v' w', RowO w' v' (xs ++ [y]) → (∃ g off cap, v' = .slice (some ⟨g, off, none⟩) (xs.length + 1) cap) → ((∃ g, v.ownBlock = some g ∧ v'.ownBlock = some g ∧ w.grownBy w' (some g)) ∨ (v'.ownBlock = some w.heap.size ∧ w.grownBy w' none)) → wpList Tryz.prog ops Q rest ⟨(l.set d v').toArray, ds⟩ w') :
    wpList Tryz.prog ops Q (⟨some d, .call { callee := .builtin .append, args := #[s, x], argTypes := #[t, t] }, ty, ps, af, none⟩ :: rest) ⟨l.toArray, ds⟩ w := by
  obtain ⟨v', w', hr, r1, r2, r3⟩ := run_appendO w v xs y h (b := b) (c := c) hb hn (t := t) ty
  refine wpList_plain rfl fun K hK => ?_
  unfold Oper.wp execOp
  simp only [resolve, invoke, builtin, Sem.run_bind, Sem.run_pure, Result.andThen_ok, List.map_toArray, List.map_cons, List.map_nil, hs, hx, hr]
  rw [Oper.upon_value, put_list]
  exact hK _ _ (hk v' w' r1 r2 r3)
def BkJ (b : Bk) (bb gr n low top : Nat) (vs : List Value) (W : World) : Prop := BoxT W bb (bkCellsN b gr n low top) 111 ∧ BoxT W gr vs.toArray 60
/-- The same with one more. -/
def Bk.more (b : Bk) (id : Nat) (m : Int) : Bk := { b with I := b.I ++ [(id, m)] }
/-- The same without the one that goes. -/
def Bk.drop (b : Bk) : Bk := { b with I := b.I.eraseIdx b.lowIx, mark := if b.mkd = false ∨ b.mark < b.keys.getD b.lowIx 0 then b.keys.getD b.lowIx 0 else b.mark, mkd := true }
def BkPutPost (b : Bk) (id : Nat) (m : Int) (bb gr : Nat) (Own : Nat → Prop) (w : World) (e : Ending) (w' : World) : Prop :=
  ∃ (low top : Nat) (vs : List Value) (Own' : Nat → Prop), (if (b.more id m).I.length ≤ b.cap then e = .returned (.tuple #[.int .i64 0, .bool false, .int .i64 0]) ∧ BkIn w' (b.more id m) bb gr low top vs Own'
    else ∃ x, (b.more id m).I[(b.more id m).lowIx]? = some x ∧ e = .returned (.tuple #[.int .i64 (x.1 : Int), .bool true, .int .i64 0]) ∧ BkIn w' (b.more id m).drop bb gr low top vs Own') ∧ (∀ k, Own' k → Own k ∨ (w.heap.size ≤ k ∧ k < w'.heap.size)) ∧ (∀ k, Own k → Own' k) ∧ Turn Own w w'
theorem Bk.Ok.more {b : Bk} (hb : b.Ok) (hl : b.I.length ≤ b.cap) {id : Nat} {m : Int} (h1 : b.lo ≤ m) (h2 : m ≤ b.hi) (hi : id ≤ 1000000) : (b.more id m).Ok :=
  ⟨hb.d0, hb.d1, hb.le, hb.lo0, hb.hi0, hb.k, hb.c0, hb.c1, by show (b.I ++ [(id, m)]).length ≤ _; simp; exact hl, fun x hx => by
    rcases List.mem_append.1 hx with h | h
    · exact hb.ms x h
    · rw [List.mem_singleton.1 h]; exact ⟨h1, h2⟩, fun x hx => by
    rcases List.mem_append.1 hx with h | h
    · exact hb.ids x h
    · rw [List.mem_singleton.1 h]; exact hi⟩
theorem Bk.more_row {b : Bk} {id : Nat} {m : Int} (k : Nat) : (b.more id m).row k = if k = b.ix m then b.row k ++ [(id : Int)] else b.row k := by
  unfold Bk.row
  show List.map _ (List.filter (fun x => b.ix x.2 == k) (b.I ++ [(id, m)])) = _
  rw [List.filter_append, List.map_append]
  by_cases hk : k = b.ix m
  · rw [if_pos hk]; simp [List.filter_cons, hk]
  · rw [if_neg hk]
    have : (b.ix m == k) = false := by simp; omega
    simp [List.filter_cons, this]
set_option maxRecDepth 5000 in
set_option maxHeartbeats 2000000 in
theorem bk_Put_nil {b : Bk} (hb : b.Ok) (hl : b.I.length ≤ b.cap) (hI : b.I = []) {id : Nat} {m : Int} (h1 : b.lo ≤ m) (h2 : m ≤ b.hi) (hi : id ≤ 1000000) {bb gr low top : Nat} {vs : List Value} {Own : Nat → Prop} (w : World) (h : BkIn w b bb gr low top vs Own) :
    Calls Tryz.prog 41 #[.pointer (some ⟨bb, 0, none⟩), .int .i64 m, .int .i64 id] w (BkPutPost b id m bb gr Own w) := by
  have hK1 := hb.kpos.1
  have hK2 := hb.kpos.2.1
  have hbase := hb.base
  have hix := (hb.ix h1 h2).1
  have hixK := (hb.ix h1 h2).2
  have hc1 := hb.c1
  have hd := hb.d0
  have t1 : decide (m < b.lo) = false := by simp; omega
  have t2 : decide (b.hi < m) = false := by simp; omega
  have hml := hb.lo0
  have hmh := hb.hi0
  obtain ⟨q, hq⟩ : ∃ q, q = b.ix m := ⟨_, rfl⟩
  rw [← hq] at hix hixK
  have hqk : (q : Int) < (b.K : Int) := by omega
  have HQ := Lib.hid hq
  have HIX := Lib.hid hix
  have hmb1 : -9223372036854775808 ≤ m := by omega
  have hmb2 : m ≤ 9223372036854775807 := by omega
  have hw0 : IntKind.i64.wrap (m / b.D - b.base) = (q : Int) := by rw [IntWalk.i64_in _ (by omega), hix]
  clear hq hix
  go_enter Tryz.func41, Tryz.ntmps41
  go_wp2_with fail
  refine (bk_none hb w h).mono ?_
  rintro e w1 ⟨rfl, B1⟩
  have h1' := h.kept B1
  have a1 := h1'.at_
  have c1 := a1.c1
  have c2 := a1.c2
  go_upto_region 5 with fail
  have q0 := KeptW.cell a1.c0
  have q4 := KeptW.cell a1.c4
  (refine wp_region_kept_tail 11 (by kernel_rfl) (by kernel_rfl) ?_; simp only [List.take_succ_cons, List.take_zero, List.drop_succ_cons, List.drop_zero])
  repeat first
    | go_big_quiet_step (exact Calls.kept (bk_index m b.D hd hmb1 hmb2 _))
  refine wpQuiet_nil ?_
  intro w2 B2
  have h2' := h1'.kept B2
  clear c1 c2 q0 q4 hw0 a1 h1' t1 t2
  have B20 := bOn B1 B2
  have hW2 := h2'.toW
  clear B1 B2
  go_upto_region 6 with fail
  have c6 := h2'.at_.c6
  have T2 : Turn (fun k => k = bb) w w2 := Turn.ofBelow B20
  have hw8a : ∀ l : Nat, min (l : Int) (q : Int) = ((min l q : Nat) : Int) := fun l => by omega
  have hw8b : ∀ l : Nat, max (l : Int) (q : Int) = ((max l q : Nat) : Int) := fun l => by omega
  obtain ⟨n, hn⟩ : ∃ n, n = b.I.length := ⟨_, rfl⟩
  rw [← hn] at hW2 c6
  have HN := Lib.hid hn
  have hn0 : n = 0 := by rw [hn, hI]; rfl
  rw [hn0] at c6
  have c7 := h2'.at_.c7
  have c8 := h2'.at_.c8
  have f7 := h2'.box.box.frozen 7
  have f8 := h2'.box.box.frozen 8
  clear hn hn0
  go_upto_region 8 with fail
  have hW3 := (hW2.cellB 7 (.int .i64 (q : Int)) (b' := b) (low' := q) rfl rfl).cellB 8 (.int .i64 (q : Int)) (b' := b) (top' := q) rfl rfl
  have T3 := (T2.trans (Turn.setCell w2 ⟨bb, 7, none⟩ (.int .i64 (q : Int)) (H := fun k => k = bb) rfl)).trans (Turn.setCell _ ⟨bb, 8, none⟩ (.int .i64 (q : Int)) (H := fun k => k = bb) rfl)
  have hr3 : ∀ x ∈ b.I, q ≤ b.ix x.2 ∧ b.ix x.2 ≤ q := fun x hx => by rw [hI] at hx; cases hx
  obtain ⟨w3, hw3⟩ : ∃ W, W = (w2.setCell ⟨bb, 7, none⟩ (.int .i64 (q : Int))).setCell ⟨bb, 8, none⟩ (.int .i64 (q : Int)) := ⟨_, rfl⟩
  rw [← hw3] at hW3 T3 ⊢
  obtain ⟨l3, t3, hW3, hr3, hlk, htk⟩ : ∃ l3 t3, BkW w3 b bb gr n l3 t3 vs b.row Own ∧ (∀ x ∈ b.I, l3 ≤ b.ix x.2 ∧ b.ix x.2 ≤ t3) ∧ l3 < b.K ∧ t3 < b.K := ⟨q, q, hW3, hr3, hixK, hixK⟩
  clear c7 c8 f7 f8 hw3
  clear c6 h2' hW2 T2
  have HR3 := Lib.hid hr3
  have hl3 : min l3 q < b.K := by omega
  have ht3 : max t3 q < b.K := by omega
  have x7 := hw8a l3
  have x8 := hw8b t3
  clear hr3 hw8a hw8b
  (refine wp_region_treeV (fun W => BkW W b bb gr n l3 t3 vs b.row Own) 16 (.free 0 (.free 1 (.free 2 (.free 3 (.free 4 (.pure 5 (.free 6 (.free 7 (.free 8 (.free 9 (.free 10 (.pure 11 (.free 12 (.free 13 (.free 14 (.free 15 (.one 16 (.free 17 (.free 18 (.one 19 .nil)))))))))))))))))))) (by kernel_rfl) (by kernel_rfl) ?_; simp only [List.getD_cons_zero, List.getD_cons_succ, wpOVI])
  intro w4 B4
  have hW4 := hW3.kept B4
  iterate 5
    refine ⟨rfl, _, fun W => by go_simp; first | done | rfl, ?_⟩
    try simp only [put_list, List.set_cons_zero, List.set_cons_succ]
  refine ⟨fun _ => hW4, .int .i64 (l3 : Int), fun W hI => by have c7 : W.cell? ⟨bb, 7, none⟩ = some (.int .i64 (l3 : Int)) := hI.box.box.cell 7; go_simp, ?_⟩
  try simp only [put_list, List.set_cons_zero, List.set_cons_succ]
  iterate 1
    refine ⟨rfl, _, fun W => by go_simp; first | done | rfl, ?_⟩
    try simp only [put_list, List.set_cons_zero, List.set_cons_succ]
  refine ⟨rfl, .int .i64 ((min l3 q : Nat) : Int), fun W => by
    rcases Nat.le_total l3 q with h | h
    · rw [Nat.min_eq_left h]
      have h' : (l3 : Int) ≤ (q : Int) := by omega
      go_simp; first | done | omega
    · rw [Nat.min_eq_right h]
      have h' : (q : Int) ≤ (l3 : Int) := by omega
      go_simp; first | done | omega, ?_⟩
  try simp only [put_list, List.set_cons_zero, List.set_cons_succ]
  iterate 3
    refine ⟨rfl, _, fun W => by go_simp; first | done | rfl, ?_⟩
    try simp only [put_list, List.set_cons_zero, List.set_cons_succ]
  refine ⟨fun _ => hW4, .int .i64 (t3 : Int), fun W hI => by have c8 : W.cell? ⟨bb, 8, none⟩ = some (.int .i64 (t3 : Int)) := hI.box.box.cell 8; go_simp, ?_⟩
  try simp only [put_list, List.set_cons_zero, List.set_cons_succ]
  iterate 1
    refine ⟨rfl, _, fun W => by go_simp; first | done | rfl, ?_⟩
    try simp only [put_list, List.set_cons_zero, List.set_cons_succ]
  refine ⟨rfl, .int .i64 ((max t3 q : Nat) : Int), fun W => by
    rcases Nat.le_total t3 q with h | h
    · rw [Nat.max_eq_right h]
      have h' : (t3 : Int) ≤ (q : Int) := by omega
      go_simp; first | done | omega
    · rw [Nat.max_eq_left h]
      have h' : (q : Int) ≤ (t3 : Int) := by omega
      go_simp; first | done | omega, ?_⟩
  try simp only [put_list, List.set_cons_zero, List.set_cons_succ]
  iterate 2
    refine ⟨rfl, _, fun W => by go_simp; first | done | rfl, ?_⟩
    try simp only [put_list, List.set_cons_zero, List.set_cons_succ]
  refine ⟨fun _ => hW4, ?_⟩
  have c7 : w4.cell? ⟨bb, 7, none⟩ = some (.int .i64 (l3 : Int)) := hW4.box.box.cell 7
  have c8 : w4.cell? ⟨bb, 8, none⟩ = some (.int .i64 (t3 : Int)) := hW4.box.box.cell 8
  have f7 := hW4.box.box.frozen 7
  have f8 := hW4.box.box.frozen 8
  clear x7 x8
  go_wp2
  have hW5 := (hW4.cellB 7 (.int .i64 ((min l3 q : Nat) : Int)) (b' := b) (low' := min l3 q) rfl rfl).cellB 8 (.int .i64 ((max t3 q : Nat) : Int)) (b' := b) (top' := max t3 q) rfl rfl
  have T5 : Turn (fun k => k = bb) w ((w4.setCell ⟨bb, 7, none⟩ (.int .i64 ((min l3 q : Nat) : Int))).setCell ⟨bb, 8, none⟩ (.int .i64 ((max t3 q : Nat) : Int))) := ((T3.trans (Turn.ofBelow B4)).trans (Turn.setCell _ _ _ rfl)).trans (Turn.setCell _ _ _ rfl)
  obtain ⟨w5, hw5⟩ : ∃ W, W = (w4.setCell ⟨bb, 7, none⟩ (.int .i64 ((min l3 q : Nat) : Int))).setCell ⟨bb, 8, none⟩ (.int .i64 ((max t3 q : Nat) : Int)) := ⟨_, rfl⟩
  rw [← hw5] at hW5 T5 ⊢
  clear hw5 c7 c8 f7 f8 hW4 hW3 T3 B4
  have hqv : q < vs.length := by rw [hW5.vlen]; exact hixK
  obtain ⟨v, hv⟩ : ∃ v, vs[q]? = some v := ⟨_, List.getElem?_eq_getElem hqv⟩
  have hro := hW5.rows q v hv
  have hrl : (b.row q).length ≤ 1000000 := by
    have h2 : (b.row q).length ≤ b.I.length := by unfold Bk.row; rw [List.length_map]; exact List.length_filter_le ..
    omega
  have HV := Lib.hid hv
  clear hv hqv
  (refine wp_region_treeV (BkJ b bb gr n (min l3 q) (max t3 q) vs) 16 (.free 0 (.free 1 (.free 2 (.pure 3 (.free 4 (.free 5 (.free 6 (.free 7 (.pure 8 (.free 9 (.free 10 (.pure 11 (.free 12 (.one 13 (.one 14 (.free 15 (.one 16 .nil))))))))))))))))) (by kernel_rfl) (by kernel_rfl) ?_; simp only [List.getD_cons_zero, List.getD_cons_succ, wpOVI])
  intro w6 B6
  have hW6 := hW5.kept B6
  have hro6 := hro.block (w' := w6) fun k hk => B6.block k (hro.lt hk)
  have hJ6 : BkJ b bb gr n (min l3 q) (max t3 q) vs w6 := ⟨hW6.box, hW6.arr⟩
  iterate 3
    refine ⟨rfl, _, fun W => by go_simp; first | done | rfl, ?_⟩
    try simp only [put_list, List.set_cons_zero, List.set_cons_succ]
  refine ⟨fun _ => hJ6, .slice (some ⟨gr, 0, none⟩) b.K b.K, fun W hI => by have c5 : W.cell? ⟨bb, 5, none⟩ = some (.slice (some ⟨gr, 0, none⟩) b.K b.K) := hI.1.box.cell 5; go_simp, ?_⟩
  try simp only [put_list, List.set_cons_zero, List.set_cons_succ]
  iterate 4
    refine ⟨rfl, _, fun W => by go_simp; first | done | rfl, ?_⟩
    try simp only [put_list, List.set_cons_zero, List.set_cons_succ]
  refine ⟨fun _ => hJ6, .slice (some ⟨gr, 0, none⟩) b.K b.K, fun W hI => by have c5 : W.cell? ⟨bb, 5, none⟩ = some (.slice (some ⟨gr, 0, none⟩) b.K b.K) := hI.1.box.cell 5; go_simp, ?_⟩
  try simp only [put_list, List.set_cons_zero, List.set_cons_succ]
  iterate 2
    refine ⟨rfl, _, fun W => by go_simp; first | done | rfl, ?_⟩
    try simp only [put_list, List.set_cons_zero, List.set_cons_succ]
  refine ⟨fun _ => hJ6, v, fun W hI => by have cq : W.cell? ⟨gr, q, none⟩ = some v := by { rw [hI.2.box.cell, List.getElem?_toArray]; exact HV.out }; go_simp, ?_⟩
  try simp only [put_list, List.set_cons_zero, List.set_cons_succ]
  iterate 1
    refine ⟨rfl, _, fun W => by go_simp; first | done | rfl, ?_⟩
    try simp only [put_list, List.set_cons_zero, List.set_cons_succ]
  refine ⟨fun _ => hJ6, ?_⟩
  go_wp2
  have BA : Below w6.heap.size w6 (w6.alloc (.cells #[.int .i64 (id : Int)] 3)) := (Below.refl _ _).alloc (Nat.le_refl _) _
  have hW7 := hW6.kept BA
  have hJ7 : BkJ b bb gr n (min l3 q) (max t3 q) vs (w6.alloc (.cells #[.int .i64 (id : Int)] 3)) := ⟨hW7.box, hW7.arr⟩
  have hro7 := hro6.block (w' := w6.alloc (.cells #[.int .i64 (id : Int)] 3)) fun k hk => BA.block k (hro6.lt hk)
  have hbx : (w6.alloc (.cells #[.int .i64 (id : Int)] 3)).cell? ⟨w6.heap.size, 0, none⟩ = some (.int .i64 (id : Int)) := (Box.new w6 #[.int .i64 (id : Int)] 3).cell 0
  refine ⟨hJ7, ?_⟩
  refine apO hro7 rfl rfl hbx hrl ?_
  intro v' w8 r1 r2 r3
  obtain ⟨gv, ov, cv, rfl⟩ := r2
  have hkeep : ∀ g, g < w5.heap.size → v.ownBlock ≠ some g → w8.heap[g]? = w5.heap[g]? := fun g hg hne => by
    have e1 : (w6.alloc (.cells #[.int .i64 (id : Int)] 3)).heap[g]? = w5.heap[g]? := (bOn B6 BA).block g hg
    have h6 : g < (w6.alloc (.cells #[.int .i64 (id : Int)] 3)).heap.size := Nat.lt_of_lt_of_le hg (bOn B6 BA).size
    rcases r3 with ⟨g', a1, a2, a3⟩ | ⟨a1, a3⟩
    · exact (a3.block g h6 (fun e => hne (by rw [a1, ← e]))).trans e1
    · exact (a3.block g h6 (fun e => by cases e)).trans e1
  have hJ8 : BkJ b bb gr n (min l3 q) (max t3 q) vs w8 := ⟨hW5.box.same (hkeep bb (Box.lt ⟨_, hW5.box⟩) (hro.own_ne hW5.box (by decide))), hW5.arr.same (hkeep gr (Box.lt ⟨_, hW5.arr⟩) (hro.own_ne hW5.arr (by decide)))⟩
  have hs58 : w5.heap.size ≤ w8.heap.size := by
    have h1 := (bOn B6 BA).size
    rcases r3 with ⟨g', a1, a2, a3⟩ | ⟨a1, a3⟩
    · exact Nat.le_trans h1 a3.size
    · exact Nat.le_trans h1 a3.size
  have hnew : (Value.slice (some ⟨gv, ov, none⟩) ((b.row q).length + 1) cv).ownBlock = v.ownBlock ∨ ∃ g, (Value.slice (some ⟨gv, ov, none⟩) ((b.row q).length + 1) cv).ownBlock = some g ∧ w5.heap.size ≤ g ∧ g < w8.heap.size := by
    rcases r3 with ⟨g', a1, a2, a3⟩ | ⟨a1, a3⟩
    · exact .inl (a2.trans a1.symm)
    · exact .inr ⟨_, a1, (bOn B6 BA).size, r1.lt a1⟩
  have T8 : Turn (fun k => k = bb ∨ k = gr ∨ v.ownBlock = some k) w w8 := by
    have tt : Turn (fun k => k = bb ∨ k = gr ∨ v.ownBlock = some k) w (w6.alloc (.cells #[.int .i64 (id : Int)] 3)) := (T5.mono fun k _ hk => .inl hk).trans (Turn.ofBelow (bOn B6 BA))
    rcases r3 with ⟨g', a1, a2, a3⟩ | ⟨a1, a3⟩
    · exact tt.trans ((Turn.grown a3).mono fun k _ hk => .inr (.inr (by rw [a1]; exact hk.symm)))
    · exact tt.trans ((Turn.grown a3).mono fun k _ hk => by cases hk)
  clear r3 hro7 hbx hJ7 hW7 hW6 hJ6 hro6 BA
  refine ⟨rfl, ?_⟩
  refine ⟨.pointer (some ⟨gr, q, none⟩), fun W => by go_simp; first | done | rfl, ?_⟩
  try simp only [put_list, List.set_cons_zero, List.set_cons_succ]
  have cg : w8.cell? ⟨gr, q, none⟩ = some v := by rw [hJ8.2.box.cell, List.getElem?_toArray]; exact HV.out
  have fg : w8.frozen? ⟨gr, q, none⟩ = false := hJ8.2.box.frozen q
  refine ⟨hJ8, ?_⟩
  obtain ⟨Own', hOwn'⟩ : ∃ O : Nat → Prop, O = fun k => Own k ∨ (w5.heap.size ≤ k ∧ k < w8.heap.size) := ⟨_, rfl⟩
  have hW9 := hW5.put (w1 := w8) (Own' := Own') HV.out r1 hkeep (by rcases hnew with h | ⟨g, h1, h2, h3⟩; exact .inl h; exact .inr ⟨g, h1, h2⟩) (fun g hg => by rw [hOwn']; exact .inl hg) (fun g hg => by
    rw [hOwn']
    rcases hnew with h | ⟨g', h1, h2, h3⟩
    · exact .inl (hW5.own.2.2 q v g HV.out (h ▸ hg))
    · rw [hg] at h1
      obtain rfl := Option.some.inj h1
      exact .inr ⟨h2, h3⟩)
  go_upto_region 10 with fail
  have T9 : Turn (fun k => k = bb ∨ k = gr ∨ v.ownBlock = some k) w (w8.setCell ⟨gr, q, none⟩ (.slice (some ⟨gv, ov, none⟩) ((b.row q).length + 1) cv)) := T8.trans (Turn.setCell _ _ _ (.inr (.inl rfl)))
  have hs9 : (w8.setCell ⟨gr, q, none⟩ (.slice (some ⟨gv, ov, none⟩) ((b.row q).length + 1) cv)).heap.size = w8.heap.size := by simp [World.setCell]
  obtain ⟨w9, hw9⟩ : ∃ W, W = w8.setCell ⟨gr, q, none⟩ (.slice (some ⟨gv, ov, none⟩) ((b.row q).length + 1) cv) := ⟨_, rfl⟩
  rw [← hw9] at hW9 T9 hs9 ⊢
  have hOv : ∀ k, v.ownBlock = some k → Own k := fun k hk => hW5.own.2.2 q v k HV.out hk
  have hTO : Turn Own w w9 := T9.mono fun k _ hk => by
    rcases hk with h | h | h
    · rw [h]; exact hW5.own.1
    · rw [h]; exact hW5.own.2.1
    · exact hOv k h
  have hO1 : ∀ k, Own' k → Own k ∨ (w.heap.size ≤ k ∧ k < w9.heap.size) := fun k hk => by
    rw [hOwn'] at hk
    rcases hk with h | ⟨h1, h2⟩
    · exact .inl h
    · exact .inr ⟨Nat.le_trans T5.size h1, by rw [hs9]; exact h2⟩
  have hO2 : ∀ k, Own k → Own' k := fun k hk => by rw [hOwn']; exact .inl hk
  have c6 : w9.cell? ⟨bb, 6, none⟩ = some (.int .i64 (n : Int)) := hW9.box.box.cell 6
  have f6 : w9.frozen? ⟨bb, 6, none⟩ = false := hW9.box.box.frozen 6
  have hn63 : (n : Int) + 1 ≤ 70000 := by have := HN.out; omega
  have hW10 := hW9.cellB 6 (.int .i64 ((n : Int) + 1)) (b' := b.more id m) (n' := n + 1) rfl rfl
  have hTO2 : Turn Own w (w9.setCell ⟨bb, 6, none⟩ (.int .i64 ((n : Int) + 1))) := hTO.trans (Turn.setCell _ _ _ hW5.own.1)
  have HOWN := Lib.hid (show Own bb ∧ Own gr from ⟨hW5.own.1, hW5.own.2.1⟩)
  clear cg fg hJ8 hw9 hkeep hnew r1 T8 T9 hOv hW5 T5 hro HV hs58 hOwn'
  have hs10 : (w9.setCell ⟨bb, 6, none⟩ (.int .i64 ((n : Int) + 1))).heap.size = w9.heap.size := by simp [World.setCell]
  have hIn := hW10.toIn (by show n + 1 = (b.I ++ [(id, m)]).length; rw [HN.out]; simp) (fun k _ => by
    rw [Bk.more_row, ← HQ.out]
    by_cases hk : k = q
    · rw [if_pos hk, if_pos hk, hk]
    · rw [if_neg hk, if_neg hk]) hl3 ht3 (fun x hx => by
    rcases List.mem_append.1 hx with h | h
    · have := HR3.out x h
      show min l3 q ≤ b.ix x.2 ∧ b.ix x.2 ≤ max t3 q
      omega
    · rw [List.mem_singleton.1 h]
      show min l3 q ≤ b.ix m ∧ b.ix m ≤ max t3 q
      rw [← HQ.out]
      omega)
  clear hW9 hW10 hTO
  go_upto_region 11 with fail
  obtain ⟨w10, hw10⟩ : ∃ W, W = w9.setCell ⟨bb, 6, none⟩ (.int .i64 ((n : Int) + 1)) := ⟨_, rfl⟩
  rw [← hw10] at hIn hTO2 hs10 ⊢
  rw [← hs10] at hO1
  obtain ⟨l5, t5, vs5, hIn⟩ : ∃ l t vs', BkIn w10 (b.more id m) bb gr l t vs' Own' := ⟨_, _, _, hIn⟩
  have hA := hIn.at_
  have q3 := KeptW.cell hA.c3
  have q6 := KeptW.cell (show w10.cell? ⟨bb, 6, none⟩ = some (.int .i64 ((n : Int) + 1)) by have h6 := hA.c6; rw [show ((b.more id m).I.length : Int) = (n : Int) + 1 by show (((b.I ++ [(id, m)]).length : Nat) : Int) = _; rw [HN.out]; simp] at h6; exact h6)
  have hcap : (b.more id m).cap = b.cap := rfl
  rw [hcap] at q3
  clear hw10 hs10 c6 f6 hA hcap
  have hfit : n + 1 ≤ b.cap := by
    have h1 := HN.out
    rw [hI] at h1
    have h2 := hb.c0
    simp at h1
    omega
  have hf1 : (n : Int) + 1 ≤ (b.cap : Int) := by omega
  refine wp_region_kept (by kernel_rfl) (by kernel_rfl) ?_
  repeat first
    | go_big_quiet_step (fail)
  refine wpQuiet_nil ?_
  intro w11 B11
  clear q3 q6
  go_wp2
  refine bodyPost_ret (results_tmp3 rfl rfl rfl rfl) rfl ?_
  refine (show BkPutPost b id m bb gr Own w _ _ from ⟨l5, t5, vs5, Own', ?_, fun k hk => (hO1 k hk).imp_right fun h => ⟨h.1, Nat.lt_of_lt_of_le h.2 B11.size⟩, hO2, hTO2.trans (Turn.ofBelow B11)⟩)
  rw [if_pos (by show (b.I ++ [(id, m)]).length ≤ b.cap; rw [HN.out] at hfit; simpa using hfit)]
  exact ⟨rfl, hIn.kept B11⟩
end Go.Proofs.YtnjmplapjnnjdaaGreat
