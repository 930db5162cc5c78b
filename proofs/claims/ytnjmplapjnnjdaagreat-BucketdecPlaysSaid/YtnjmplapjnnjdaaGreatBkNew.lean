import Derived.Test.YtnjmplapjnnjdaaGreatBkPut
set_option linter.unusedSimpArgs false
set_option linter.unusedVariables false
set_option linter.unnecessarySimpa false
/- Buckets: the walk of Put, where there is something already. -/
namespace Go.Proofs.YtnjmplapjnnjdaaGreat
open Go.RowKit

set_option maxRecDepth 5000 in
set_option maxHeartbeats 2000000 in
theorem bk_Put_ne {b : Bk} (hb : b.Ok) (hl : b.I.length ≤ b.cap) (hI : b.I ≠ []) {id : Nat} {m : Int} (h1 : b.lo ≤ m) (h2 : m ≤ b.hi) (hi : id ≤ 1000000) {bb gr low top : Nat} {vs : List Value} {Own : Nat → Prop} (w : World) (h : BkIn w b bb gr low top vs Own) :
    Calls Tryz.prog 41 #[.pointer (some ⟨bb, 0, none⟩), .int .i64 m, .int .i64 id] w (BkPutPost b id m bb gr Own w) := by
  have hK1 := hb.kpos.1
  have hK2 := hb.kpos.2.1
  have hbase := hb.base
  have hix := (hb.ix h1 h2).1
  have hixK := (hb.ix h1 h2).2
  have hc1 := hb.c1
  have hd := hb.d0
  have t1 : decide (m < b.lo) = false := by simp; omega
  have t2 : decide (b.hi < m) = false := by simp; omega
  have hml := hb.lo0
  have hmh := hb.hi0
  obtain ⟨q, hq⟩ : ∃ q, q = b.ix m := ⟨_, rfl⟩
  rw [← hq] at hix hixK
  have hqk : (q : Int) < (b.K : Int) := by omega
  have HQ := Lib.hid hq
  have HIX := Lib.hid hix
  have hmb1 : -9223372036854775808 ≤ m := by omega
  have hmb2 : m ≤ 9223372036854775807 := by omega
  have hw0 : IntKind.i64.wrap (m / b.D - b.base) = (q : Int) := by rw [IntWalk.i64_in _ (by omega), hix]
  clear hq hix
  go_enter Tryz.func41, Tryz.ntmps41
  go_wp2_with fail
  refine (bk_none hb w h).mono ?_
  rintro e w1 ⟨rfl, B1⟩
  have h1' := h.kept B1
  have a1 := h1'.at_
  have c1 := a1.c1
  have c2 := a1.c2
  go_upto_region 5 with fail
  have q0 := KeptW.cell a1.c0
  have q4 := KeptW.cell a1.c4
  (refine wp_region_kept_tail 11 (by kernel_rfl) (by kernel_rfl) ?_; simp only [List.take_succ_cons, List.take_zero, List.drop_succ_cons, List.drop_zero])
  repeat first
    | go_big_quiet_step (exact Calls.kept (bk_index m b.D hd hmb1 hmb2 _))
  refine wpQuiet_nil ?_
  intro w2 B2
  have h2' := h1'.kept B2
  clear c1 c2 q0 q4 hw0 a1 h1' t1 t2
  have B20 := bOn B1 B2
  have hW2 := h2'.toW
  clear B1 B2
  go_upto_region 6 with fail
  have c6 := h2'.at_.c6
  have T2 : Turn (fun k => k = bb) w w2 := Turn.ofBelow B20
  have hw8a : ∀ l : Nat, min (l : Int) (q : Int) = ((min l q : Nat) : Int) := fun l => by omega
  have hw8b : ∀ l : Nat, max (l : Int) (q : Int) = ((max l q : Nat) : Int) := fun l => by omega
  obtain ⟨n, hn⟩ : ∃ n, n = b.I.length := ⟨_, rfl⟩
  rw [← hn] at hW2 c6
  have HN := Lib.hid hn
  have hz : ((n : Int) == 0) = false := by
    have : b.I.length ≠ 0 := fun h => hI (List.length_eq_zero_iff.1 h)
    simp; omega
  clear hn
  go_upto_region 8 with fail
  obtain ⟨w3, hw3⟩ : ∃ W, W = w2 := ⟨_, rfl⟩
  have T3 : Turn (fun k => k = bb) w w3 := hw3 ▸ T2
  obtain ⟨l3, t3, hW3, hr3, hlk, htk⟩ : ∃ l3 t3, BkW w3 b bb gr n l3 t3 vs b.row Own ∧ (∀ x ∈ b.I, l3 ≤ b.ix x.2 ∧ b.ix x.2 ≤ t3) ∧ l3 < b.K ∧ t3 < b.K := ⟨low, top, hw3 ▸ hW2, h2'.rng, h2'.low_lt, h2'.top_lt⟩
  rw [← hw3]
  clear hw3 hI hz
  clear c6 h2' hW2 T2
  have HR3 := Lib.hid hr3
  have hl3 : min l3 q < b.K := by omega
  have ht3 : max t3 q < b.K := by omega
  have x7 := hw8a l3
  have x8 := hw8b t3
  clear hr3 hw8a hw8b
  (refine wp_region_treeV (fun W => BkW W b bb gr n l3 t3 vs b.row Own) 16 (.free 0 (.free 1 (.free 2 (.free 3 (.free 4 (.pure 5 (.free 6 (.free 7 (.free 8 (.free 9 (.free 10 (.pure 11 (.free 12 (.free 13 (.free 14 (.free 15 (.one 16 (.free 17 (.free 18 (.one 19 .nil)))))))))))))))))))) (by kernel_rfl) (by kernel_rfl) ?_; simp only [List.getD_cons_zero, List.getD_cons_succ, wpOVI])
  intro w4 B4
  have hW4 := hW3.kept B4
  iterate 5
    refine ⟨rfl, _, fun W => by go_simp; first | done | rfl, ?_⟩
    try simp only [put_list, List.set_cons_zero, List.set_cons_succ]
  refine ⟨fun _ => hW4, .int .i64 (l3 : Int), fun W hI => by have c7 : W.cell? ⟨bb, 7, none⟩ = some (.int .i64 (l3 : Int)) := hI.box.box.cell 7; go_simp, ?_⟩
  try simp only [put_list, List.set_cons_zero, List.set_cons_succ]
  iterate 1
    refine ⟨rfl, _, fun W => by go_simp; first | done | rfl, ?_⟩
    try simp only [put_list, List.set_cons_zero, List.set_cons_succ]
  refine ⟨rfl, .int .i64 ((min l3 q : Nat) : Int), fun W => by
    rcases Nat.le_total l3 q with h | h
    · rw [Nat.min_eq_left h]
      have h' : (l3 : Int) ≤ (q : Int) := by omega
      go_simp; first | done | omega
    · rw [Nat.min_eq_right h]
      have h' : (q : Int) ≤ (l3 : Int) := by omega
      go_simp; first | done | omega, ?_⟩
  try simp only [put_list, List.set_cons_zero, List.set_cons_succ]
  iterate 3
    refine ⟨rfl, _, fun W => by go_simp; first | done | rfl, ?_⟩
    try simp only [put_list, List.set_cons_zero, List.set_cons_succ]
  refine ⟨fun _ => hW4, .int .i64 (t3 : Int), fun W hI => by have c8 : W.cell? ⟨bb, 8, none⟩ = some (.int .i64 (t3 : Int)) := hI.box.box.cell 8; go_simp, ?_⟩
  try simp only [put_list, List.set_cons_zero, List.set_cons_succ]
  iterate 1
    refine ⟨rfl, _, fun W => by go_simp; first | done | rfl, ?_⟩
    try simp only [put_list, List.set_cons_zero, List.set_cons_succ]
  refine ⟨rfl, .int .i64 ((max t3 q : Nat) : Int), fun W => by
    rcases Nat.le_total t3 q with h | h
    · rw [Nat.max_eq_right h]
      have h' : (t3 : Int) ≤ (q : Int) := by omega
      go_simp; first | done | omega
    · rw [Nat.max_eq_left h]
      have h' : (q : Int) ≤ (t3 : Int) := by omega
      go_simp; first | done | omega, ?_⟩
  try simp only [put_list, List.set_cons_zero, List.set_cons_succ]
  iterate 2
    refine ⟨rfl, _, fun W => by go_simp; first | done | rfl, ?_⟩
    try simp only [put_list, List.set_cons_zero, List.set_cons_succ]
  refine ⟨fun _ => hW4, ?_⟩
  have c7 : w4.cell? ⟨bb, 7, none⟩ = some (.int .i64 (l3 : Int)) := hW4.box.box.cell 7
  have c8 : w4.cell? ⟨bb, 8, none⟩ = some (.int .i64 (t3 : Int)) := hW4.box.box.cell 8
  have f7 := hW4.box.box.frozen 7
  have f8 := hW4.box.box.frozen 8
  clear x7 x8
  go_wp2
  have hW5 := (hW4.cellB 7 (.int .i64 ((min l3 q : Nat) : Int)) (b' := b) (low' := min l3 q) rfl rfl).cellB 8 (.int .i64 ((max t3 q : Nat) : Int)) (b' := b) (top' := max t3 q) rfl rfl
  have T5 : Turn (fun k => k = bb) w ((w4.setCell ⟨bb, 7, none⟩ (.int .i64 ((min l3 q : Nat) : Int))).setCell ⟨bb, 8, none⟩ (.int .i64 ((max t3 q : Nat) : Int))) := ((T3.trans (Turn.ofBelow B4)).trans (Turn.setCell _ _ _ rfl)).trans (Turn.setCell _ _ _ rfl)
  obtain ⟨w5, hw5⟩ : ∃ W, W = (w4.setCell ⟨bb, 7, none⟩ (.int .i64 ((min l3 q : Nat) : Int))).setCell ⟨bb, 8, none⟩ (.int .i64 ((max t3 q : Nat) : Int)) := ⟨_, rfl⟩
  rw [← hw5] at hW5 T5 ⊢
  clear hw5 c7 c8 f7 f8 hW4 hW3 T3 B4
  have hqv : q < vs.length := by rw [hW5.vlen]; exact hixK
  obtain ⟨v, hv⟩ : ∃ v, vs[q]? = some v := ⟨_, List.getElem?_eq_getElem hqv⟩
  have hro := hW5.rows q v hv
  have hrl : (b.row q).length ≤ 1000000 := by
    have h2 : (b.row q).length ≤ b.I.length := by unfold Bk.row; rw [List.length_map]; exact List.length_filter_le ..
    omega
  have HV := Lib.hid hv
  clear hv hqv
  (refine wp_region_treeV (BkJ b bb gr n (min l3 q) (max t3 q) vs) 16 (.free 0 (.free 1 (.free 2 (.pure 3 (.free 4 (.free 5 (.free 6 (.free 7 (.pure 8 (.free 9 (.free 10 (.pure 11 (.free 12 (.one 13 (.one 14 (.free 15 (.one 16 .nil))))))))))))))))) (by kernel_rfl) (by kernel_rfl) ?_; simp only [List.getD_cons_zero, List.getD_cons_succ, wpOVI])
  intro w6 B6
  have hW6 := hW5.kept B6
  have hro6 := hro.block (w' := w6) fun k hk => B6.block k (hro.lt hk)
  have hJ6 : BkJ b bb gr n (min l3 q) (max t3 q) vs w6 := ⟨hW6.box, hW6.arr⟩
  iterate 3
    refine ⟨rfl, _, fun W => by go_simp; first | done | rfl, ?_⟩
    try simp only [put_list, List.set_cons_zero, List.set_cons_succ]
  refine ⟨fun _ => hJ6, .slice (some ⟨gr, 0, none⟩) b.K b.K, fun W hI => by have c5 : W.cell? ⟨bb, 5, none⟩ = some (.slice (some ⟨gr, 0, none⟩) b.K b.K) := hI.1.box.cell 5; go_simp, ?_⟩
  try simp only [put_list, List.set_cons_zero, List.set_cons_succ]
  iterate 4
    refine ⟨rfl, _, fun W => by go_simp; first | done | rfl, ?_⟩
    try simp only [put_list, List.set_cons_zero, List.set_cons_succ]
  refine ⟨fun _ => hJ6, .slice (some ⟨gr, 0, none⟩) b.K b.K, fun W hI => by have c5 : W.cell? ⟨bb, 5, none⟩ = some (.slice (some ⟨gr, 0, none⟩) b.K b.K) := hI.1.box.cell 5; go_simp, ?_⟩
  try simp only [put_list, List.set_cons_zero, List.set_cons_succ]
  iterate 2
    refine ⟨rfl, _, fun W => by go_simp; first | done | rfl, ?_⟩
    try simp only [put_list, List.set_cons_zero, List.set_cons_succ]
  refine ⟨fun _ => hJ6, v, fun W hI => by have cq : W.cell? ⟨gr, q, none⟩ = some v := by { rw [hI.2.box.cell, List.getElem?_toArray]; exact HV.out }; go_simp, ?_⟩
  try simp only [put_list, List.set_cons_zero, List.set_cons_succ]
  iterate 1
    refine ⟨rfl, _, fun W => by go_simp; first | done | rfl, ?_⟩
    try simp only [put_list, List.set_cons_zero, List.set_cons_succ]
  refine ⟨fun _ => hJ6, ?_⟩
  go_wp2
  have BA : Below w6.heap.size w6 (w6.alloc (.cells #[.int .i64 (id : Int)] 3)) := (Below.refl _ _).alloc (Nat.le_refl _) _
  have hW7 := hW6.kept BA
  have hJ7 : BkJ b bb gr n (min l3 q) (max t3 q) vs (w6.alloc (.cells #[.int .i64 (id : Int)] 3)) := ⟨hW7.box, hW7.arr⟩
  have hro7 := hro6.block (w' := w6.alloc (.cells #[.int .i64 (id : Int)] 3)) fun k hk => BA.block k (hro6.lt hk)
  have hbx : (w6.alloc (.cells #[.int .i64 (id : Int)] 3)).cell? ⟨w6.heap.size, 0, none⟩ = some (.int .i64 (id : Int)) := (Box.new w6 #[.int .i64 (id : Int)] 3).cell 0
  refine ⟨hJ7, ?_⟩
  refine apO hro7 rfl rfl hbx hrl ?_
  intro v' w8 r1 r2 r3
  obtain ⟨gv, ov, cv, rfl⟩ := r2
  have hkeep : ∀ g, g < w5.heap.size → v.ownBlock ≠ some g → w8.heap[g]? = w5.heap[g]? := fun g hg hne => by
    have e1 : (w6.alloc (.cells #[.int .i64 (id : Int)] 3)).heap[g]? = w5.heap[g]? := (bOn B6 BA).block g hg
    have h6 : g < (w6.alloc (.cells #[.int .i64 (id : Int)] 3)).heap.size := Nat.lt_of_lt_of_le hg (bOn B6 BA).size
    rcases r3 with ⟨g', a1, a2, a3⟩ | ⟨a1, a3⟩
    · exact (a3.block g h6 (fun e => hne (by rw [a1, ← e]))).trans e1
    · exact (a3.block g h6 (fun e => by cases e)).trans e1
  have hJ8 : BkJ b bb gr n (min l3 q) (max t3 q) vs w8 := ⟨hW5.box.same (hkeep bb (Box.lt ⟨_, hW5.box⟩) (hro.own_ne hW5.box (by decide))), hW5.arr.same (hkeep gr (Box.lt ⟨_, hW5.arr⟩) (hro.own_ne hW5.arr (by decide)))⟩
  have hs58 : w5.heap.size ≤ w8.heap.size := by
    have h1 := (bOn B6 BA).size
    rcases r3 with ⟨g', a1, a2, a3⟩ | ⟨a1, a3⟩
    · exact Nat.le_trans h1 a3.size
    · exact Nat.le_trans h1 a3.size
  have hnew : (Value.slice (some ⟨gv, ov, none⟩) ((b.row q).length + 1) cv).ownBlock = v.ownBlock ∨ ∃ g, (Value.slice (some ⟨gv, ov, none⟩) ((b.row q).length + 1) cv).ownBlock = some g ∧ w5.heap.size ≤ g ∧ g < w8.heap.size := by
    rcases r3 with ⟨g', a1, a2, a3⟩ | ⟨a1, a3⟩
    · exact .inl (a2.trans a1.symm)
    · exact .inr ⟨_, a1, (bOn B6 BA).size, r1.lt a1⟩
  have T8 : Turn (fun k => k = bb ∨ k = gr ∨ v.ownBlock = some k) w w8 := by
    have tt : Turn (fun k => k = bb ∨ k = gr ∨ v.ownBlock = some k) w (w6.alloc (.cells #[.int .i64 (id : Int)] 3)) := (T5.mono fun k _ hk => .inl hk).trans (Turn.ofBelow (bOn B6 BA))
    rcases r3 with ⟨g', a1, a2, a3⟩ | ⟨a1, a3⟩
    · exact tt.trans ((Turn.grown a3).mono fun k _ hk => .inr (.inr (by rw [a1]; exact hk.symm)))
    · exact tt.trans ((Turn.grown a3).mono fun k _ hk => by cases hk)
  clear r3 hro7 hbx hJ7 hW7 hW6 hJ6 hro6 BA
  refine ⟨rfl, ?_⟩
  refine ⟨.pointer (some ⟨gr, q, none⟩), fun W => by go_simp; first | done | rfl, ?_⟩
  try simp only [put_list, List.set_cons_zero, List.set_cons_succ]
  have cg : w8.cell? ⟨gr, q, none⟩ = some v := by rw [hJ8.2.box.cell, List.getElem?_toArray]; exact HV.out
  have fg : w8.frozen? ⟨gr, q, none⟩ = false := hJ8.2.box.frozen q
  refine ⟨hJ8, ?_⟩
  obtain ⟨Own', hOwn'⟩ : ∃ O : Nat → Prop, O = fun k => Own k ∨ (w5.heap.size ≤ k ∧ k < w8.heap.size) := ⟨_, rfl⟩
  have hW9 := hW5.put (w1 := w8) (Own' := Own') HV.out r1 hkeep (by rcases hnew with h | ⟨g, h1, h2, h3⟩; exact .inl h; exact .inr ⟨g, h1, h2⟩) (fun g hg => by rw [hOwn']; exact .inl hg) (fun g hg => by
    rw [hOwn']
    rcases hnew with h | ⟨g', h1, h2, h3⟩
    · exact .inl (hW5.own.2.2 q v g HV.out (h ▸ hg))
    · rw [hg] at h1
      obtain rfl := Option.some.inj h1
      exact .inr ⟨h2, h3⟩)
  go_upto_region 10 with fail
  have T9 : Turn (fun k => k = bb ∨ k = gr ∨ v.ownBlock = some k) w (w8.setCell ⟨gr, q, none⟩ (.slice (some ⟨gv, ov, none⟩) ((b.row q).length + 1) cv)) := T8.trans (Turn.setCell _ _ _ (.inr (.inl rfl)))
  have hs9 : (w8.setCell ⟨gr, q, none⟩ (.slice (some ⟨gv, ov, none⟩) ((b.row q).length + 1) cv)).heap.size = w8.heap.size := by simp [World.setCell]
  obtain ⟨w9, hw9⟩ : ∃ W, W = w8.setCell ⟨gr, q, none⟩ (.slice (some ⟨gv, ov, none⟩) ((b.row q).length + 1) cv) := ⟨_, rfl⟩
  rw [← hw9] at hW9 T9 hs9 ⊢
  have hOv : ∀ k, v.ownBlock = some k → Own k := fun k hk => hW5.own.2.2 q v k HV.out hk
  have hTO : Turn Own w w9 := T9.mono fun k _ hk => by
    rcases hk with h | h | h
    · rw [h]; exact hW5.own.1
    · rw [h]; exact hW5.own.2.1
    · exact hOv k h
  have hO1 : ∀ k, Own' k → Own k ∨ (w.heap.size ≤ k ∧ k < w9.heap.size) := fun k hk => by
    rw [hOwn'] at hk
    rcases hk with h | ⟨h1, h2⟩
    · exact .inl h
    · exact .inr ⟨Nat.le_trans T5.size h1, by rw [hs9]; exact h2⟩
  have hO2 : ∀ k, Own k → Own' k := fun k hk => by rw [hOwn']; exact .inl hk
  have c6 : w9.cell? ⟨bb, 6, none⟩ = some (.int .i64 (n : Int)) := hW9.box.box.cell 6
  have f6 : w9.frozen? ⟨bb, 6, none⟩ = false := hW9.box.box.frozen 6
  have hn63 : (n : Int) + 1 ≤ 70000 := by have := HN.out; omega
  have hW10 := hW9.cellB 6 (.int .i64 ((n : Int) + 1)) (b' := b.more id m) (n' := n + 1) rfl rfl
  have hTO2 : Turn Own w (w9.setCell ⟨bb, 6, none⟩ (.int .i64 ((n : Int) + 1))) := hTO.trans (Turn.setCell _ _ _ hW5.own.1)
  have HOWN := Lib.hid (show Own bb ∧ Own gr from ⟨hW5.own.1, hW5.own.2.1⟩)
  clear cg fg hJ8 hw9 hkeep hnew r1 T8 T9 hOv hW5 T5 hro HV hs58 hOwn'
  have hs10 : (w9.setCell ⟨bb, 6, none⟩ (.int .i64 ((n : Int) + 1))).heap.size = w9.heap.size := by simp [World.setCell]
  have hIn := hW10.toIn (by show n + 1 = (b.I ++ [(id, m)]).length; rw [HN.out]; simp) (fun k _ => by
    rw [Bk.more_row, ← HQ.out]
    by_cases hk : k = q
    · rw [if_pos hk, if_pos hk, hk]
    · rw [if_neg hk, if_neg hk]) hl3 ht3 (fun x hx => by
    rcases List.mem_append.1 hx with h | h
    · have := HR3.out x h
      show min l3 q ≤ b.ix x.2 ∧ b.ix x.2 ≤ max t3 q
      omega
    · rw [List.mem_singleton.1 h]
      show min l3 q ≤ b.ix m ∧ b.ix m ≤ max t3 q
      rw [← HQ.out]
      omega)
  clear hW9 hW10 hTO
  go_upto_region 11 with fail
  obtain ⟨w10, hw10⟩ : ∃ W, W = w9.setCell ⟨bb, 6, none⟩ (.int .i64 ((n : Int) + 1)) := ⟨_, rfl⟩
  rw [← hw10] at hIn hTO2 hs10 ⊢
  rw [← hs10] at hO1
  obtain ⟨l5, t5, vs5, hIn⟩ : ∃ l t vs', BkIn w10 (b.more id m) bb gr l t vs' Own' := ⟨_, _, _, hIn⟩
  have hA := hIn.at_
  have q3 := KeptW.cell hA.c3
  have q6 := KeptW.cell (show w10.cell? ⟨bb, 6, none⟩ = some (.int .i64 ((n : Int) + 1)) by have h6 := hA.c6; rw [show ((b.more id m).I.length : Int) = (n : Int) + 1 by show (((b.I ++ [(id, m)]).length : Nat) : Int) = _; rw [HN.out]; simp] at h6; exact h6)
  have hcap : (b.more id m).cap = b.cap := rfl
  rw [hcap] at q3
  clear hw10 hs10 c6 f6 hA hcap
  by_cases hfit : n + 1 ≤ b.cap
  · have hf1 : (n : Int) + 1 ≤ (b.cap : Int) := by omega
    refine wp_region_kept (by kernel_rfl) (by kernel_rfl) ?_
    repeat first
      | go_big_quiet_step (fail)
    refine wpQuiet_nil ?_
    intro w11 B11
    clear q3 q6
    go_wp2
    refine bodyPost_ret (results_tmp3 rfl rfl rfl rfl) rfl ?_
    refine (show BkPutPost b id m bb gr Own w _ _ from ⟨l5, t5, vs5, Own', ?_, fun k hk => (hO1 k hk).imp_right fun h => ⟨h.1, Nat.lt_of_lt_of_le h.2 B11.size⟩, hO2, hTO2.trans (Turn.ofBelow B11)⟩)
    rw [if_pos (by show (b.I ++ [(id, m)]).length ≤ b.cap; rw [HN.out] at hfit; simpa using hfit)]
    exact ⟨rfl, hIn.kept B11⟩
  · have hf1 : ¬ (n : Int) + 1 ≤ (b.cap : Int) := by omega
    refine wp_region_kept (by kernel_rfl) (by kernel_rfl) ?_
    repeat first
      | go_big_quiet_step (fail)
    refine wpQuiet_nil ?_
    intro w11 B11
    clear q3 q6
    have hb2 := hb.more hl h1 h2 hi
    have hIn11 := hIn.kept B11
    have hne2 : (b.more id m).I ≠ [] := by show b.I ++ [(id, m)] ≠ []; simp
    obtain ⟨x, hx, hf⟩ := hb2.low_ hne2
    have HFIT := Lib.hid hfit
    have HX := Lib.hid hx
    clear hIn hf1 hfit hx
    go_wp2_with fail
    refine (bk_Lowest hb2 hne2 w11 hIn11).mono ?_
    rintro e w12 ⟨lw, rfl, h12, hex, T12⟩
    obtain ⟨e1, e2, e3, e4⟩ := hf lw hex (fun y hy => (h12.rng y hy).1)
    have hlw := h12.low_lt
    have hKK : (b.more id m).K = b.K := rfl
    have hDD : (b.more id m).D = b.D := rfl
    have hBB : (b.more id m).base = b.base := rfl
    obtain ⟨a, c, hv, cr⟩ := h12.row hlw
    rw [hKK] at hlw
    rw [hDD, hBB] at e2
    rw [hBB]
    obtain ⟨ys, hys⟩ : ∃ ys, ys = ({ b.more id m with I := (b.more id m).I.eraseIdx (b.more id m).lowIx } : Bk).row lw := ⟨_, rfl⟩
    rw [← hys] at e3
    have hlen : ((b.more id m).row lw).length = ys.length + 1 := by rw [e3]; simp
    have hro := h12.rows lw _ hv
    obtain ⟨g, off, c', hsl, cx⟩ := hro.at_ (i := 0) (x := (x.1 : Int)) (by rw [e3]; rfl)
    obtain ⟨rfl, rfl⟩ : a = some ⟨g, off, none⟩ ∧ c = c' := by simpa using hsl
    have hro2 := hro.tail e3
    rw [hlen] at hv cr
    have hcap2 : ys.length + 1 ≤ c := by
      rcases hro with ⟨h, _⟩ | ⟨g', off', cap, cur, hv', hg, h1', h2', h3'⟩
      · cases h
      · obtain ⟨_, rfl⟩ : _ ∧ c = cap := by simpa using hv'
        omega
    have HE2 := Lib.hid e2
    have HE4 := Lib.hid e4
    have HYS := Lib.hid hys
    have HRG := Lib.hid (fun y (hy : y ∈ (b.more id m).I.eraseIdx (b.more id m).lowIx) => h12.rng y (mem_erase hy))
    have hlk2 : (lw : Int) < (b.K : Int) := by omega
    have HK := Lib.hid hKK
    clear hf hex e1 e2 e3 e4 hys hlen hsl hro hKK hDD hIn11
    have c4 : w12.cell? ⟨bb, 4, none⟩ = some (.int .i64 b.base) := h12.at_.c4
    have c5 : w12.cell? ⟨bb, 5, none⟩ = some (.slice (some ⟨gr, 0, none⟩) b.K b.K) := h12.at_.c5
    clear hBB
    have cx0 : w12.cell? ⟨g, off, none⟩ = some (.int .i64 (x.1 : Int)) := cx
    clear cx
    go_upto_region 16 with fail
    obtain ⟨A, hA⟩ : ∃ A : Addr, A = if c = 1 then ⟨g, off, none⟩ else ⟨g, off + 1, none⟩ := ⟨_, rfl⟩
    have hAb : A.block = g := by rw [hA]; split <;> rfl
    have hro3 : RowO w12 (.slice (some A) ys.length (c - 1)) ys := by
      rw [hA]
      split
      · rename_i hc; exact hro2.2 hc
      · exact hro2.1
    have HA := Lib.hid hA
    clear hA hro2 c4 c5 cx0
    (refine wp_region_treeV (fun W => BkIn W (b.more id m) bb gr lw t5 vs5 Own') 14 (.free 0 (.free 1 (.free 2 (.pure 3 (.free 4 (.free 5 (.free 6 (.free 7 (.pure 8 (.free 9 (.free 10 (.pure 11 (.free 12 (.free 13 (.one 14 .nil))))))))))))))) (by kernel_rfl) (by kernel_rfl) ?_; simp only [List.getD_cons_zero, List.getD_cons_succ, wpOVI])
    intro w14 B14
    have h14 := h12.kept B14
    iterate 3
      refine ⟨rfl, _, fun W => by go_simp; first | done | rfl, ?_⟩
      try simp only [put_list, List.set_cons_zero, List.set_cons_succ]
    refine ⟨fun _ => h14, .slice (some ⟨gr, 0, none⟩) b.K b.K, fun W hI => by have c5 : W.cell? ⟨bb, 5, none⟩ = some (.slice (some ⟨gr, 0, none⟩) b.K b.K) := hI.at_.c5; go_simp, ?_⟩
    try simp only [put_list, List.set_cons_zero, List.set_cons_succ]
    iterate 4
      refine ⟨rfl, _, fun W => by go_simp; first | done | rfl, ?_⟩
      try simp only [put_list, List.set_cons_zero, List.set_cons_succ]
    refine ⟨fun _ => h14, .slice (some ⟨gr, 0, none⟩) b.K b.K, fun W hI => by have c5 : W.cell? ⟨bb, 5, none⟩ = some (.slice (some ⟨gr, 0, none⟩) b.K b.K) := hI.at_.c5; go_simp, ?_⟩
    try simp only [put_list, List.set_cons_zero, List.set_cons_succ]
    iterate 2
      refine ⟨rfl, _, fun W => by go_simp; first | done | rfl, ?_⟩
      try simp only [put_list, List.set_cons_zero, List.set_cons_succ]
    refine ⟨fun _ => h14, .slice (some ⟨g, off, none⟩) (ys.length + 1) c, fun W hI => by have cq : W.cell? ⟨gr, lw, none⟩ = some (.slice (some ⟨g, off, none⟩) (ys.length + 1) c) := by { rw [hI.arr.box.cell, List.getElem?_toArray]; exact hv }; go_simp, ?_⟩
    try simp only [put_list, List.set_cons_zero, List.set_cons_succ]
    refine ⟨rfl, .slice (some A) ys.length (c - 1), fun W => by rw [HA.out]; exact pure_slLo1 (n := ys.length + 1) rfl rfl (by omega) hcap2, ?_⟩
    try simp only [put_list, List.set_cons_zero, List.set_cons_succ]
    iterate 1
      refine ⟨rfl, _, fun W => by go_simp; first | done | rfl, ?_⟩
      try simp only [put_list, List.set_cons_zero, List.set_cons_succ]
    refine ⟨fun _ => h14, ?_⟩
    have cg : w14.cell? ⟨gr, lw, none⟩ = some (.slice (some ⟨g, off, none⟩) (ys.length + 1) c) := by rw [h14.arr.box.cell, List.getElem?_toArray]; exact hv
    have fg : w14.frozen? ⟨gr, lw, none⟩ = false := h14.arr.box.frozen lw
    have hro4 := hro3.block (w' := w14) fun k hk => B14.block k (hro3.lt hk)
    have hW15 := h14.toW.put (w1 := w14) (Own' := Own') hv hro4 (fun _ _ _ => rfl) (.inl (by show some A.block = some g; rw [hAb])) (fun _ h => h) (fun k hk => h14.own.2.2 lw _ k hv (by rw [← hk]; show some g = some A.block; rw [hAb]))
    have hbO : Own bb ∧ Own gr := HOWN.out
    have T15 : Turn Own w (w14.setCell ⟨gr, lw, none⟩ (.slice (some A) ys.length (c - 1))) := (((hTO2.trans (Turn.ofBelow B11)).trans (T12.mono fun k _ hk => by rw [hk]; exact hbO.1)).trans (Turn.ofBelow B14)).trans (Turn.setCell _ _ _ hbO.2)
    have hsz15 : (w14.setCell ⟨gr, lw, none⟩ (.slice (some A) ys.length (c - 1))).heap.size = w14.heap.size := by simp [World.setCell]
    have hs14 : w10.heap.size ≤ w14.heap.size := Nat.le_trans B11.size (Nat.le_trans T12.size B14.size)
    go_upto_region 17 with fail
    obtain ⟨w15, hw15⟩ : ∃ W, W = w14.setCell ⟨gr, lw, none⟩ (.slice (some A) ys.length (c - 1)) := ⟨_, rfl⟩
    rw [← hw15] at hW15 T15 hsz15 ⊢
    have hnl : (b.more id m).I.length = n + 1 := by show (b.I ++ [(id, m)]).length = _; rw [HN.out]; simp
    have c6 : w15.cell? ⟨bb, 6, none⟩ = some (.int .i64 ((n : Int) + 1)) := by
      have h6 : w15.cell? ⟨bb, 6, none⟩ = some (.int .i64 ((b.more id m).I.length : Int)) := hW15.box.box.cell 6
      rw [hnl] at h6; exact h6
    have f6 := hW15.box.box.frozen 6
    rw [hnl] at hW15
    have hil : (b.more id m).lowIx < (b.more id m).I.length := by
      have hx := HX.out
      rcases Nat.lt_or_ge (b.more id m).lowIx (b.more id m).I.length with h | h
      · exact h
      · rw [List.getElem?_eq_none h] at hx; cases hx
    have hel : n = ((b.more id m).I.eraseIdx (b.more id m).lowIx).length := by rw [List.length_eraseIdx_of_lt hil, hnl]; rfl
    have HEL := Lib.hid hel
    have hW16 := hW15.cellB 6 (.int .i64 (n : Int)) (b' := { b.more id m with I := (b.more id m).I.eraseIdx (b.more id m).lowIx }) (n' := n) rfl rfl
    have T16 := T15.trans (Turn.setCell w15 ⟨bb, 6, none⟩ (.int .i64 (n : Int)) (H := Own) hbO.1)
    have hsz16 : (w15.setCell ⟨bb, 6, none⟩ (.int .i64 (n : Int))).heap.size = w15.heap.size := by simp [World.setCell]
    have hkey := Bk.keys_get HX.out
    have HKEY : Hid ((b.more id m).keys.getD (b.more id m).lowIx 0 = (lw : Int) + b.base) := Lib.hid (by rw [hkey]; exact HE2.out)
    clear hnl hil hel hkey hw15 hW15 T15 cg fg hro4 hro3 T12 B14 hTO2 h12 hv
    go_upto_region 18 with fail
    obtain ⟨w16, hw16⟩ : ∃ W, W = w15.setCell ⟨bb, 6, none⟩ (.int .i64 (n : Int)) := ⟨_, rfl⟩
    rw [← hw16] at hW16 T16 hsz16 ⊢
    obtain ⟨vs6, hvs6⟩ : ∃ v, v = vs5.set lw (.slice (some A) ys.length (c - 1)) := ⟨_, rfl⟩
    rw [← hvs6] at hW16
    clear hvs6
    have c9 : w16.cell? ⟨bb, 9, none⟩ = some (.int .i64 b.mark) := hW16.box.box.cell 9
    have c10 : w16.cell? ⟨bb, 10, none⟩ = some (.bool b.mkd) := hW16.box.box.cell 10
    have f9 := hW16.box.box.frozen 9
    have f10 := hW16.box.box.frozen 10
    have hcomp : ∀ k, Own' k → Own k ∨ (w.heap.size ≤ k ∧ k < w16.heap.size) := fun k hk => (hO1 k hk).imp_right fun h => ⟨h.1, by rw [hsz16, hsz15]; exact Nat.lt_of_lt_of_le h.2 hs14⟩
    have hnot : ¬ (b.more id m).I.length ≤ b.cap := by
      have := HFIT.out
      show ¬ (b.I ++ [(id, m)]).length ≤ b.cap
      rw [HN.out] at this
      simpa using this
    have HNOT := Lib.hid hnot
    clear hw16 c6 f6 hs14 hsz15 hsz16 hO1 hnot
    have key : ∀ k, k < b.K → (if k = lw then ys else (b.more id m).row k) = ({ b.more id m with I := (b.more id m).I.eraseIdx (b.more id m).lowIx } : Bk).row k := fun k _ => by
      by_cases hk : k = lw
      · rw [if_pos hk, hk]; exact HYS.out
      · rw [if_neg hk]; exact (HE4.out k hk).symm
    have KEY := Lib.hid key
    clear key
    by_cases hup : b.mkd = false ∨ b.mark < (lw : Int) + b.base
    · have hdr : (b.more id m).drop = { b.more id m with I := (b.more id m).I.eraseIdx (b.more id m).lowIx, mark := (lw : Int) + b.base, mkd := true } := by
        unfold Bk.drop
        rw [HKEY.out, if_pos (show (b.more id m).mkd = false ∨ (b.more id m).mark < (lw : Int) + b.base from hup)]
      have hW17 := (hW16.cellB 9 (.int .i64 ((lw : Int) + b.base)) (b' := { b.more id m with I := (b.more id m).I.eraseIdx (b.more id m).lowIx, mark := (lw : Int) + b.base }) rfl rfl).cellB 10 (.bool true) (b' := { b.more id m with I := (b.more id m).I.eraseIdx (b.more id m).lowIx, mark := (lw : Int) + b.base, mkd := true }) rfl rfl
      have T17 := (T16.trans (Turn.setCell w16 ⟨bb, 9, none⟩ (.int .i64 ((lw : Int) + b.base)) (H := Own) hbO.1)).trans (Turn.setCell _ ⟨bb, 10, none⟩ (.bool true) (H := Own) hbO.1)
      have hI17 := hW17.toIn HEL.out KEY.out h14.low_lt h14.top_lt HRG.out
      rw [← hdr] at hI17
      have HS17 : Hid (((w16.setCell ⟨bb, 9, none⟩ (.int .i64 ((lw : Int) + b.base))).setCell ⟨bb, 10, none⟩ (.bool true)).heap.size = w16.heap.size) := Lib.hid (by simp [World.setCell])
      clear hdr hW17 hW16 T16
      cases hmk : b.mkd with
      | false =>
        rw [hmk] at c10
        clear hup
        go_wp2
        refine bodyPost_ret (results_tmp3 rfl rfl rfl rfl) rfl ?_
        refine (show BkPutPost b id m bb gr Own w _ _ from ⟨lw, t5, vs6, Own', ?_, fun k hk => (hcomp k hk).imp_right fun h => ⟨h.1, by rw [HS17.out]; exact h.2⟩, hO2, T17⟩)
        rw [if_neg HNOT.out]
        exact ⟨x, HX.out, rfl, hI17⟩
      | true =>
        rw [hmk] at c10 hup
        have hlt : b.mark < (lw : Int) + b.base := by rcases hup with h | h; cases h; exact h
        clear hup
        go_wp2
        refine bodyPost_ret (results_tmp3 rfl rfl rfl rfl) rfl ?_
        refine (show BkPutPost b id m bb gr Own w _ _ from ⟨lw, t5, vs6, Own', ?_, fun k hk => (hcomp k hk).imp_right fun h => ⟨h.1, by rw [HS17.out]; exact h.2⟩, hO2, T17⟩)
        rw [if_neg HNOT.out]
        exact ⟨x, HX.out, rfl, hI17⟩
    · have hmk : b.mkd = true := by
        cases h : b.mkd with
        | true => rfl
        | false => exact absurd (.inl h) hup
      have hlt : ¬ b.mark < (lw : Int) + b.base := fun h => hup (.inr h)
      have hdr : (b.more id m).drop = { b.more id m with I := (b.more id m).I.eraseIdx (b.more id m).lowIx } := by
        unfold Bk.drop
        rw [HKEY.out, if_neg (show ¬((b.more id m).mkd = false ∨ (b.more id m).mark < (lw : Int) + b.base) from hup)]
        show Bk.mk _ _ _ _ _ _ true = Bk.mk _ _ _ _ _ _ b.mkd
        rw [hmk]
        try rfl
      have hI17 := hW16.toIn HEL.out KEY.out h14.low_lt h14.top_lt HRG.out
      rw [← hdr] at hI17
      rw [hmk] at c10
      clear hup hdr hmk hW16
      go_wp2
      refine bodyPost_ret (results_tmp3 rfl rfl rfl rfl) rfl ?_
      refine (show BkPutPost b id m bb gr Own w _ _ from ⟨lw, t5, vs6, Own', ?_, hcomp, hO2, T16⟩)
      rw [if_neg HNOT.out]
      exact ⟨x, HX.out, rfl, hI17⟩
theorem bk_Put {b : Bk} (hb : b.Ok) (hl : b.I.length ≤ b.cap) {id : Nat} {m : Int} (h1 : b.lo ≤ m) (h2 : m ≤ b.hi) (hi : id ≤ 1000000) {bb gr low top : Nat} {vs : List Value} {Own : Nat → Prop} (w : World) (h : BkIn w b bb gr low top vs Own) :
    Calls Tryz.prog 41 #[.pointer (some ⟨bb, 0, none⟩), .int .i64 m, .int .i64 id] w (BkPutPost b id m bb gr Own w) := by
  by_cases hI : b.I = []
  · exact bk_Put_nil hb hl hI h1 h2 hi w h
  · exact bk_Put_ne hb hl hI h1 h2 hi w h
end Go.Proofs.YtnjmplapjnnjdaaGreat

/- Buckets: New, Index; a nil row of buckets, and one that nobody made. -/
namespace Go.Proofs.YtnjmplapjnnjdaaGreat
open Go.RowKit

/-- THE ARM for 'make([]T, n)', the block's type told. -/
theorem mkTb {P : Program} {ops : Array Oper} {rest : List Oper} {l l' : List Value} {ds : List Deferred} {w : World} {Q : Exit → Act → World → Prop} {t e d size bytes : Nat} {n : Int} {kl kc : IntKind} {s x : Operand} {z : Value} {ty : TypeId} {ps : String} {af : Array Edge}
    [S : SlTy P t e] [E : ElTy P e z size bytes] (hs : (Act.mk l.toArray ds).eval s = .int kl n) (hx : (Act.mk l.toArray ds).eval x = .int kc n) (h0 : 0 ≤ n) (hb : (bytes : Int) * n ≤ 281474976710656) (h63 : n ≤ 9223372036854775807)
    (hl : l.set d (.slice (some ⟨w.heap.size, 0, none⟩) n.toNat n.toNat) = l')
    (h : ∀ w', BoxT w' w.heap.size (madeCells z.cells (n.toNat * size)) e → Below w.heap.size w w' → w'.heap.size = w.heap.size + 1 → wpList P ops Q rest ⟨l'.toArray, ds⟩ w') :
    wpList P ops Q (⟨some d, .makeSlice t s x, ty, ps, af, none⟩ :: rest) ⟨l.toArray, ds⟩ w := by
  obtain ⟨i, hi, hz0, hz1, hz2, hz3⟩ := E.out
  have hr := run_make (P := P) w t e i z S.out hi hz0 kl kc n n h0 (Int.le_refl _) (by rw [hz2]; exact hb) h63
  refine wpList_plain rfl fun K hK => ?_
  unfold Oper.wp execOp
  simp only [hs, hx, Sem.run_bind, hr, Result.andThen_ok, Sem.run_pure]
  rw [Oper.upon_value, put_list, hl]
  exact hK _ _ (h (w.alloc (.cells (madeCells z.cells (n.toNat * i.size)) e)) (by rw [← hz1]; exact heap_alloc_new w _) ((Below.refl _ w).alloc (Nat.le_refl _) _) (by simp))
theorem made_one (z : Value) (n : Nat) (hz : z.cells = #[z]) : madeCells z.cells (n * 1) = (List.replicate n z).toArray := by
  rw [hz, Nat.mul_one]
  unfold madeCells
  apply Array.ext'
  simp only [Array.toList_map, Array.toList_range]
  apply List.ext_getElem
  · simp
  · intro i h1 h2
    simp [Nat.mod_one]
theorem u64_sub {x y : Int} (h : x ≤ y) (h2 : y - x ≤ 1000000000) : IntKind.u64.wrap (IntKind.u64.wrap y - IntKind.u64.wrap x) = y - x := by
  simp [IntKind.wrap, IntKind.bits, IntKind.signed]
  omega
def bk0 (D lo hi : Int) (cap : Nat) : Bk := ⟨D, lo, hi, cap, [], 0, false⟩
def BkNewPost (D lo hi : Int) (cap : Nat) (w : World) (e : Ending) (w' : World) : Prop :=
  (∃ bb gr vs Own, e = .returned (.tuple #[.pointer (some ⟨bb, 0, none⟩), .int .i64 0]) ∧ BkIn w' (bk0 D lo hi cap) bb gr 0 0 vs Own ∧ ∀ k, Own k → w.heap.size ≤ k ∧ k < w'.heap.size) ∧ Below w.heap.size w w'
set_option maxRecDepth 5000 in
theorem bk_New_size {D lo hi : Int} {cap : Nat} (d0 : 1 ≤ D) (d1 : D ≤ 65536) (hle : lo ≤ hi) (l0 : -100000000 ≤ lo) (h0 : hi ≤ 100000000) (c0 : 1 ≤ cap) (c1 : cap ≤ 65536) (hk : ¬ hi / D - lo / D + 1 ≤ 65536) (w : World) :
    Pure Tryz.prog 15 #[.int .i64 D, .int .i64 lo, .int .i64 hi, .int .i64 cap] w (.tuple #[.pointer none, .int .i64 6]) := by
  have e1 := ediv_small d0 (show -100000000 ≤ lo by omega) (show lo ≤ 100000000 by omega)
  have e2 := ediv_small d0 (show -100000000 ≤ hi by omega) (show hi ≤ 100000000 by omega)
  go_enter Tryz.func15, Tryz.ntmps15
  go_wp2_with fail
  refine (bk_index lo D d0 (by omega) (by omega) _).mono ?_
  rintro e w1 ⟨rfl, B1⟩
  go_wp2_with fail
  refine (bk_index hi D d0 (by omega) (by omega) _).mono ?_
  rintro e w2 ⟨rfl, B2⟩
  obtain ⟨x, hx⟩ : ∃ x, x = lo / D := ⟨_, rfl⟩
  obtain ⟨y, hy⟩ : ∃ y, y = hi / D := ⟨_, rfl⟩
  rw [← hx] at e1 hk ⊢
  rw [← hy] at e2 hk ⊢
  clear hx hy
  have hu := u64_sub (x := x) (y := y) (by omega) (by omega)
  have hu2 : 65536 ≤ y - x := by omega
  go_wp2
  go_ret2
  exact ⟨rfl, bOn B1 B2⟩
set_option maxRecDepth 5000 in
theorem bk_New {D lo hi : Int} {cap : Nat} (d0 : 1 ≤ D) (d1 : D ≤ 65536) (hle : lo ≤ hi) (l0 : -100000000 ≤ lo) (h0 : hi ≤ 100000000) (c0 : 1 ≤ cap) (c1 : cap ≤ 65536) (hk : hi / D - lo / D + 1 ≤ 65536) (w : World) :
    Calls Tryz.prog 15 #[.int .i64 D, .int .i64 lo, .int .i64 hi, .int .i64 cap] w (BkNewPost D lo hi cap w) := by
  have e1 := ediv_small d0 (show -100000000 ≤ lo by omega) (show lo ≤ 100000000 by omega)
  have e2 := ediv_small d0 (show -100000000 ≤ hi by omega) (show hi ≤ 100000000 by omega)
  have e3 := Int.ediv_le_ediv (show 0 < D by omega) hle
  have hOk : (bk0 D lo hi cap).Ok := ⟨d0, d1, hle, l0, h0, hk, c0, c1, Nat.zero_le _, (fun x hx => by cases hx), (fun x hx => by cases hx)⟩
  go_enter Tryz.func15, Tryz.ntmps15
  go_wp2_with fail
  refine (bk_index lo D d0 (by omega) (by omega) _).mono ?_
  rintro e w1 ⟨rfl, B1⟩
  go_wp2_with fail
  refine (bk_index hi D d0 (by omega) (by omega) _).mono ?_
  rintro e w2 ⟨rfl, B2⟩
  obtain ⟨x, hx⟩ : ∃ x, x = lo / D := ⟨_, rfl⟩
  obtain ⟨y, hy⟩ : ∃ y, y = hi / D := ⟨_, rfl⟩
  have hKe : (bk0 D lo hi cap).K = (y - x + 1).toNat := by rw [hx, hy]; rfl
  have hBe : (bk0 D lo hi cap).base = x := by rw [hx]; rfl
  rw [← hx] at e1 e3 hk ⊢
  rw [← hy] at e2 e3 hk ⊢
  have HKE := Lib.hid hKe
  have HBE := Lib.hid hBe
  clear hx hy hKe hBe
  have hu := u64_sub (x := x) (y := y) (by omega) (by omega)
  have hu2 : y - x < 65536 := by omega
  have hn0 : 0 ≤ y - x + 1 := by omega
  have hn1 : y - x + 1 ≤ 65536 := by omega
  go_wp2_with ((with_reducible apply mkTb); rfl; rfl; omega; omega; omega; rfl; intro w3 m3 B3 hs3)
  have ecells : bkCells (bk0 D lo hi cap) w2.heap.size 0 0 = #[.int .i64 D, .int .i64 lo, .int .i64 hi, .int .i64 cap, .int .i64 x, .slice (some ⟨w2.heap.size, 0, none⟩) (y - x + 1).toNat (y - x + 1).toNat, .int .i64 0, .int .i64 0, .int .i64 0, .int .i64 0, .bool false] := by
    unfold bkCells
    rw [HBE.out, HKE.out]
    rfl
  have hbx := BoxT.new w3 (bkCells (bk0 D lo hi cap) w2.heap.size 0 0) 111
  have BA : Below w3.heap.size w3 (w3.alloc (.cells (bkCells (bk0 D lo hi cap) w2.heap.size 0 0) 111)) := (Below.refl _ _).alloc (Nat.le_refl _) _
  have mm : madeCells (Value.slice none 0 0).cells ((y - x + 1).toNat * 1) = (List.replicate (bk0 D lo hi cap).K (Value.slice none 0 0)).toArray := by rw [made_one _ _ rfl, HKE.out]
  have m4 : BoxT w3 w2.heap.size (List.replicate (bk0 D lo hi cap).K (Value.slice none 0 0)).toArray 60 := mm ▸ m3
  have hK := hOk.kpos.1
  have hget : ∀ (k : Nat) (v : Value), (List.replicate (bk0 D lo hi cap).K (Value.slice none 0 0))[k]? = some v → v = .slice none 0 0 := fun k v hv => List.eq_of_mem_replicate (List.mem_of_getElem? hv)
  have hI : BkIn (w3.alloc (.cells (bkCells (bk0 D lo hi cap) w2.heap.size 0 0) 111)) (bk0 D lo hi cap) w3.heap.size w2.heap.size 0 0 (List.replicate (bk0 D lo hi cap).K (Value.slice none 0 0)) (fun k => k = w2.heap.size ∨ k = w3.heap.size) :=
    ⟨hbx, m4.kept BA, by simp, fun k v hv => by rw [hget k v hv]; exact RowO.nil _, fun k k' v v' g _ hv _ hg => (by rw [hget k v hv] at hg; cases hg), ⟨.inr rfl, .inl rfl, fun k v g hv hg => (by rw [hget k v hv] at hg; cases hg)⟩, hK, hK, fun x hx => (by cases hx)⟩
  rw [ecells] at hI BA
  rw [hs3] at hI
  have hfin : (w3.alloc (.cells #[.int .i64 D, .int .i64 lo, .int .i64 hi, .int .i64 cap, .int .i64 x, .slice (some ⟨w2.heap.size, 0, none⟩) (y - x + 1).toNat (y - x + 1).toNat, .int .i64 0, .int .i64 0, .int .i64 0, .int .i64 0, .bool false] 111)).heap.size = w2.heap.size + 2 := by simp [hs3]
  have hB12 := bOn (bOn (bOn B1 B2) B3) BA
  go_ret2
  refine (show BkNewPost D lo hi cap w _ _ from ⟨⟨w2.heap.size + 1, w2.heap.size, _, _, rfl, hI, fun k hk => ?_⟩, hB12⟩)
  have h2 := (bOn B1 B2).size
  rw [hfin]
  rcases hk with h | h <;> omega
end Go.Proofs.YtnjmplapjnnjdaaGreat
