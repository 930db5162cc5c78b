import Derived.Test.YtkjnmjilkhigaaaKidsG
import Derived.Test.YtkjnmjilkhigaaaStart
import Derived.Test.YtkjnmjilkhigaaaWays
import Derived.Test.YtkjnmjilkhigaaaTreeE
set_option linter.unusedSimpArgs false
set_option linter.unusedVariables false
set_option linter.unnecessarySimpa false
/- The walk of the statement on every tree and all its looks. -/
namespace Go.Proofs.Ytkjnmjilkhigaaa
open Go.RowKit

theorem neq_str_self {P : Program} {t : TypeId} (hu : P.underlying t = some .string) (s : ByteArray) (w : World) : (binOp .neq t (.string s) (.string s)).run P w = .ok (.bool false) w := by
  simp only [binOp]
  simp [Op.stringOp, Sem.run_pure]
theorem DocIn.glt {w : World} {p : Pb} {tb g c : Nat} (hT : DocIn w p tb g c) (h : probChk p = 0) : g < w.heap.size := by
  obtain ⟨⟨k1, k2⟩, l1, l2, cr, hwin, _⟩ := probChk_ok h
  have hne : 0 < p.B.length := by
    have h1 : 3 ≤ p.N := by unfold Pb.N; omega
    rcases cr with h | h <;> rw [h] at hwin <;> omega
  obtain ⟨b, o, ha, hc⟩ := hT.win.cell 0 hne
  obtain ⟨rfl, rfl⟩ : g = b ∧ 0 = o := by simpa using ha
  exact lt_of_cell hc
end Go.Proofs.Ytkjnmjilkhigaaa

/- outpostlaw18.FanodecStands: where it stands. -/
namespace Go.Proofs.Ytkjnmjilkhigaaa
open Go.RowKit

theorem Pb.frun_work2 (p : Pb) (D : Int) : ∀ (b : Nat) (s : Fm), 0 ≤ s.work → s.work + b ≤ 35184372088832 → s.work ≤ (p.frun D b s).work ∧ (p.frun D b s).work ≤ s.work + b ∧ ((p.frun D b s).done = false → (p.frun D b s).work = s.work + b)
  | 0, s, _, _ => by
    unfold Pb.frun
    exact ⟨Int.le_refl _, by omega, fun _ => by omega⟩
  | b + 1, s, h0, h1 => by
    unfold Pb.frun
    by_cases hd : s.done = true
    · rw [if_pos hd]
      exact ⟨Int.le_refl _, by omega, fun h => by rw [h] at hd; cases hd⟩
    · rw [if_neg hd]
      have e : (p.fstep D s).work = s.work + 1 := by show wrap64 (s.work + 1) = _; unfold wrap64; omega
      obtain ⟨i1, i2, i3⟩ := p.frun_work2 D b (p.fstep D s) (by rw [e]; omega) (by rw [e]; omega)
      rw [e] at i1 i2 i3
      exact ⟨by omega, by omega, fun h => by rw [i3 h]; omega⟩
theorem Fm.Ok.stands {p : Pb} (h : probChk p = 0) {D : Int} {s : Fm} (hs : s.Ok p D) {i : Nat} (hi : i ≤ s.up.length) : s.low ≤ (p.nd s.bits i).m := by
  have h1 := hs.way.nds h
  have h2 : ((s.top :: s.up).reverse.map (·.n))[i]? = some (p.nd s.bits i) := by
    rw [h1, List.getElem?_map, List.getElem?_range (by omega)]
    rfl
  rw [List.getElem?_map] at h2
  obtain ⟨y, hy, e⟩ := Option.map_eq_some_iff.1 h2
  have hy' := List.mem_of_getElem? hy
  rw [List.mem_reverse] at hy'
  rw [← e]
  rcases List.mem_cons.1 hy' with rfl | hy'
  · have := hs.low_thr; have := hs.thr_le; omega
  · exact hs.above y hy'
theorem Fm.Ok.end_ {p : Pb} (h : probChk p = 0) {D : Int} {s : Fm} (hs : s.Ok p D) : p.nd s.bits s.up.length = s.top.n := (hs.way.facts h).1.symm
/-- The kid by a bit of a way. -/
theorem Pb.kid_on {p : Pb} (h : probChk p = 0) {D : Int} {s : Fm} (hs : s.Ok p D) {i : Nat} (hi : i < s.up.length) {j : Nat} {b : Nat} {k : Nd} (hk : (p.kids (p.nd s.bits i))[j]? = some k) (hb : (p.kidBits (p.nd s.bits i))[j]? = some b) (he : s.bits[i]? = some b) : k = p.nd s.bits (i + 1) := by
  obtain ⟨e1, e2, e3⟩ := p.kids_get _ hk hb
  have hN : i < p.N.toNat := by have := (hs.way.facts h).2.1; omega
  rw [← Pb.nd_succ h s.bits hN, e1]
  congr 1
  unfold Pb.bit
  split
  · rw [List.getD_eq_getElem?_getD, he]; rfl
  · rename_i hL
    exact congrArg Int.ofNat (e3 (by show p.L ≤ (i : Int); omega))
/-- The kid of a way, and its bit, stand among the kids and their bits, at one place. -/
theorem Pb.WayOk.on : ∀ {p : Pb} {x : Spot} {up : List Spot}, probChk p = 0 → p.WayOk x up → ∀ {i : Nat}, i < up.length → ∃ j, (p.kidBits (p.nd (wayBits x up) i))[j]? = (wayBits x up)[i]?  ∧ j < (p.kids (p.nd (wayBits x up) i)).length
  | p, x, [], _, _, i, hi => by simp at hi
  | p, x, y :: ys, h, hw, i, hi => by
    obtain ⟨h1, h2, h3, h4, h5, h6⟩ := hw
    have hwl := wayBits_len y ys
    have hlt := (h6.facts h).2.1
    have hc : ∀ k, k ≤ ys.length → p.nd (wayBits x (y :: ys)) k = p.nd (wayBits y ys) k := fun k hk => by
      rw [wayBits_cons]
      exact Pb.nd_congr h (by omega) fun j hj => p.bit_app _ _ (by omega)
    by_cases he : i = ys.length
    · subst he
      rw [hc _ (Nat.le_refl _), ← (h6.facts h).1]
      refine ⟨(p.kids y.n).length - y.t, ?_, by omega⟩
      rw [h4, wayBits_cons, List.getElem?_append_right (by omega), hwl, Nat.sub_self]
      rfl
    · have hi' : i < ys.length := by simp at hi; omega
      obtain ⟨j, e1, e2⟩ := h6.on h hi'
      rw [hc i (by omega)]
      refine ⟨j, ?_, e2⟩
      rw [e1, wayBits_cons, List.getElem?_append_left (by omega)]
theorem Fm.Ok.on {p : Pb} (h : probChk p = 0) {D : Int} {s : Fm} (hs : s.Ok p D) {i : Nat} (hi : i < s.up.length) : ∃ j, (p.kidBits (p.nd s.bits i))[j]? = s.bits[i]? ∧ j < (p.kids (p.nd s.bits i)).length := hs.way.on h hi
set_option maxRecDepth 5000 in
theorem law18_StandsNo (u : Hu) (a ab ap : Option Addr) (c cb cp : Nat) (hu : u.Ok) (hB : u.p.B.length ≤ 140737488351232) (hno : ¬(probChk u.p = 0 ∧ 1 ≤ u.D ∧ u.D ≤ 65536)) (w : World) (hw : u.At w a ab ap) :
    Pure Try.prog 8 #[.agg (u.v a ab ap c cb cp)] w (.bool true) := by
  go_enter Try.func8, Try.ntmps8
  go_upto_region 1 with fail
  refine name1 ?_
  intro w0 b0 B0
  have hw0 := hw.kept B0
  (refine wp_region_treeI (fun W => Box W w.heap.size (u.v a ab ap c cb cp)) 10 (.pure 0 (.pure 3 (.pure 1 (.pure 4 (.one 2 (.one 5 (.pure 6 (.pure 7 (.pure 8 (.one 9 (.one 10 .nil))))))))))) (by kernel_rfl) (by kernel_rfl) ?_; simp only [List.getD_cons_zero, List.getD_cons_succ, wpOTI])
  intro w1 B1
  have b1 := b0.kept B1
  have hw1 := hw0.kept B1
  have ldp : ∀ W : World, Box W w.heap.size (u.v a ab ap c cb cp) → loadAgg W w.heap.size 0 40 = .ok (.agg (u.p.cells (.slice a u.p.B.length c))) W := fun W h => h.load (by rw [Hu.v, Hu.size hu.p]; omega) (Hu.prob hu.p _ _ _)
  have ldd : ∀ W : World, Box W w.heap.size (u.v a ab ap c cb cp) → W.cell? ⟨w.heap.size, 40, none⟩ = some (.int .i64 u.D) := fun W h => by rw [h.cell]; exact Hu.c40 hu.p _ _ _
  refine ⟨fun _ => b1, _, fun W hI => by go_simp; first | done | rfl, ?_⟩
  try simp only [put_list, List.set_cons_zero, List.set_cons_succ]
  refine ⟨fun _ => b1, _, fun W hI => by go_simp; first | done | rfl, ?_⟩
  try simp only [put_list, List.set_cons_zero, List.set_cons_succ]
  refine ⟨fun _ => b1, .agg (u.p.cells (.slice a u.p.B.length c)), fun W hI => pure_ld rfl (ldp W hI), ?_⟩
  try simp only [put_list, List.set_cons_zero, List.set_cons_succ]
  refine ⟨fun _ => b1, .int .i64 u.D, fun W hI => by have c := ldd W hI; go_simp, ?_⟩
  try simp only [put_list, List.set_cons_zero, List.set_cons_succ]
  refine ⟨fun _ => b1, ?_⟩
  go_wp2_with fail
  refine (o18_own u.p a c hu.p hB w1 hw1.win).mono ?_
  rintro e w2 ⟨⟨g2, c2, rfl, o2⟩, B2⟩
  have b2 := b1.kept B2
  have hw2 := hw1.kept B2
  obtain ⟨E, hE0, hnew⟩ := fano_New_no u.p u.D hu.p hno
  have hne : (E != 0) = true := by simpa using hE0
  have hne2 : (E == 0) = false := by simpa using hE0
  go_wp2_with fail
  refine (hnew (some ⟨g2, 0, none⟩) c2 w2 (o2.bytes hu.p.b)).mono ?_
  rintro e w3 ⟨rfl, B3⟩
  have b3 := b2.kept B3
  have hw3 := hw2.kept B3
  go_wp2_with fail
  refine ⟨_, fun _ _ => rfl, ?_⟩
  refine ⟨.pointer none, fun _ _ => by go_simp; first | done | rfl, ?_⟩
  refine ⟨.int .i64 E, fun _ _ => by go_simp; first | done | rfl, ?_⟩
  have B30 := bOn (bOn (bOn B0 B1) B2) B3
  have ldp3 := ldp w3 b3
  clear hno ldp ldd b0 b1 b2 hw0 hw1 hw2 o2 B0 B1 B2 B3
  have hdoc : Calls Try.prog 32 #[.agg (u.p.cells (.slice a u.p.B.length c))] w3 (fun e w' => ∃ x y, e = .returned (.tuple #[x, y]) ∧ Below w3.heap.size w3 w') := by
    by_cases hc : probChk u.p = 0
    · refine (doc_New u.p a c hu.p hc w3 hw3.win).mono ?_
      rintro e w' ⟨⟨tb, g, c', rfl, _⟩, hB⟩
      exact ⟨_, _, rfl, hB⟩
    · refine (doc_New_bad u.p a c hu.p hc w3 hw3.win).mono ?_
      rintro e w' ⟨rfl, hB⟩
      exact ⟨_, _, rfl, hB⟩
  go_upto_region 2 with fail
  go_wp2_with ((with_reducible apply ld); rfl; (with_reducible assumption); (simp only [List.set_cons_zero, List.set_cons_succ]; rfl))
  refine hdoc.mono ?_
  rintro e w4 ⟨x4, y4, rfl, B4⟩
  clear hdoc ldp3
  go_wp2_with fail
  refine (o18_num E w4).mono ?_
  rintro e w5 ⟨rfl, B5⟩
  go_wp2_with fail
  refine (o18_num E w5).mono ?_
  rintro e w6 ⟨rfl, B6⟩
  go_wp2_with fail
  refine (o18_live w6).mono ?_
  rintro e w7 ⟨rfl, B7⟩
  go_wp2
  go_ret
  exact ⟨rfl, bOn (bOn (bOn (bOn B30 B4) B5) B6) B7⟩
theorem stand_up {m k : Nat} (h : m ≤ k * 1048576) : m ≤ (k + 1) * 1048576 := Nat.le_trans h (Nat.mul_le_mul_right _ (Nat.le_succ k))
/-- What is true ahead of each budget. -/
def StandR (u : Hu) (A : FA) (w5 : World) (k : Nat) (n : Value) (wr : World) : Prop :=
  ∃ (m : Nat) (S : Fm) (g c : Nat), n = .int .i64 (m : Int) ∧ m ≤ k * 1048576 ∧ S.Ok u.p u.D ∧ (0 ≤ S.work ∧ S.work ≤ m ∧ (S.done = false → S.work = m)) ∧ FanoIn wr u.p u.D S { A with way := g, cap := c } ∧ (g = A.way ∨ w5.heap.size ≤ g) ∧ Turn A.wr w5 wr
theorem loadAgg_re {w w' : World} {b off n : Nat} {v : Value} (h : loadAgg w b off n = .ok v w) (e : w'.heap[b]? = w.heap[b]?) : loadAgg w' b off n = .ok v w' := by
  unfold loadAgg at h ⊢
  rw [e]
  split at h
  · split at h
    · rename_i hn
      rw [if_pos hn]
      injection h with h _
      rw [h]
    · cases h
  · cases h
set_option maxRecDepth 5000 in
set_option maxHeartbeats 4000000 in
theorem law18_Stands (u : Hu) (a ab ap : Option Addr) (c cb cp : Nat) (hu : u.Ok) (hB : u.p.B.length ≤ 140737488351232) (hbs : u.bs.length ≤ 1048576) (w : World) (hw : u.At w a ab ap) :
    Pure Try.prog 8 #[.agg (u.v a ab ap c cb cp)] w (.bool true) := by
  by_cases hgood : probChk u.p = 0 ∧ 1 ≤ u.D ∧ u.D ≤ 65536
  · obtain ⟨hc, hD1, hD2⟩ := hgood
    go_enter Try.func8, Try.ntmps8
    go_upto_region 1 with fail
    refine name1 ?_
    intro w0 b0 B0
    have hw0 := hw.kept B0
    (refine wp_region_treeI (fun W => Box W w.heap.size (u.v a ab ap c cb cp)) 10 (.pure 0 (.pure 3 (.pure 1 (.pure 4 (.one 2 (.one 5 (.pure 6 (.pure 7 (.pure 8 (.one 9 (.one 10 .nil))))))))))) (by kernel_rfl) (by kernel_rfl) ?_; simp only [List.getD_cons_zero, List.getD_cons_succ, wpOTI])
    intro w1 B1
    have b1 := b0.kept B1
    have hw1 := hw0.kept B1
    have ldp : ∀ W : World, Box W w.heap.size (u.v a ab ap c cb cp) → loadAgg W w.heap.size 0 40 = .ok (.agg (u.p.cells (.slice a u.p.B.length c))) W := fun W h => h.load (by rw [Hu.v, Hu.size hu.p]; omega) (Hu.prob hu.p _ _ _)
    have ldd : ∀ W : World, Box W w.heap.size (u.v a ab ap c cb cp) → W.cell? ⟨w.heap.size, 40, none⟩ = some (.int .i64 u.D) := fun W h => by rw [h.cell]; exact Hu.c40 hu.p _ _ _
    refine ⟨fun _ => b1, _, fun W hI => by go_simp; first | done | rfl, ?_⟩
    try simp only [put_list, List.set_cons_zero, List.set_cons_succ]
    refine ⟨fun _ => b1, _, fun W hI => by go_simp; first | done | rfl, ?_⟩
    try simp only [put_list, List.set_cons_zero, List.set_cons_succ]
    refine ⟨fun _ => b1, .agg (u.p.cells (.slice a u.p.B.length c)), fun W hI => pure_ld rfl (ldp W hI), ?_⟩
    try simp only [put_list, List.set_cons_zero, List.set_cons_succ]
    refine ⟨fun _ => b1, .int .i64 u.D, fun W hI => by have c := ldd W hI; go_simp, ?_⟩
    try simp only [put_list, List.set_cons_zero, List.set_cons_succ]
    refine ⟨fun _ => b1, ?_⟩
    go_wp2_with fail
    refine (o18_own u.p a c hu.p hB w1 hw1.win).mono ?_
    rintro e w2 ⟨⟨g2, c2, rfl, o2⟩, B2⟩
    have b2 := b1.kept B2
    have hw2 := hw1.kept B2
    go_wp2_with fail
    refine (fano_New u.p (some ⟨g2, 0, none⟩) c2 u.D hD1 hD2 hu.p hc w2 (o2.bytes hu.p.b)).mono ?_
    rintro e w3 ⟨⟨A, rfl, F3, hA⟩, B3⟩
    have b3 := b2.kept B3
    have hw3 := hw2.kept B3
    go_wp2_with fail
    refine ⟨_, fun _ _ => rfl, ?_⟩
    refine ⟨.pointer (some ⟨A.mb, 0, none⟩), fun _ _ => by go_simp; first | done | rfl, ?_⟩
    refine ⟨.int .i64 0, fun _ _ => by go_simp; first | done | rfl, ?_⟩
    have B20 := bOn (bOn B0 B1) B2
    have B30 := bOn B20 B3
    have ldp3 := ldp w3 b3
    have hA0 : ∀ k, A.has k → w.heap.size < k := fun k hk => Nat.lt_of_lt_of_le b2.lt (hA k hk)
    have hA3 : ∀ k, A.has k → k < w3.heap.size := fun k hk => F3.lt hk
    clear ldp ldd b0 b1 b2 hw0 hw1 hw2 o2 B0 B1 B2 B3 B20 hA
    go_upto_region 2 with fail
    go_wp2_with ((with_reducible apply ld); rfl; (with_reducible assumption); (simp only [List.set_cons_zero, List.set_cons_succ]; rfl))
    refine (doc_New u.p a c hu.p hc w3 hw3.win).mono ?_
    rintro e w4 ⟨⟨tb, tg, tc, rfl, T4, ht1, ht2⟩, B4⟩
    have b4 := b3.kept B4
    have F4 := F3.kept B4
    have B40 := bOn B30 B4
    clear ldp3 b3 F3 B30 hw3
    go_wp2_with fail
    refine (o18_num 0 w4).mono ?_
    rintro e w5 ⟨rfl, B5⟩
    have b5 := b4.kept B5
    have F5 := F4.kept B5
    have T5 := T4.kept B5
    have B50 := bOn B40 B5
    have hs43 := B4.size
    clear b4 F4 T4 B40 B4 B5
    have HTG : Hid (tg < w5.heap.size) := Lib.hid (by
      obtain ⟨x1, x2, h1, h2⟩ := T5.win.cell 0 (prob_slice hc)
      obtain ⟨rfl, _⟩ : tg = x1 ∧ 0 = x2 := by simpa using h1
      exact lt_of_cell h2)
    have HA0 := Lib.hid hA0
    have HA3 := Lib.hid hA3
    clear hA0 hA3
    go_wp2_with fail
    go_loopw [7, 8] (fun n i wr => ∃ k : Nat, k ≤ u.bs.length ∧ i = .int .i64 k ∧ StandR u A w5 k n wr) (fun _ i _ => u.bs.length - (intOf i).toNat)
    case atStart => exact ⟨0, Nat.zero_le _, rfl, 0, Fm.start, A.way, A.cap, rfl, Nat.zero_le _, Fm.Ok.start hc hD1, ⟨Int.le_refl _, Int.le_refl _, fun _ => rfl⟩, F5, .inl rfl, Turn.refl _ _⟩
    case round =>
      obtain ⟨k, hk, rfl, m, S, g, cg, rfl, hm, hok, hwk, hR, hgw, TR⟩ := hrel
      have BR : Below w.heap.size w wr := B50.trans (TR.below' B50.size (fun k hk hh => Nat.le_of_lt (HA0.out k (FA.wr_has hh))))
      have hur := hw.kept BR
      have br : Box wr w.heap.size (u.v a ab ap c cb cp) := b5.turn TR (fun hh => by have := HA0.out _ (FA.wr_has hh); omega)
      have dr : DocIn wr u.p tb tg tc := T5.same (fun k hk => TR.block k (by rcases hk with h | h <;> rw [h]; exact T5.tree.lt; exact HTG.out) (fun hh => by have := HA3.out _ (FA.wr_has hh); rcases hk with h | h <;> omega))
      by_cases hkl : k < u.bs.length
      · obtain ⟨k1, k2⟩ := ap_lt hkl
        have hb1 := ap_bd hkl hu.bl
        obtain ⟨x, hx⟩ : ∃ x, u.bs[k]? = some x := ⟨_, List.getElem?_eq_getElem hkl⟩
        obtain ⟨bb, oo, rfl, cx⟩ := hur.bud.1 k x hx
        have c41 : wr.cell? ⟨w.heap.size, 41, none⟩ = some (.slice (some ⟨bb, oo, none⟩) u.bs.length cb) := by rw [br.cell]; exact Hu.c41 hu.p _ _ _
        have HX := Lib.hid hx
        clear hx
        by_cases hbad : x < 0 ∨ 1048576 < x
        · have hrun := fano_Run_bad u.p hu.p u.D S { A with way := g, cap := cg } x hbad wr hR
          have hrun : Pure Try.prog 29 #[.pointer (some ⟨A.mb, 0, none⟩), .int .i64 x] wr (.tuple #[.bool false, .int .i64 1]) := hrun
          have ht : (decide (0 ≤ x) = false) ∨ (decide (0 ≤ x) = true ∧ decide (x ≤ 1048576) = false) := by
            rcases hbad with h | h
            · exact .inl (by simp; omega)
            · by_cases h0 : 0 ≤ x
              · exact .inr ⟨by simpa using h0, by simp; omega⟩
              · exact .inl (by simp; omega)
          clear hbad
          go_wp2_with fail
          refine hrun.mono ?_
          rintro e w6 ⟨rfl, B6⟩
          have q41 := KeptW.cell (KeptW.cell c41 ⟨w6, B6⟩)
          have qx := KeptW.cell (KeptW.cell cx ⟨w6, B6⟩)
          clear hrun
          rcases ht with ht | ⟨ht, ht2⟩
          all_goals
            go_upto_region 12 with fail
            refine wp_region_kept (by kernel_rfl) (by kernel_rfl) ?_
            repeat first
              | go_big_quiet_skip
              | go_big_quiet_step (exact Calls.kept (o18_num _ _))
            refine wpQuiet_nil ?_
            intro w7 B7
            go_wp2_with fail
            refine (o18_num 1 w7).mono ?_
            rintro e w8 ⟨rfl, B8⟩
            go_wp2_with fail
            go_roundw
            case measure => first | exact ap_meas' hkl | exact ap_meas hkl hb1
            case rel =>
              have B80 : Below wr.heap.size wr w8 := bOn (bOn B6 B7) B8
              exact ⟨k + 1, hkl, (by first | rfl | exact congrArg (Value.int .i64) (ap_succ hb1)), m, S, g, cg, rfl, stand_up hm, hok, hwk, hR.kept B80, hgw, TR.on B80⟩
        · obtain ⟨y, rfl⟩ : ∃ n : Nat, x = (n : Int) := ⟨x.toNat, by omega⟩
          have hy : y ≤ 1048576 := by omega
          have hrun := fano_Run u.p hu.p hc u.D hD1 hD2 S hok { A with way := g, cap := cg } y hy wr hR
          have hok6 := hok.run hc hD1 y
          have hwk6 := u.p.frun_work2 u.D y S hwk.1 (by omega)
          obtain ⟨S6, hS6⟩ : ∃ S6, S6 = u.p.frun u.D y S := ⟨_, rfl⟩
          rw [← hS6] at hrun hok6 hwk6
          have hrun : Calls Try.prog 29 #[.pointer (some ⟨A.mb, 0, none⟩), .int .i64 y] wr (FRunPost u.p u.D S6 { A with way := g, cap := cg } wr) := hrun
          have hwk6 : 0 ≤ S6.work ∧ S6.work ≤ ((m + y : Nat) : Int) ∧ (S6.done = false → S6.work = ((m + y : Nat) : Int)) := by
            refine ⟨by omega, by omega, fun hd => ?_⟩
            have hd0 : S.done = false := by
              cases hd' : S.done with
              | false => rfl
              | true => rw [hS6, u.p.frun_done u.D y hd', hd'] at hd; cases hd
            have := hwk6.2.2 hd
            have := hwk.2.2 hd0
            omega
          have hm6 : m + y ≤ (k + 1) * 1048576 := by omega
          have ht : decide ((y : Int) ≤ 1048576) = true := by simp; omega
          clear hbad hS6 hm
          have HWK := Lib.hid hwk6
          clear hwk6 hwk
          go_wp2_with fail
          refine hrun.mono ?_
          rintro e w6 ⟨rfl, ⟨g6, c6, F6, hg6⟩, T6⟩
          have F6 : FanoIn w6 u.p u.D S6 { A with way := g6, cap := c6 } := F6
          have hg6 : g6 = g ∨ wr.heap.size ≤ g6 := hg6
          have T06 : Turn A.wr w5 w6 := TR.fano hgw T6
          have hgw6 : g6 = A.way ∨ w5.heap.size ≤ g6 := by
            have := TR.size
            rcases hg6 with e | e
            · rcases hgw with e' | e'
              · exact .inl (e.trans e')
              · exact .inr (by omega)
            · exact .inr (by omega)
          have B60 : Below w.heap.size w w6 := B50.trans (T06.below' B50.size (fun k hk hh => Nat.le_of_lt (HA0.out k (FA.wr_has hh))))
          have h6 := hw.kept B60
          have b6 : Box w6 w.heap.size (u.v a (some ⟨bb, oo, none⟩) ap c cb cp) := b5.turn T06 (fun hh => by have := HA0.out _ (FA.wr_has hh); omega)
          have d6 : DocIn w6 u.p tb tg tc := T5.same (fun k hk => T06.block k (by rcases hk with h | h <;> rw [h]; exact T5.tree.lt; exact HTG.out) (fun hh => by have := HA3.out _ (FA.wr_has hh); rcases hk with h | h <;> omega))
          obtain ⟨bb', oo', hbo', cx6⟩ := h6.bud.1 k _ (HX.out)
          obtain ⟨rfl, rfl⟩ : bb = bb' ∧ oo = oo' := by simpa using hbo'
          clear hrun T6 TR hgw hg6 hR br dr BR hur c41 cx hbo'
          have c41 : w6.cell? ⟨w.heap.size, 41, none⟩ = some (.slice (some ⟨bb, oo, none⟩) u.bs.length cb) := by rw [b6.cell]; exact Hu.c41 hu.p _ _ _
          have q41 := KeptW.cell c41
          have qx := KeptW.cell cx6
          go_upto_region 12 with fail
          refine wp_region_kept (by kernel_rfl) (by kernel_rfl) ?_
          repeat first
            | go_big_quiet_skip
            | go_big_quiet_step (exact Calls.kept (o18_num _ _))
          refine wpQuiet_nil ?_
          intro w7 B7
          go_wp2_with fail
          refine (o18_num 0 w7).mono ?_
          rintro e w8 ⟨rfl, B8⟩
          have B86 := bOn B7 B8
          have c48 : w8.cell? ⟨w.heap.size, 41, none⟩ = some (.slice (some ⟨bb, oo, none⟩) u.bs.length cb) := q41 ⟨w8, B86⟩
          have cx8 : w8.cell? ⟨bb, oo + k, none⟩ = some (.int .i64 (y : Int)) := qx ⟨w8, B86⟩
          have F8 := F6.kept B86
          have d8 := d6.kept B86
          clear q41 qx c41 cx6
          have hmy : (m : Int) + (y : Int) ≤ 9223372036854775807 := by omega
          go_wp2_with fail
          refine (fano_Result u.p hu.p hc u.D S6 hok6 { A with way := g6, cap := c6 } w8 F8).mono ?_
          rintro e w9 ⟨⟨r, rk, rfl, o9⟩, B9⟩
          have bz : Box (w9.alloc (.cells #[.bool false, .bool false, .slice none 0 0, .int .i64 0, .int .i64 0, .int .i64 0, .int .i64 0] 35)) w9.heap.size #[.bool false, .bool false, .slice none 0 0, .int .i64 0, .int .i64 0, .int .i64 0, .int .i64 0] := Box.new _ _ _
          clear o9 c48 cx8
          go_upto_region 17 with (first | ((with_reducible apply ld); rfl; (with_reducible assumption); (simp only [List.set_cons_zero, List.set_cons_succ]; rfl)) | ((with_reducible apply stO); rfl; rfl; exact bz; rfl; rfl; exact flatR; intro w10 b10 B10 ho10 hs10))
          have B10' : Below w9.heap.size w9 w10 := ((Below.refl _ w9).alloc (Nat.le_refl _) _).trans B10
          have F10 := (F8.kept B9).kept B10'
          have d10 := (d8.kept B9).kept B10'
          clear bz B10 ho10 hs10 F8 d8
          go_wp2_with fail
          refine (fano_Node u.p hu.p hc u.D S6 hok6 { A with way := g6, cap := c6 } w10 F10).mono ?_
          rintro e w11 ⟨rfl, B11⟩
          have F11 := F10.kept B11
          have d11 := d10.kept B11
          have b11 := b10.kept B11
          have bz := Box.new w11 #[.int .u32 0, .int .i64 0, .int .i64 0] 80
          clear F10 d10 b10
          go_upto_region 18 with (first | ((with_reducible apply ld); rfl; (with_reducible assumption); (simp only [List.set_cons_zero, List.set_cons_succ]; rfl)) | ((with_reducible apply stO); rfl; rfl; exact bz; rfl; rfl; exact nodeCells_flat _ _ _; intro w12 b12 B12 ho3 hs3))
          have B12' : Below w11.heap.size w11 w12 := ((Below.refl _ w11).alloc (Nat.le_refl _) _).trans B12
          have F12 := F11.kept B12'
          have d12 := d11.kept B12'
          have b13 := b11.kept B12'
          clear bz F11 d11 b11 ho3 hs3 B12
          have B120 := bOn (bOn (bOn (bOn B86 B9) B10') B11) B12'
          have n2 : w12.cell? ⟨w11.heap.size, 2, none⟩ = some (.int .i64 S6.top.n.m) := b12.cell 2
          have e5 : w12.cell? ⟨w9.heap.size, 5, none⟩ = some (.int .i64 S6.work) := b13.cell 5
          have q2 := KeptW.cell n2
          have t1 : decide (S6.top.n.m < S6.thr) = false := by have := hok6.thr_le; simp; omega
          have t2 : decide (((m + y : Nat) : Int) < S6.work) = false := by have := HWK.out; simp; omega
          have hcast : (m : Int) + (y : Int) = ((m + y : Nat) : Int) := by omega
          rw [hcast] at hmy ⊢
          obtain ⟨my, hmy'⟩ : ∃ my, my = m + y := ⟨_, rfl⟩
          rw [← hmy'] at hmy HWK hm6 t2 ⊢
          clear hmy' hcast B86 B9 B10' B11 B12'
          cases hdn : S6.done
          all_goals try rw [HWK.out.2.2 hdn] at e5 t2
          all_goals
            have HDN := Lib.hid hdn
            clear hdn
            have q5 := KeptW.cell e5
            refine wp_region_kept (by kernel_rfl) (by kernel_rfl) ?_
            repeat first
              | go_big_quiet_skip
              | go_big_quiet_step (exact Calls.kept (fano_Threshold u.p hu.p u.D S6 { A with way := g6, cap := c6 } _ (F12.kept (Subtype.property _))))
            refine wpQuiet_nil ?_
            intro w14 B14
            have F14 := F12.kept B14
            have d14 := d12.kept B14
            have b14 := b12.kept B14
            have B140 := bOn B120 B14
            clear q5 q2 e5 n2 t1 t2 F12 d12 b13 B14 B120 hmy
            go_wp2_with fail
            refine (doc_Root _ w14).mono ?_
            rintro e w15 ⟨rfl, B15⟩
            have bz := Box.new w15 #[.int .u32 0, .int .i64 0, .int .i64 0] 80
            have F15 := F14.kept B15
            have d15 := d14.kept B15
            have b15 := b14.kept B15
            have B150 := bOn B140 B15
            clear F14 d14 b14 B15 B140
            go_upto_region 21 with (first | ((with_reducible apply ld); rfl; (with_reducible assumption); (simp only [List.set_cons_zero, List.set_cons_succ]; rfl)) | ((with_reducible apply stO); rfl; rfl; exact bz; rfl; rfl; exact nodeCells_flat _ _ _; intro w16 b16 B16 ho3 hs3))
            have B16' : Below w15.heap.size w15 w16 := ((Below.refl _ w15).alloc (Nat.le_refl _) _).trans B16
            have F16 := F15.kept B16'
            have d16 := d15.kept B16'
            have n16 := b15.kept B16'
            have B160 := bOn B150 B16'
            have hA16 : ∀ k, ({ A with way := g6, cap := c6 } : FA).has k → k < w15.heap.size := fun k hk => F15.lt hk
            have HWS : Hid (w6.heap.size ≤ w15.heap.size) := Lib.hid (B150.size)
            have hd16 : tb < w15.heap.size ∧ tg < w15.heap.size := ⟨d15.tree.lt, d15.glt hc⟩
            have hn16 : w11.heap.size < w15.heap.size := b15.lt
            clear bz F15 d15 b15 ho3 hs3 B16 B16' B150
            go_wp2_with fail
            refine (fano_Path u.p hu.p hc u.D S6 hok6 { A with way := g6, cap := c6 } w16 F16).mono ?_
            rintro e w17 ⟨⟨gp, rfl, xp, hgp⟩, B17⟩
            have hbl : ∀ x ∈ S6.bits, x < 2 := (hok6.way.facts hc).2.2.1
            have yp := Box.bytes ⟨_, xp⟩ (fun x hx => by have := hbl x hx; omega)
            have F17 := F16.kept B17
            have d17 := d16.kept B17
            have n17 := n16.kept B17
            have b17 := b16.kept B17
            have B170 := bOn B160 B17
            have hgp : w15.heap.size < gp := Nat.lt_of_lt_of_le b16.lt hgp
            have HIN : Hid (∀ i, i < S6.bits.length → u.p.In (u.p.nd S6.bits i)) := Lib.hid (fun i hi => Pb.nd_in _ (by
              have := (hok6.way.facts hc).2.1
              have h2 : S6.bits.length = S6.up.length := wayBits_len _ _
              omega))
            have HST : Hid (∀ i, i ≤ S6.bits.length → S6.low ≤ (u.p.nd S6.bits i).m) := Lib.hid (fun i hi => hok6.stands hc (by rw [← wayBits_len S6.top S6.up]; exact hi))
            have HEN : Hid (u.p.nd S6.bits S6.bits.length = S6.top.n) := Lib.hid (by have h2 : S6.bits.length = S6.up.length := wayBits_len _ _; rw [h2]; exact hok6.end_ hc)
            have HON : Hid (∀ i, i < S6.bits.length → ∃ j, (u.p.kidBits (u.p.nd S6.bits i))[j]? = S6.bits[i]? ∧ j < (u.p.kids (u.p.nd S6.bits i)).length) := Lib.hid (fun i hi => hok6.on hc (by rw [← wayBits_len S6.top S6.up]; exact hi))
            have HKD : Hid (∀ i, i < S6.bits.length → ∀ j b k, (u.p.kids (u.p.nd S6.bits i))[j]? = some k → (u.p.kidBits (u.p.nd S6.bits i))[j]? = some b → S6.bits[i]? = some b → k = u.p.nd S6.bits (i + 1)) := Lib.hid (fun i hi j b k h1 h2 h3 => Pb.kid_on hc hok6 (by rw [← wayBits_len S6.top S6.up]; exact hi) h1 h2 h3)
            have hLb : (S6.bits.length : Int) ≤ 9223372036854775807 := by
              have h1 := (hok6.way.facts hc).2.1
              have h2 : S6.bits.length = S6.up.length := wayBits_len _ _
              have := Pb.N_le hc
              omega
            obtain ⟨bs, hbs'⟩ : ∃ bs, bs = S6.bits := ⟨_, rfl⟩
            rw [← hbs'] at HIN HST HEN HON HKD hLb yp ⊢
            clear hbs' hbl F16 d16 n16 b16 B17 xp B160
            go_wp2_with fail
            go_loopw [16] (fun i wr => ∃ i' : Nat, i' ≤ bs.length ∧ i = .int .i64 i' ∧ Box wr w15.heap.size (u.p.nd bs i').cells ∧ But w15.heap.size w17 wr) (fun i _ => bs.length - (intOf i).toNat)
            case atStart => exact ⟨0, Nat.zero_le _, rfl, b17, But.refl _ _⟩
            case round =>
              obtain ⟨i, hi, rfl, br2, hN⟩ := hrel
              have Fr : FanoIn wr u.p u.D S6 { A with way := g6, cap := c6 } := F17.same hN.size (fun k hk => hN.block k (F17.lt hk) (by have := hA16 k hk; omega))
              have dr : DocIn wr u.p tb tg tc := d17.same (fun k hk => hN.block k (by rcases hk with h | h <;> rw [h]; exact d17.tree.lt; exact d17.glt hc) (by rcases hk with h | h <;> omega))
              have yr := Bytes.but hN yp (by omega)
              by_cases hil : i < bs.length
              · obtain ⟨j1, j2⟩ := ap_lt hil
                have hbi := ap_bd hil hLb
                have gN := br2.load (off := 0) (n := 3) (cs' := (u.p.nd bs i).cells) (Nat.le_refl _) (Array.extract_eq_self_of_le (Nat.le_refl _))
                go_wp2_with ((with_reducible apply ld); rfl; (with_reducible assumption); (simp only [List.set_cons_zero, List.set_cons_succ]; rfl))
                refine (doc_Kids u.p hu.p hc (u.p.nd bs i) (HIN.out i hil) wr dr).mono ?_
                rintro e v1 ⟨⟨nb, kb, rfl, x1, x2, x3, x4, x5⟩, C1⟩
                have y1 := Nodes.ofBox x1
                have y2 := Box.bytes x2 (u.p.kidBits_lt (u.p.nd bs i))
                have bv := br2.kept C1
                have yv := yr.kept C1
                have Fv := Fr.kept C1
                have hNv := hN.on C1
                have hx4 : w15.heap.size < nb := Nat.lt_of_lt_of_le br2.lt x4
                have hx5 : w15.heap.size < kb := Nat.lt_of_lt_of_le br2.lt x5
                have HKL : Hid ((u.p.kidBits (u.p.nd bs i)).length = (u.p.kids (u.p.nd bs i)).length) := Lib.hid (u.p.kbits_len _)
                have HON2 := Lib.hid (HON.out i hil)
                have HKD2 := Lib.hid (HKD.out i hil)
                have hK2 := (u.p.kids_pos (u.p.nd bs i)).2
                obtain ⟨ks, hks⟩ : ∃ ks, ks = u.p.kids (u.p.nd bs i) := ⟨_, rfl⟩
                obtain ⟨kbs, hkbs⟩ : ∃ kb, kb = u.p.kidBits (u.p.nd bs i) := ⟨_, rfl⟩
                rw [← hks] at y1 HKL HON2 HKD2 hK2 ⊢
                rw [← hkbs] at y2 HKL HON2 HKD2 ⊢
                obtain ⟨bb3, oo3, hbo3, cy⟩ := yv.cell i hil
                obtain ⟨rfl, rfl⟩ : gp = bb3 ∧ 0 = oo3 := by simpa using hbo3
                have HY : Hid (bs[i]? = some bs[i]) := Lib.hid (List.getElem?_eq_getElem hil)
                obtain ⟨xb, hxb⟩ : ∃ x, x = bs[i] := ⟨_, rfl⟩
                rw [← hxb] at cy HY
                rw [Nat.zero_add] at cy
                clear hks hkbs x1 x2 gN br2 yr Fr dr hN C1 hbo3 hxb yv
                go_wp2_with fail
                go_loopw [19, 20] (fun f j wr => ∃ j' : Nat, j' ≤ ks.length ∧ j = .int .i64 j' ∧ ((f = .bool false ∧ Box wr w15.heap.size (u.p.nd bs i).cells ∧ Hid (∀ t, t < j' → kbs[t]? ≠ bs[i]?)) ∨ (f = .bool true ∧ Box wr w15.heap.size (u.p.nd bs (i + 1)).cells)) ∧ But w15.heap.size v1 wr) (fun _ j _ => ks.length - (intOf j).toNat)
                case atStart => exact ⟨0, Nat.zero_le _, rfl, .inl ⟨rfl, bv, Lib.hid (fun t ht => by omega)⟩, But.refl _ _⟩
                case round =>
                  obtain ⟨j, hj, rfl, hf, hM⟩ := hrel
                  rcases hf with ⟨rfl, bf, hno⟩ | ⟨rfl, bf⟩
                  · by_cases hjl : j < ks.length
                    · have hjl2 : j < kbs.length := HKL.out ▸ hjl
                      obtain ⟨l1, l2⟩ := ap_lt hjl
                      obtain ⟨l3, l4⟩ := ap_lt hjl2
                      have hbj : (j : Int) + 1 ≤ 9223372036854775807 := by omega
                      obtain ⟨xk, hxk⟩ : ∃ x, kbs[j]? = some x := ⟨_, List.getElem?_eq_getElem hjl2⟩
                      obtain ⟨nk, hnk⟩ : ∃ x, ks[j]? = some x := ⟨_, List.getElem?_eq_getElem hjl⟩
                      obtain ⟨z1, z2, hz, ck⟩ := y2.cell j hjl2
                      obtain ⟨rfl, rfl⟩ : kb = z1 ∧ 0 = z2 := by simpa using hz
                      obtain ⟨z3, z4, hz', cn⟩ := y1 j hjl
                      obtain ⟨rfl, rfl⟩ : nb = z3 ∧ 0 = z4 := by simpa using hz'
                      have ek : kbs[j] = xk := by rw [List.getElem?_eq_getElem hjl2] at hxk; exact Option.some.inj hxk
                      have en : ks[j] = nk := by rw [List.getElem?_eq_getElem hjl] at hnk; exact Option.some.inj hnk
                      rw [Nat.zero_add, ek] at ck
                      rw [Nat.zero_add, en] at cn
                      have ck3 : wr.cell? ⟨kb, j, none⟩ = some (.int .u8 (xk : Int)) := (World.cell?_of_block (hM.block kb (lt_of_cell ck) (by show kb ≠ _; omega))).trans ck
                      have cy3 : wr.cell? ⟨gp, i, none⟩ = some (.int .u8 (xb : Int)) := (World.cell?_of_block (hM.block gp (lt_of_cell cy) (by show gp ≠ _; omega))).trans cy
                      have HXK := Lib.hid hxk
                      have HNK := Lib.hid hnk
                      have qk := KeptW.cell ck3
                      have qy := KeptW.cell cy3
                      clear hz hz' ek en hxk hnk ck
                      by_cases hxx : xk = xb
                      · subst hxx
                        have hnd : nk = u.p.nd bs (i + 1) := HKD2.out j xk nk HNK.out HXK.out HY.out
                        rw [hnd] at cn
                        clear hnd
                        go_upto_region 30 with fail
                        refine wp_region_kept (by kernel_rfl) (by kernel_rfl) ?_
                        repeat first
                          | go_big_quiet_skip
                          | go_big_quiet_step (fail)
                        refine wpQuiet_nil ?_
                        intro v2 C2
                        have hM2 := hM.on C2
                        have bf2 := bf.kept C2
                        have cn2 : loadAgg v2 nb (j * 3) 3 = .ok (.agg (u.p.nd bs (i + 1)).cells) v2 := loadAgg_re cn (hM2.block nb (lt_of_loadAgg cn) (by omega))
                        clear cn qk qy ck3 cy3
                        go_wp2_with (first | ((with_reducible apply ld); rfl; (with_reducible assumption); (simp only [List.set_cons_zero, List.set_cons_succ]; rfl)) | ((with_reducible apply stO); rfl; rfl; exact bf2; rfl; rfl; exact nodeCells_flat _ _ _; intro v3 b3' C3 ho3 hs3))
                        have hM3 := hM2.trans (lw_but hs3 ho3 C3)
                        go_roundw
                        case measure => first | exact ap_meas' hjl | exact ap_meas hjl hbj
                        case rel => exact ⟨j + 1, hjl, (by first | rfl | exact congrArg (Value.int .i64) (ap_succ hbj)), .inr ⟨rfl, b3'⟩, hM3⟩
                      · have hne : ((xk : Int) == (xb : Int)) = false := by simp; omega
                        go_upto_region 30 with fail
                        refine wp_region_kept (by kernel_rfl) (by kernel_rfl) ?_
                        repeat first
                          | go_big_quiet_skip
                          | go_big_quiet_step (fail)
                        refine wpQuiet_nil ?_
                        intro v2 C2
                        go_wp2_with fail
                        go_roundw
                        case measure => first | exact ap_meas' hjl | exact ap_meas hjl hbj
                        case rel =>
                          refine ⟨j + 1, hjl, (by first | rfl | exact congrArg (Value.int .i64) (ap_succ hbj)), .inl ⟨rfl, bf.kept C2, Lib.hid (fun t ht => ?_)⟩, hM.on C2⟩
                          rcases Nat.lt_succ_iff_lt_or_eq.1 ht with h | rfl
                          · exact hno.out t h
                          · rw [HXK.out, HY.out]
                            exact fun h => hxx (Option.some.inj h)
                    · exfalso
                      obtain ⟨t, ht1, ht2⟩ := HON2.out
                      exact hno.out t (by omega) ht1
                  · have hdec : ((j : Int) < (ks.length : Int)) ∨ decide ((ks.length : Int) < (ks.length : Int)) = false ∧ j = ks.length := by
                      by_cases h : j < ks.length
                      · exact .inl (by omega)
                      · exact .inr ⟨by simp, by omega⟩
                    have hst := HST.out (i + 1) hil
                    have n2 : wr.cell? ⟨w15.heap.size, 2, none⟩ = some (.int .i64 (u.p.nd bs (i + 1)).m) := bf.cell 2
                    obtain ⟨mm, hmm⟩ : ∃ mm, mm = (u.p.nd bs (i + 1)).m := ⟨_, rfl⟩
                    rw [← hmm] at n2 hst
                    have t1 : decide (mm < S6.low) = false := by simp; omega
                    have q2 := KeptW.cell n2
                    have Fr : FanoIn wr u.p u.D S6 { A with way := g6, cap := c6 } := Fv.same hM.size (fun k hk => hM.block k (Fv.lt hk) (by have := hA16 k hk; omega))
                    clear hmm hst
                    rcases hdec with hdec | ⟨hdec, rfl⟩
                    all_goals
                      go_upto_region 33 with fail
                      refine wp_region_kept (by kernel_rfl) (by kernel_rfl) ?_
                      repeat first
                        | go_big_quiet_skip
                        | go_big_quiet_step (exact Calls.kept (fano_Least u.p hu.p u.D S6 { A with way := g6, cap := c6 } _ (Fr.kept (Subtype.property _))))
                      refine wpQuiet_nil ?_
                      intro v2 C2
                      go_wp2_with fail
                      go_roundw
                      case measure => first | exact ap_meas' hil | exact ap_meas hil hbi
                      case rel => exact ⟨i + 1, hil, (by first | rfl | exact congrArg (Value.int .i64) (ap_succ hbi)), bf.kept C2, (hNv.trans hM).on C2⟩
              · obtain rfl := ap_end hil hi
                have k3 : decide ((bs.length : Int) < (bs.length : Int)) = false := by simp
                rw [HEN.out] at br2
                have n18 := hN.box n17 (by omega)
                have gA := br2.load (off := 0) (n := 3) (cs' := S6.top.n.cells) (Nat.le_refl _) (Array.extract_eq_self_of_le (Nat.le_refl _))
                have gB := n18.load (off := 0) (n := 3) (cs' := S6.top.n.cells) (Nat.le_refl _) (Array.extract_eq_self_of_le (Nat.le_refl _))
                have hne := neqNode S6.top.n S6.top.n
                rw [Nd.same_iff.2 rfl] at hne
                simp only [Bool.not_true] at hne
                have BN : Below w6.heap.size w6 wr := B170.trans (hN.below w6.heap.size (by have := HWS.out; omega) B170.size)
                go_wp2_with ((with_reducible apply ld); rfl; (with_reducible assumption); (simp only [List.set_cons_zero, List.set_cons_succ]; rfl))
                go_roundw
                case measure => first | exact ap_meas' hkl | exact ap_meas hkl hb1
                case rel => exact ⟨k + 1, hkl, (by first | rfl | exact congrArg (Value.int .i64) (ap_succ hb1)), my, S6, g6, c6, rfl, hm6, hok6, HWK.out, Fr, hgw6, T06.on BN⟩
      · obtain rfl := ap_end hkl hk
        have k3 : decide ((u.bs.length : Int) < (u.bs.length : Int)) = false := by simp
        have c41 : wr.cell? ⟨w.heap.size, 41, none⟩ = some (.slice ab u.bs.length cb) := by rw [br.cell]; exact Hu.c41 hu.p _ _ _
        go_wp2_with fail
        refine (o18_live wr).mono ?_
        rintro e w6 ⟨rfl, B6⟩
        go_wp2
        go_ret
        exact ⟨rfl, bOn BR B6⟩
  · exact law18_StandsNo u a ab ap c cb cp hu hB hgood w hw
end Go.Proofs.Ytkjnmjilkhigaaa

/- Arguments of small bulk: the rows that they hold are short. -/
namespace Go.Proofs.Ytkjnmjilkhigaaa
open Go.RowKit Go.ChangeShapes Go.WideShapes Go.ChangeAt

/-- A measure that counts a row's places, and a struct's parts. -/
structure Bulk {H : Type} (f : DataW H → Nat) : Prop where
  slice : ∀ el sp, el.length ≤ f (.slice el sp)
  agg : ∀ ds d, d ∈ ds → f d ≤ f (.agg ds)
section
variable {H : Type} {enc : TypeId × Value → H} {P : Program} {w : World} {base : Nat} {sp : Nat → Bool} {held : Bool} {f : DataW H → Nat}
theorem slice_bulk {t e : TypeId} {fuel : Nat} {a : Option Addr} {len cap : Nat} {x : DataW H × List MemPlace} (hf : Bulk f) (ht : P.underlying t = some (.slice e)) (h : DataW.trod enc P w base sp held fuel t [.slice a len cap] = some x) : len ≤ f x.1 := by
  rcases Deep.open_slice ht h with ⟨hcs, _⟩ | ⟨a', len', cap', m, n, D, Pl, hcs, _, hl, hmax, hm, hx, hall⟩
  · simp at hcs
    omega
  · simp at hcs
    obtain ⟨rfl, rfl, rfl⟩ := hcs
    rw [hx]
    have := hf.slice ((List.range len).map D) ((List.range (m - len)).map fun j => D (len + j))
    simpa using this
theorem field_bulk {t : TypeId} {fs : Array Field} {fuel : Nat} {cs : List Value} {x : DataW H × List MemPlace} (hf : Bulk f) (ht : P.underlying t = some (.struct fs)) (h : DataW.trod enc P w base sp held fuel t cs = some x) {j : Nat} {fd : Field} (hj : fs[j]? = some fd) :
    ∃ n y, DataW.trod enc P w base sp held n fd.type ((cs.drop fd.offset).take (P.cellsOf fd.type)) = some y ∧ f y.1 ≤ f x.1 := by
  obtain ⟨xs, n, rfl, hx, hl, hxs, hall⟩ := DataW.trod_struct ht h
  have hj2 : j < xs.length := by
    rw [hxs]
    rcases Nat.lt_or_ge j fs.size with h | h
    · exact h
    · rw [Array.getElem?_eq_none h] at hj; cases hj
  refine ⟨n, xs[j], (hall j fd hj).trans (List.getElem?_eq_getElem hj2), ?_⟩
  rw [hx]
  exact hf.agg _ _ (List.mem_map.2 ⟨_, List.getElem_mem hj2, rfl⟩)
end
section
variable {H : Type} {enc : TypeId × Value → H} {w : World} {base : Nat} {sp : Nat → Bool} {held : Bool} {f : DataW H → Nat}
theorem prob_bulkL {fuel : Nat} {p : Pb} {a : Option Addr} {len cap : Nat} {x : DataW H × List MemPlace} (hf : Bulk f) (hp : p.Ok) (h : DataW.trod enc Try.prog w base sp held fuel 32 (p.cells (.slice a len cap)).toList = some x) : len ≤ f x.1 := by
  obtain ⟨n, y, h1, h2⟩ := field_bulk hf Try.underlying32 h (j := 3) rfl
  refine Nat.le_trans ?_ h2
  have e : ((p.cells (.slice a len cap)).toList.drop 39).take 1 = [.slice a len cap] := by
    have h39 : (p.cells (.slice a len cap)).toList[39]? = some (.slice a len cap) := by rw [Array.getElem?_toList]; exact hp.cell39 _
    have hl := hp.size (.slice a len cap)
    obtain ⟨hlt, he⟩ := List.getElem?_eq_some_iff.1 h39
    rw [List.drop_eq_getElem_cons hlt, he]
    rfl
  have h1 : DataW.trod enc Try.prog w base sp held n 30 (((p.cells (.slice a len cap)).toList.drop 39).take (Try.prog.cellsOf 30)) = some y := h1
  rw [show Try.prog.cellsOf 30 = 1 by kernel_rfl, e] at h1
  exact slice_bulk hf Try.underlying30 h1
theorem prob_bulk {p : Pb} {a : Option Addr} {len cap : Nat} {d : DataW H} {ps : List MemPlace} (hf : Bulk f) (hp : p.Ok) (h : DataW.Trod enc Try.prog w base sp held 32 (.agg (p.cells (.slice a len cap))) d ps) : len ≤ f d := by
  obtain ⟨fuel, h⟩ := h
  exact prob_bulkL hf hp h
theorem hunt_bulk {u : Hu} (hu : u.Ok) {a ab ap : Option Addr} {c cb cp : Nat} {d : DataW H} {ps : List MemPlace} (hf : Bulk f) (h : DataW.Trod enc Try.prog w base sp held 48 (.agg (u.v a ab ap c cb cp)) d ps) : u.p.B.length ≤ f d ∧ u.bs.length ≤ f d := by
  obtain ⟨fuel, h⟩ := h
  have h : DataW.trod enc Try.prog w base sp held fuel 48 (u.v a ab ap c cb cp).toList = some (d, ps) := h
  have hsz := hu.p.size (.slice a u.p.B.length c)
  have ev : (u.v a ab ap c cb cp).toList = (u.p.cells (.slice a u.p.B.length c)).toList ++ [.int .i64 u.D, .slice ab u.bs.length cb, .slice ap u.path.length cp] := by unfold Hu.v Hu.cells; simp
  have hsl : (u.p.cells (.slice a u.p.B.length c)).toList.length = 40 := by rw [Array.length_toList, hsz]
  constructor
  · obtain ⟨n, y, h1, h2⟩ := field_bulk hf Try.underlying48 h (j := 0) rfl
    refine Nat.le_trans ?_ h2
    have h1 : DataW.trod enc Try.prog w base sp held n 32 (((u.v a ab ap c cb cp).toList.drop 0).take (Try.prog.cellsOf 32)) = some y := h1
    rw [show Try.prog.cellsOf 32 = 40 by kernel_rfl, ev, List.drop_zero, List.take_left' hsl] at h1
    exact prob_bulkL hf hu.p h1
  · obtain ⟨n, y, h1, h2⟩ := field_bulk hf Try.underlying48 h (j := 2) rfl
    refine Nat.le_trans ?_ h2
    have h1 : DataW.trod enc Try.prog w base sp held n 46 (((u.v a ab ap c cb cp).toList.drop 41).take (Try.prog.cellsOf 46)) = some y := h1
    rw [show Try.prog.cellsOf 46 = 1 by kernel_rfl, ev, List.drop_append, List.drop_eq_nil_of_le (by rw [hsl]; decide), hsl] at h1
    exact slice_bulk hf Try.underlying46 h1
end
end Go.Proofs.Ytkjnmjilkhigaaa
