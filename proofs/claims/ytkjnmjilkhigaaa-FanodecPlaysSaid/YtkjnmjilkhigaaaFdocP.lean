import Derived.Test.YtkjnmjilkhigaaaFdocL
set_option linter.unusedSimpArgs false
set_option linter.unusedVariables false
set_option linter.unnecessarySimpa false
/- Fano's machine, the document's: a look. -/
namespace Go.Proofs.Ytkjnmjilkhigaaa
open Go.RowKit

theorem Pb.flook_work (p : Pb) (D : Int) (s : Fm) (x : Int) : p.flook D { s with work := x } = { p.flook D s with work := x } := by
  unfold Pb.flook
  split <;> rfl
def FdLookPost (p : Pb) (D : Int) (s' : Fm) (A : DA) (w : World) (e : Ending) (w' : World) : Prop :=
  e = .returned (.tuple #[]) ∧ (∃ g c, FdIn w' p D s' { A with way := g, cap := c } ∧ (g = A.way ∨ w.heap.size ≤ g)) ∧ Turn A.wr w w'
def dThr (w : World) (mb : Nat) : Int := match w.cell? ⟨mb, 3, none⟩ with
  | some (.int _ n) => n
  | _ => 0
theorem FdIn.dThr {w : World} {p : Pb} {D : Int} {s : Fm} {A : DA} (h : FdIn w p D s A) : dThr w A.mb = s.thr := by unfold Proofs.Ytkjnmjilkhigaaa.dThr; rw [h.at_.c3]
theorem build_spot2 (n : Nd) (b : Nat) (w : World) : (Instr.build 110 #[(0, .agg n.cells), (1, .int .u8 b)]).run Try.prog w = .ok (.agg #[.int .u32 n.s, .int .i64 n.d, .int .i64 n.m, .int .u8 b, .int .i64 0]) w := by
  unfold Nd.cells nodeCells
  go_simp
  try rfl
theorem build_spots (n : Nd) (b : Nat) (w : World) : (Instr.buildSlice 111 1 #[(0, .agg #[.int .u32 n.s, .int .i64 n.d, .int .i64 n.m, .int .u8 b, .int .i64 0])]).run Try.prog w = .ok (.slice (some ⟨w.heap.size, 0, none⟩) 1 1) (w.alloc (.cells #[.int .u32 n.s, .int .i64 n.d, .int .i64 n.m, .int .u8 b, .int .i64 0] 110)) := by
  go_simp
  try rfl
set_option maxRecDepth 5000 in
theorem fd_look (p : Pb) (hp : p.Ok) (hc : probChk p = 0) (D : Int) (hD : 1 ≤ D) (hD2 : D ≤ 65536) (s : Fm) (hs : s.Ok p D) (hn : s.done = false) (A : DA) (w : World) (h : FdIn w p D s A) :
    Calls Try.prog 52 #[.pointer (some ⟨A.mb, 0, none⟩)] w (FdLookPost p D (p.fstep D s) A w) := by
  go_enter Try.func52, Try.ntmps52
  have c5 := h.at_.c5
  have f5 := h.at_.fz 5
  have h1 := h.work (wrap64 (s.work + 1))
  have T1 : Turn A.wr w (w.setCell ⟨A.mb, 5, none⟩ (.int .i64 (wrap64 (s.work + 1)))) := (Turn.refl _ w).set (q := ⟨A.mb, 5, none⟩) (.inl rfl) _
  go_upto_region 1 with fail
  obtain ⟨s0, hs0⟩ : ∃ s0, s0 = s := ⟨_, rfl⟩
  obtain ⟨s1, hs1⟩ : ∃ s1 : Fm, s1 = { s with work := wrap64 (s.work + 1) } := ⟨_, rfl⟩
  have hok1 : s1.Ok p D := by
    obtain ⟨a1, a2, a3, a4, a5, a6, a7, a8, a9, a10, a11⟩ := hs
    rw [hs1]
    exact ⟨a1, a2, a3, a4, a5, a6, a7, a8, a9, a10, a11⟩
  have hn1 : s1.done = false := by rw [hs1]; exact hn
  have hst : p.fstep D s = p.flook D s1 := by rw [hs1, p.flook_work]; rfl
  rw [← hs1] at h1
  have HST := Lib.hid hst
  refine nameAny (fun W => FdIn W p D s1 A ∧ Turn A.wr w W) ⟨h1, T1⟩ ?_
  clear c5 f5 h1 T1 hs0 hs1 hst hs hn h
  rintro w1 ⟨h1, T1⟩
  have hwl := (hok1.way.facts hc).2.1
  have hNb := Pb.N_le hc
  have hdl : s1.top.n.d < p.N := by
    have h1 := hok1.dn
    rw [hn1] at h1
    have h2 : s1.top.n.d ≠ p.N := by simpa using h1.symm
    have h4 := hok1.way.depth hc
    omega
  have hin := hok1.way.in_ hc hdl
  have ht := hok1.tries hn1
  have hbd1 := hok1.way.bd hc
  have htb := hok1.thr_bd
  have htl := hok1.thr_le
  have hway := hok1.way
  obtain ⟨g1, g2⟩ := Pb.kidAt_get ht
  have hkbd := (hok1.way.push ht hdl).bd hc
  have hkid : Pure Try.prog 78 #[.pointer (some ⟨A.mb, 0, none⟩)] w1 (p.kidV s1.top) := fd_kid p hp hc D s1 (by omega) hin (by omega) A w1 h1
  have hV : p.kidV s1.top = .tuple #[.agg (p.kidAt s1.top).n.cells, .int .u8 (p.kidAt s1.top).b, .bool true] := if_pos ht
  rw [hV] at hkid
  have htt : (s1.top.t : Int) + 1 ≤ 1000 := by have := (p.kids_pos s1.top.n).2; omega
  have hmul := Lib.hid hok1.mul
  clear hV g1 g2 hn1 hok1 hin ht
  obtain ⟨kd, hkd⟩ : ∃ kd, kd = p.kidAt s1.top := ⟨_, rfl⟩
  rw [← hkd] at hkid hkbd
  have HKD := Lib.hid hkd
  clear hkd
  obtain ⟨J, hJ⟩ : ∃ J, J = s1.up.length := ⟨_, rfl⟩
  have hhere : ∀ W s', s'.up.length = J → FdIn W p D s' A → Pure Try.prog 58 #[.pointer (some ⟨A.mb, 0, none⟩)] W (.pointer (some ⟨A.way, J * 5, none⟩)) := fun W s' e hW => e ▸ fd_here p D s' (by omega) A W hW
  rw [← hJ] at hwl
  have HJ := Lib.hid hJ
  clear hJ
  go_wp2_with fail
  refine hkid.mono ?_
  rintro e w2 ⟨rfl, B2⟩
  have h2 := h1.kept B2
  have T2 := T1.on B2
  clear hkid h1 T1 B2
  have bn := Box.new w2 #[.int .u32 0, .int .i64 0, .int .i64 0] 80
  go_upto_region 2 with ((with_reducible apply stO); rfl; rfl; exact bn; rfl; rfl; exact nodeCells_flat kd.n.s kd.n.d kd.n.m; intro w3 b3 B3 ho3 hs3)
  have B32 : Below w2.heap.size w2 w3 := ((Below.refl _ w2).alloc (Nat.le_refl _) _).trans B3
  have b3' : Box w3 w2.heap.size kd.n.cells := b3
  have h3 := h2.kept B32
  have T3 := T2.on B32
  have hfar : ∀ k, A.has k → k ≠ w2.heap.size := fun k hk => by have := h2.lt hk; omega
  have hsz2 := T2.size
  clear bn b3 B3 ho3 hs3 h2 T2 B32
  have hh := hhere w3 s1 HJ.out.symm h3
  go_wp2_with fail
  refine hh.mono ?_
  rintro e w4 ⟨rfl, B4⟩
  have h4 := h3.kept B4
  have T4 := T3.on B4
  have b4 := b3'.kept B4
  have t4 : w4.cell? ⟨A.way, J * 5 + 4, none⟩ = some (.int .i64 s1.top.t) := HJ.out ▸ h4.top.2.2.2
  have tz := h4.frz (J * 5 + 4)
  have h5 : FdIn (w4.setCell ⟨A.way, J * 5 + 4, none⟩ (.int .i64 ((s1.top.t : Int) + 1))) p D { s1 with top := ⟨s1.top.n, s1.top.b, s1.top.t + 1⟩ } A := HJ.out ▸ h4.tried (s1.top.t + 1)
  have T5 := T4.set (q := ⟨A.way, J * 5 + 4, none⟩) (.inr rfl) (.int .i64 ((s1.top.t : Int) + 1))
  have b5 := b4.setOther (p := ⟨A.way, J * 5 + 4, none⟩) (hfar _ (.inr (.inl rfl))) (.int .i64 ((s1.top.t : Int) + 1))
  clear hh h3 T3 b3' B4 h4 T4 b4
  go_upto_region 3 with fail
  refine nameAny (fun W => FdIn W p D { s1 with top := ⟨s1.top.n, s1.top.b, s1.top.t + 1⟩ } A ∧ Turn A.wr w W ∧ Box W w2.heap.size kd.n.cells) ⟨h5, T5, b5⟩ ?_
  clear t4 tz h5 T5 b5
  rintro w5 ⟨h5, T5, b5⟩
  have hkm := b5.cell 2
  simp only [Nd.cells, nodeCells, List.getElem?_toArray, List.getElem?_cons_zero, List.getElem?_cons_succ] at hkm
  have c43 : w5.cell? ⟨A.mb, 3, none⟩ = some (.int .i64 s1.thr) := h5.at_.c3
  refine wp_region_kept (by kernel_rfl) (by kernel_rfl) ?_
  have qk := KeptW.cell hkm
  have q43 := KeptW.cell c43
  repeat first
    | go_big_quiet_step (fail)
  refine wpQuiet_nil ?_
  intro w6 B6
  have h6 := h5.kept B6
  have T6 := T5.on B6
  have b6 := b5.kept B6
  clear qk q43 hkm c43 h5 T5 b5 B6
  by_cases hk : kd.n.m < s1.thr
  · have hk1 : decide (kd.n.m < s1.thr) = true := by simpa using hk
    go_upto_region 4 with fail
    go_wp2_with fail
    refine (fd_fall p hp hc D hD hD2 { s1 with top := ⟨s1.top.n, s1.top.b, s1.top.t + 1⟩ } (by show _ ≤ s1.thr; omega) (by show s1.thr ≤ _; omega) (hway.tried _) A _ h6).mono ?_
    rintro e w7 ⟨rfl, h7, T7⟩
    go_wp2_with fail
    refine bodyPost_end (results_nil rfl) rfl ?_
    have e : p.flook D s1 = p.fall D { s1 with top := ⟨s1.top.n, s1.top.b, s1.top.t + 1⟩ } := if_pos (by rw [← HKD.out]; exact hk)
    rw [HST.out, e]
    exact (show FdLookPost _ _ _ _ _ _ _ from ⟨rfl, ⟨A.way, A.cap, h7, .inl rfl⟩, T6.trans T7⟩)
  · have hk1 : decide (kd.n.m < s1.thr) = false := by simpa using hk
    go_upto_region 5 with fail
    have a6 := h6.at_
    have c43 : w6.cell? ⟨A.mb, 3, none⟩ = some (.int .i64 s1.thr) := a6.c3
    have c41 : w6.cell? ⟨A.mb, 1, none⟩ = some (.int .i64 D) := a6.c1
    have cm : w6.cell? ⟨A.way, J * 5 + 2, none⟩ = some (.int .i64 s1.top.n.m) := HJ.out ▸ h6.top.2.1
    have hh := fun (W : KeptW w6) => hhere W.val { s1 with top := ⟨s1.top.n, s1.top.b, s1.top.t + 1⟩ } HJ.out.symm (h6.kept W.property)
    clear a6
    (refine wp_region_kept_tail 16 (by kernel_rfl) (by kernel_rfl) ?_; simp only [List.take_succ_cons, List.take_zero, List.drop_succ_cons, List.drop_zero])
    have q43 := KeptW.cell c43
    have q41 := KeptW.cell c41
    have qm := KeptW.cell cm
    repeat first
      | go_big_quiet_step (exact Calls.kept (hh _))
    refine wpQuiet_nil ?_
    intro w7 B7
    have h7 := h6.kept B7
    have T7 := T6.on B7
    have b7 := b6.kept B7
    clear q43 q41 qm c43 c41 cm hh h6 T6 b6 B7
    go_upto_region 6 with fail
    obtain ⟨fst, hfst⟩ : ∃ b, b = decide (s1.top.n.m < s1.thr + D) := ⟨_, rfl⟩
    rw [← hfst]
    have HF := Lib.hid hfst
    clear hfst
    have c42 : w7.cell? ⟨A.mb, 2, none⟩ = some (.slice (some ⟨A.way, 0, none⟩) (J + 1) A.cap) := HJ.out ▸ h7.at_.c2
    have gk := b7.load (off := 0) (n := 3) (cs' := kd.n.cells) (Nat.le_refl _) (Array.extract_eq_self_of_le (Nat.le_refl _))
    (refine wp_region_link 8 1 (by kernel_rfl) rfl (by decide) (by kernel_rfl) (by kernel_rfl) (by kernel_rfl) (by kernel_rfl) ?_; simp only [linkAt, Nat.reduceAdd, List.modify_succ_cons, List.modify_zero_cons, List.push_toArray, List.cons_append, List.nil_append, List.take_succ_cons, List.take_zero, List.drop_succ_cons, List.drop_zero])
    have q42 := KeptW.cell c42
    repeat first
      | ((refine det_plain rfl ?_); ((with_reducible apply q_ld); rfl; (with_reducible assumption); (simp only [List.set_cons_zero, List.set_cons_succ]; rfl)); (refine wpQuiet_nil ?_))
      | ((with_reducible apply det_nilG); rfl; rfl; (simp only [List.set_cons_zero, List.set_cons_succ]; rfl))
      | ((refine det_plain rfl ?_); ((with_reducible apply q_build (d := 59) (cs := #[.int .u32 kd.n.s, .int .i64 kd.n.d, .int .i64 kd.n.m, .int .u8 kd.b, .int .i64 0])); ((simp only [List.map_toArray, List.map_cons, List.map_nil]); exact build_spot2 kd.n kd.b); (simp only [List.set_cons_zero, List.set_cons_succ]; rfl)); (refine wpQuiet_nil ?_))
      | ((refine det_plain rfl ?_); (go_big_quiet_step (fail)); (refine wpQuiet_nil ?_))
    refine wpDet_nil ?_
    refine free_slice anti_list (cs := #[.int .u32 kd.n.s, .int .i64 kd.n.d, .int .i64 kd.n.m, .int .u8 kd.b, .int .i64 0]) (e := 110) (by intro W; simp only [List.map_toArray, List.map_cons, List.map_nil]; exact build_spots kd.n kd.b W) ?_
    intro b9 h9
    simp only [List.set_cons_zero, List.set_cons_succ]
    intro w8 B8 hS
    obtain ⟨_, x9⟩ := hS
    have h8 := h7.kept B8
    have T8 := T7.on B8
    have b8 := b7.kept B8
    have hsz8 := T8.size
    have hO7 : w8.ownsRow 0 110 5 (.slice (some ⟨A.way, 0, none⟩) (J + 1) A.cap) (J + 1) (wayRow ⟨s1.top.n, s1.top.b, s1.top.t + 1⟩ s1.up) := HJ.out ▸ h8.way
    have e63 : J + 1 + 1 ≤ 9223372036854775807 / 65536 := by omega
    have ebt : (J + 1 + 1) * 40 ≤ 140737488355328 := by omega
    clear q42 c42 gk h7 T7 b7 B8
    have hpush := fun v2 w9 => FdIn.push (w' := w9) (v' := v2) (z := ⟨kd.n, kd.b, 0⟩) h8
    go_wp2_with (at_builtin; refine apQ (b := b9) (us := [.int .u32 kd.n.s, .int .i64 kd.n.d, .int .i64 kd.n.m, .int .u8 kd.b, .int .i64 0]) (m := 1) hO7 (by decide) (by decide) rfl rfl x9 rfl (by intro u hu; simp at hu; rcases hu with rfl | rfl | rfl | rfl | rfl <;> rfl) e63 ebt (Nat.zero_le _) ?_; intro v2 w9 hO8 hg8; obtain ⟨g, c, rfl, hP, hgw, TP, hm8⟩ := hpush v2 w9 (HJ.out ▸ hO8) (HJ.out ▸ hg8); have f42 := hm8.frozen 2; have e42 : w9.cell? ⟨A.mb, 2, none⟩ = some (.slice (some ⟨A.way, 0, none⟩) (s1.up.length + 1) A.cap) := (hm8.cell 2).trans rfl)
    refine ⟨rfl, ?_⟩
    have b18 := b8.turn TP (fun hh => by rcases hh with hh | hh; exact hfar _ (.inl rfl) hh.symm; exact hfar _ (.inr (.inl rfl)) hh.symm)
    go_wp2_with fail
    refine nameAny (fun W => FdIn W p D { s1 with top := ⟨kd.n, kd.b, 0⟩, up := ⟨s1.top.n, s1.top.b, s1.top.t + 1⟩ :: s1.up } { A with way := g, cap := c } ∧ Turn A.wr w W ∧ Box W w2.heap.size kd.n.cells) ⟨hP, T8.trans TP, b18⟩ ?_
    have hgw2 : g = A.way ∨ w.heap.size ≤ g := by rcases hgw with h | h; exact .inl h; exact .inr (by omega)
    clear hP TP b18 f42 e42 hm8 hO8 hg8 hpush b8 T8 h8 x9 hO7 e63 ebt hgw hhere
    rintro w9 ⟨h9, T9, b9'⟩
    go_loopw [] (fun wr => ∃ t i : Int, t = s1.thr + D * i ∧ s1.thr ≤ t ∧ t ≤ kd.n.m ∧ (fst = false → t = s1.thr) ∧ FdIn wr p D { s1 with top := ⟨kd.n, kd.b, 0⟩, up := ⟨s1.top.n, s1.top.b, s1.top.t + 1⟩ :: s1.up, thr := t } { A with way := g, cap := c } ∧ Turn A.wr w wr ∧ Box wr w2.heap.size kd.n.cells) (fun wr => (kd.n.m - dThr wr A.mb).toNat)
    case atStart => exact ⟨s1.thr, 0, by simp, Int.le_refl _, by omega, fun _ => rfl, h9, T9, b9'⟩
    case round =>
      obtain ⟨t, i, ht, ht1, ht2, ht3, hR, TR, bR⟩ := hrel
      have HT := Lib.hid ht
      have HT3 := Lib.hid ht3
      clear ht ht3 h9 T9 b9'
      have hkm := bR.cell 2
      simp only [Nd.cells, nodeCells, List.getElem?_toArray, List.getElem?_cons_zero, List.getElem?_cons_succ] at hkm
      have a9 := hR.at_
      have c43 : wr.cell? ⟨A.mb, 3, none⟩ = some (.int .i64 t) := a9.c3
      have c41 : wr.cell? ⟨A.mb, 1, none⟩ = some (.int .i64 D) := a9.c1
      clear a9
      go_upto_region 7 with fail
      cases fst with
      | false =>
        have hF : ¬ s1.top.n.m < s1.thr + D := by simpa using HF.out.symm
        have HTHR : (if s1.top.n.m < s1.thr + D then raise D s1.thr kd.n.m else s1.thr) = t := by rw [if_neg hF]; exact (HT3.out rfl).symm
        · have qk : True := trivial
          have q43 : True := trivial
          have q41 : True := trivial
          refine wp_region_kept (by kernel_rfl) (by kernel_rfl) ?_
          repeat first
            | go_big_quiet_skip
            | go_big_quiet_step (fail)
          have hX : p.flook D s1 = { s1 with top := ⟨kd.n, kd.b, 0⟩, up := ⟨s1.top.n, s1.top.b, s1.top.t + 1⟩ :: s1.up, thr := t, done := kd.n.d == p.N } := by
            unfold Pb.flook
            rw [← HKD.out, if_neg (by omega)]
            have e1 : (if s1.top.n.m < s1.thr + D then raise D s1.thr kd.n.m else s1.thr) = t := HTHR
            rw [e1]
            have e2 : kd = ⟨kd.n, kd.b, 0⟩ := by rw [HKD.out]; rfl
            rw [← e2]
          have HX := Lib.hid hX
          clear hX HTHR
          refine wpQuiet_nil ?_
          intro w10 B10
          have h10 := hR.kept B10
          have T10 := TR.on B10
          have b10 := bR.kept B10
          clear qk q43 q41 hkm c43 c41 hR TR bR B10
          go_upto_region 9 with fail
          have c40 : w10.cell? ⟨A.mb, 0, none⟩ = some (.pointer (some ⟨A.tb, 0, none⟩)) := h10.at_.c0
          have gk := b10.load (off := 0) (n := 3) (cs' := kd.n.cells) (Nat.le_refl _) (Array.extract_eq_self_of_le (Nat.le_refl _))
          have htree : DocIn w10 p A.tb A.g A.c := h10.tree
          (refine wp_region_kept_tail 9 (by kernel_rfl) (by kernel_rfl) ?_; simp only [List.take_succ_cons, List.take_zero, List.drop_succ_cons, List.drop_zero])
          have q40 := KeptW.cell c40
          repeat first
            | ((with_reducible apply q_ld); rfl; (with_reducible assumption); (simp only [List.set_cons_zero, List.set_cons_succ]; rfl))
            | go_big_quiet_step (exact Calls.kept (doc_Leaf p hp hc kd.n _ (htree.kept (Subtype.property _))))
          refine wpQuiet_nil ?_
          intro w11 B11
          have h11 := h10.kept B11
          have T11 := T10.on B11
          have f46 : w11.frozen? ⟨A.mb, 6, none⟩ = false := h11.at_.fz 6
          have e46 : w11.cell? ⟨A.mb, 6, none⟩ = some (.bool s1.done) := h11.at_.c6
          have h12 : FdIn (w11.setCell ⟨A.mb, 6, none⟩ (.bool (kd.n.d == p.N))) p D { s1 with top := ⟨kd.n, kd.b, 0⟩, up := ⟨s1.top.n, s1.top.b, s1.top.t + 1⟩ :: s1.up, thr := t, done := kd.n.d == p.N } { A with way := g, cap := c } := h11.done (kd.n.d == p.N)
          have T12 := T11.set (q := ⟨A.mb, 6, none⟩) (.inl rfl) (.bool (kd.n.d == p.N))
          clear q40 c40 gk htree h10 T10 b10 h11 T11 B11
          go_wp2_with fail
          refine bodyPost_end (results_nil rfl) rfl ?_
          rw [HST.out, HX.out]
          exact (show FdLookPost _ _ _ _ _ _ _ from ⟨rfl, ⟨g, c, h12, hgw2⟩, T12⟩)
      | true =>
        have hF : s1.top.n.m < s1.thr + D := by simpa using HF.out.symm
        by_cases hgo : t + D ≤ kd.n.m
        · have hg1 : decide (t + D ≤ kd.n.m) = true := by simpa using hgo
          refine wp_region_kept (by kernel_rfl) (by kernel_rfl) ?_
          have qk := KeptW.cell hkm
          have q43 := KeptW.cell c43
          have q41 := KeptW.cell c41
          repeat first
            | go_big_quiet_skip
            | go_big_quiet_step (fail)
          refine wpQuiet_nil ?_
          intro w10 B10
          have h10 := hR.kept B10
          have T10 := TR.on B10
          have b10 := bR.kept B10
          have HA := Lib.hid hR.dThr
          clear qk q43 q41 hkm c43 c41 hR TR bR B10
          go_upto_region 8 with fail
          have a10 := h10.at_
          have c43 : w10.cell? ⟨A.mb, 3, none⟩ = some (.int .i64 t) := a10.c3
          have c41 : w10.cell? ⟨A.mb, 1, none⟩ = some (.int .i64 D) := a10.c1
          clear a10
          (refine wp_region_kept_tail 12 (by kernel_rfl) (by kernel_rfl) ?_; simp only [List.take_succ_cons, List.take_zero, List.drop_succ_cons, List.drop_zero])
          have q43 := KeptW.cell c43
          have q41 := KeptW.cell c41
          repeat first
            | go_big_quiet_step (fail)
          refine wpQuiet_nil ?_
          intro w11 B11
          have h11 := h10.kept B11
          have T11 := T10.on B11
          have b11 := b10.kept B11
          have f43 : w11.frozen? ⟨A.mb, 3, none⟩ = false := h11.at_.fz 3
          have e43 : w11.cell? ⟨A.mb, 3, none⟩ = some (.int .i64 t) := h11.at_.c3
          have h12 : FdIn (w11.setCell ⟨A.mb, 3, none⟩ (.int .i64 (t + D))) p D { s1 with top := ⟨kd.n, kd.b, 0⟩, up := ⟨s1.top.n, s1.top.b, s1.top.t + 1⟩ :: s1.up, thr := t + D } { A with way := g, cap := c } := h11.thr (t + D)
          have T12 := T11.set (q := ⟨A.mb, 3, none⟩) (.inl rfl) (.int .i64 (t + D))
          have b12 := b11.setOther (p := ⟨A.mb, 3, none⟩) (hfar _ (.inl rfl)) (.int .i64 (t + D))
          have HB := Lib.hid h12.dThr
          clear q43 q41 c43 c41 h10 T10 b10 h11 T11 b11 B11
          go_wp2_with fail
          go_roundw
          case measure =>
            have e1 : dThr _ A.mb = t := HA.out
            have e2 : dThr _ A.mb = t + D := HB.out
            show (kd.n.m - dThr _ A.mb).toNat < (kd.n.m - dThr _ A.mb).toNat
            rw [e1, e2]
            omega
          case rel => exact ⟨t + D, i + 1, by have := HT.out; rw [Int.mul_add, Int.mul_one]; omega, by omega, hgo, fun h => (by cases h), h12, T12, b12⟩
        · have hg1 : decide (t + D ≤ kd.n.m) = false := by simpa using hgo
          have HTHR : (if s1.top.n.m < s1.thr + D then raise D s1.thr kd.n.m else s1.thr) = t := by rw [if_pos hF]; exact (raise_uniq hD HT.out ht2 (by omega)).symm
          refine wp_region_kept (by kernel_rfl) (by kernel_rfl) ?_
          have qk := KeptW.cell hkm
          have q43 := KeptW.cell c43
          have q41 := KeptW.cell c41
          repeat first
            | go_big_quiet_skip
            | go_big_quiet_step (fail)
          have hX : p.flook D s1 = { s1 with top := ⟨kd.n, kd.b, 0⟩, up := ⟨s1.top.n, s1.top.b, s1.top.t + 1⟩ :: s1.up, thr := t, done := kd.n.d == p.N } := by
            unfold Pb.flook
            rw [← HKD.out, if_neg (by omega)]
            have e1 : (if s1.top.n.m < s1.thr + D then raise D s1.thr kd.n.m else s1.thr) = t := HTHR
            rw [e1]
            have e2 : kd = ⟨kd.n, kd.b, 0⟩ := by rw [HKD.out]; rfl
            rw [← e2]
          have HX := Lib.hid hX
          clear hX HTHR
          refine wpQuiet_nil ?_
          intro w10 B10
          have h10 := hR.kept B10
          have T10 := TR.on B10
          have b10 := bR.kept B10
          clear qk q43 q41 hkm c43 c41 hR TR bR B10
          go_upto_region 9 with fail
          have c40 : w10.cell? ⟨A.mb, 0, none⟩ = some (.pointer (some ⟨A.tb, 0, none⟩)) := h10.at_.c0
          have gk := b10.load (off := 0) (n := 3) (cs' := kd.n.cells) (Nat.le_refl _) (Array.extract_eq_self_of_le (Nat.le_refl _))
          have htree : DocIn w10 p A.tb A.g A.c := h10.tree
          (refine wp_region_kept_tail 9 (by kernel_rfl) (by kernel_rfl) ?_; simp only [List.take_succ_cons, List.take_zero, List.drop_succ_cons, List.drop_zero])
          have q40 := KeptW.cell c40
          repeat first
            | ((with_reducible apply q_ld); rfl; (with_reducible assumption); (simp only [List.set_cons_zero, List.set_cons_succ]; rfl))
            | go_big_quiet_step (exact Calls.kept (doc_Leaf p hp hc kd.n _ (htree.kept (Subtype.property _))))
          refine wpQuiet_nil ?_
          intro w11 B11
          have h11 := h10.kept B11
          have T11 := T10.on B11
          have f46 : w11.frozen? ⟨A.mb, 6, none⟩ = false := h11.at_.fz 6
          have e46 : w11.cell? ⟨A.mb, 6, none⟩ = some (.bool s1.done) := h11.at_.c6
          have h12 : FdIn (w11.setCell ⟨A.mb, 6, none⟩ (.bool (kd.n.d == p.N))) p D { s1 with top := ⟨kd.n, kd.b, 0⟩, up := ⟨s1.top.n, s1.top.b, s1.top.t + 1⟩ :: s1.up, thr := t, done := kd.n.d == p.N } { A with way := g, cap := c } := h11.done (kd.n.d == p.N)
          have T12 := T11.set (q := ⟨A.mb, 6, none⟩) (.inl rfl) (.bool (kd.n.d == p.N))
          clear q40 c40 gk htree h10 T10 b10 h11 T11 B11
          go_wp2_with fail
          refine bodyPost_end (results_nil rfl) rfl ?_
          rw [HST.out, HX.out]
          exact (show FdLookPost _ _ _ _ _ _ _ from ⟨rfl, ⟨g, c, h12, hgw2⟩, T12⟩)
end Go.Proofs.Ytkjnmjilkhigaaa

/- Fano's machine, the document's: Node, Run, Path. -/
namespace Go.Proofs.Ytkjnmjilkhigaaa
open Go.RowKit

set_option maxRecDepth 5000 in
theorem fd_Node (p : Pb) (hc : probChk p = 0) (D : Int) (s : Fm) (hs : s.Ok p D) (A : DA) (w : World) (h : FdIn w p D s A) : Pure Try.prog 54 #[.pointer (some ⟨A.mb, 0, none⟩)] w (.agg s.top.n.cells) := by
  have hwl := (hs.way.facts hc).2.1
  have hNb := Pb.N_le hc
  go_enter Try.func54, Try.ntmps54
  go_upto_region 1 with fail
  refine name1 ?_
  intro w0 b2 B0
  have h0 := h.kept B0
  go_wp2_with fail
  refine (fd_here p D s (by omega) A w0 h0).mono ?_
  rintro e w2 ⟨rfl, B2⟩
  have h2 := h0.kept B2
  have b22 := b2.kept B2
  have gx := h2.top.1
  have B20 := bOn B0 B2
  clear h0 h2 b2
  go_wp2_with (first | ((with_reducible apply ld); rfl; (with_reducible assumption); (simp only [List.set_cons_zero, List.set_cons_succ]; rfl)) | ((with_reducible apply stO); rfl; rfl; exact b22; rfl; rfl; exact nodeCells_flat s.top.n.s s.top.n.d s.top.n.m; intro w3 b3 B3 ho3 hs3))
  refine bodyPost_ret (results_cellAgg rfl rfl (b3.load (off := 0) (n := 3) (cs' := s.top.n.cells) (Nat.le_refl _) (Array.extract_eq_self_of_le (Nat.le_refl _)))) rfl ?_
  exact ⟨rfl, B20.trans B3⟩
def FdRunPost (p : Pb) (D : Int) (s' : Fm) (A : DA) (w : World) (e : Ending) (w' : World) : Prop :=
  e = .returned (.tuple #[.bool s'.done, .int .i64 0]) ∧ (∃ g c, FdIn w' p D s' { A with way := g, cap := c } ∧ (g = A.way ∨ w.heap.size ≤ g)) ∧ Turn A.wr w w'
theorem Turn.fd {w wr w2 : World} {A : DA} {g c : Nat} (h : Turn A.wr w wr) (hg : g = A.way ∨ w.heap.size ≤ g) (k : Turn ({ A with way := g, cap := c } : DA).wr wr w2) : Turn A.wr w w2 :=
  h.trans' k fun q hq hn hw => by
    rcases hw with hw | hw
    · exact hn (.inl hw)
    · have hw : q = g := hw
      rcases hg with e | e
      · exact hn (.inr (hw.trans e))
      · omega
theorem fd_Run_bad (v : Value) (b : Int) (hb : b < 0 ∨ 1048576 < b) (w : World) : Pure Try.prog 30 #[v, .int .i64 b] w (.tuple #[.bool false, .int .i64 1]) := by
  rcases hb with hb | hb
  · have h1 : decide (b < 0) = true := by simpa using hb
    go_enter Try.func30, Try.ntmps30
    go_wp2
    go_ret2
    exact ⟨rfl, Below.refl _ _⟩
  · have h1 : decide (b < 0) = false := by simpa using (show 0 ≤ b by omega)
    have h2 : decide (1048576 < b) = true := by simpa using hb
    go_enter Try.func30, Try.ntmps30
    go_wp2
    go_ret2
    exact ⟨rfl, Below.refl _ _⟩
set_option maxRecDepth 5000 in
theorem fd_Run (p : Pb) (hp : p.Ok) (hc : probChk p = 0) (D : Int) (hD : 1 ≤ D) (hD2 : D ≤ 65536) (s : Fm) (hs : s.Ok p D) (A : DA) (b : Nat) (hb : b ≤ 1048576) (w : World) (h : FdIn w p D s A) :
    Calls Try.prog 30 #[.pointer (some ⟨A.mb, 0, none⟩), .int .i64 b] w (FdRunPost p D (p.frun D b s) A w) := by
  have h1 : decide ((b : Int) < 0) = false := by simp
  have h2 : decide ((1048576 : Int) < b) = false := by simp; omega
  go_enter Try.func30, Try.ntmps30
  go_wp2_with fail
  go_loopw [6] (fun v wr => ∃ k : Nat, k ≤ b ∧ v = .int .i64 k ∧ (∃ g c, FdIn wr p D (p.frun D k s) { A with way := g, cap := c } ∧ (g = A.way ∨ w.heap.size ≤ g)) ∧ Turn A.wr w wr) (fun v _ => b - (intOf v).toNat)
  case atStart => exact ⟨0, Nat.zero_le _, rfl, ⟨A.way, A.cap, h, .inl rfl⟩, Turn.refl _ _⟩
  case round =>
    obtain ⟨k, hk, rfl, ⟨g, c, hR, hgw⟩, TR⟩ := hrel
    clear h h1 h2
    have hok := hs.run hc hD k
    obtain ⟨sk, hsk⟩ : ∃ sk, sk = p.frun D k s := ⟨_, rfl⟩
    rw [← hsk] at hR hok
    have HS := Lib.hid hsk
    clear hsk
    have c46 : wr.cell? ⟨A.mb, 6, none⟩ = some (.bool sk.done) := hR.at_.c6
    by_cases hkb : k < b
    · obtain ⟨hk2, hk3⟩ := ap_lt hkb
      cases hdn : sk.done with
      | true =>
        rw [hdn] at c46
        have HE : Hid (p.frun D b s = sk) := Lib.hid (by
          have e : b = k + (b - k) := by omega
          rw [e, p.frun_add, ← HS.out]
          exact p.frun_done D _ hdn)
        have HDN := Lib.hid hdn
        clear hdn
        go_wp2_with fail
        go_ret2
        rw [HE.out]
        refine (show FdRunPost _ _ _ _ _ _ _ from ⟨(by rw [HDN.out]; rfl), ⟨g, c, hR, hgw⟩, TR⟩)
      | false =>
        rw [hdn] at c46
        have HDN := Lib.hid hdn
        clear hdn
        have hlook : Calls Try.prog 52 #[.pointer (some ⟨A.mb, 0, none⟩)] wr (FdLookPost p D (p.fstep D sk) { A with way := g, cap := c } wr) := fd_look p hp hc D hD hD2 sk hok HDN.out { A with way := g, cap := c } wr hR
        go_wp2_with fail
        refine hlook.mono ?_
        rintro e w2 ⟨rfl, ⟨g2, c2, hM, hg2⟩, T2⟩
        have hM : FdIn w2 p D (p.fstep D sk) { A with way := g2, cap := c2 } := hM
        have hg2 : g2 = g ∨ wr.heap.size ≤ g2 := hg2
        have T12 : Turn A.wr w w2 := TR.fd hgw T2
        have hgn : g2 = A.way ∨ w.heap.size ≤ g2 := by
          have := TR.size
          rcases hg2 with e | e
          · rcases hgw with e' | e'
            · exact .inl (e.trans e')
            · exact .inr (by omega)
          · exact .inr (by omega)
        have HN : Hid (p.frun D (k + 1) s = p.fstep D sk) := Lib.hid (by rw [p.frun_snoc, ← HS.out, HDN.out]; rfl)
        have kb : (k : Int) + 1 ≤ 9223372036854775807 := by omega
        clear T2 TR hR c46 hlook hgw hg2
        go_wp2_with fail
        go_roundw
        case measure => first | exact ap_meas' hkb | exact ap_meas hkb kb
        case rel => exact ⟨k + 1, hkb, (by first | rfl | exact congrArg (Value.int .i64) (ap_succ kb)), ⟨g2, c2, by rw [HN.out]; exact hM, hgn⟩, T12⟩
    · obtain rfl := ap_end hkb hk
      have k3 : decide ((k : Int) < (k : Int)) = false := by simp
      go_wp2_with fail
      go_ret2
      rw [← HS.out]
      exact (show FdRunPost _ _ _ _ _ _ _ from ⟨rfl, ⟨g, c, hR, hgw⟩, TR⟩)
theorem own_formB {w : World} {B e n : Nat} {v : Value} {vs : List Value} (hO : w.ownsRow B e 1 v n vs) : ∃ a c, v = .slice a vs.length c := by
  have h1 : vs.length = n := by have := hO.1; omega
  rw [h1]
  rcases hO.2 with ⟨rfl, rfl⟩ | ⟨g, cap, cur, rfl, _⟩
  · exact ⟨none, 0, rfl⟩
  · exact ⟨_, _, rfl⟩
theorem below_ap {w w' : World} {B e sz n m : Nat} {v v' : Value} {xs : List Value} (hO : w.ownsRow B e sz v n xs) (hB : B ≤ w.heap.size)
    (hg : (∃ g c, v = .slice (some ⟨g, 0, none⟩) n c ∧ v' = .slice (some ⟨g, 0, none⟩) (n + m) c ∧ w.grownBy w' (some g)) ∨ (v'.ownBlock = some (w.heap.size + 1) ∧ w.grownBy w' none)) : Below B w w' := by
  rcases hg with ⟨g, c, rfl, _, hg⟩ | ⟨_, hg⟩
  · exact Below.grown (v := .slice (some ⟨g, 0, none⟩) n c) hg hB fun k hk => (World.ownsRow.lt hO k hk).1
  · exact Below.grown (v := .slice none 0 0) hg hB fun k hk => by cases hk
theorem below_apQ {w w' : World} {B e sz n m : Nat} {v v' : Value} {xs : List Value} (hO : w.ownsRow B e sz v n xs) (hB : B ≤ w.heap.size)
    (hg : (∃ g c, v = .slice (some ⟨g, 0, none⟩) n c ∧ v' = .slice (some ⟨g, 0, none⟩) (n + m) c ∧ w.grownBy w' (some g)) ∨ (v'.ownBlock = some w.heap.size ∧ w.grownBy w' none)) : Below B w w' := by
  rcases hg with ⟨g, c, rfl, _, hg⟩ | ⟨_, hg⟩
  · exact Below.grown (v := .slice (some ⟨g, 0, none⟩) n c) hg hB fun k hk => (World.ownsRow.lt hO k hk).1
  · exact Below.grown (v := .slice none 0 0) hg hB fun k hk => by cases hk
/-- The bits to where it stands, a row in new memory. -/
def PathRow (bs : List Nat) (w : World) (e : Ending) (w' : World) : Prop := (∃ a c, e = .returned (.slice a bs.length c) ∧ w'.ownsRow w.heap.size 5 1 (.slice a bs.length c) bs.length (u8s bs)) ∧ Below w.heap.size w w'
set_option maxRecDepth 5000 in
theorem fd_Path (p : Pb) (hc : probChk p = 0) (D : Int) (s : Fm) (hs : s.Ok p D) (A : DA) (w : World) (h : FdIn w p D s A) : Calls Try.prog 53 #[.pointer (some ⟨A.mb, 0, none⟩)] w (PathRow s.bits w) := by
  have hwl := (hs.way.facts hc).2.1
  have hNb := Pb.N_le hc
  have hbl : s.bits.length = s.up.length := wayBits_len _ _
  obtain ⟨J, hJ⟩ : ∃ J, J = s.up.length := ⟨_, rfl⟩
  rw [← hJ] at hwl hbl
  have HJ := Lib.hid hJ
  have HBL := Lib.hid hbl
  clear hJ hbl
  go_enter Try.func53, Try.ntmps53
  go_wp2_with fail
  go_loopw [3, 4] (fun v i wr => ∃ k : Nat, k ≤ J ∧ i = .int .i64 ((k : Int) + 1) ∧ wr.ownsRow w.heap.size 5 1 v k (u8s (s.bits.take k)) ∧ Below w.heap.size w wr) (fun _ i _ => J + 1 - (intOf i).toNat)
  case atStart => exact ⟨0, Nat.zero_le _, rfl, ⟨rfl, .inl ⟨rfl, rfl⟩⟩, Below.refl _ _⟩
  case round =>
    obtain ⟨k, hk, rfl, hO, TR⟩ := hrel
    have hR := h.kept TR
    have c2 : wr.cell? ⟨A.mb, 2, none⟩ = some (.slice (some ⟨A.way, 0, none⟩) (J + 1) A.cap) := HJ.out ▸ hR.at_.c2
    by_cases hkJ : k < J
    · have hlen : k + 1 < ((s.top :: s.up).reverse).length := by simp; have := HJ.out; omega
      obtain ⟨x, hx⟩ : ∃ x, ((s.top :: s.up).reverse)[k + 1]? = some x := ⟨_, List.getElem?_eq_getElem hlen⟩
      have hxb : s.bits[k]? = some x.b := wayBits_get hx
      have hcb : wr.cell? ⟨A.way, (k + 1) * 5 + 3, none⟩ = some (.int .u8 x.b) := hR.cell (wayRow_nodes _ _ hx (j := 3) (by decide))
      have HX := Lib.hid hxb
      have k1 : decide ((k : Int) + 1 < (J : Int) + 1) = true := by simp; omega
      have k2 : (k : Int) + 1 < (J : Int) + 1 := by omega
      have k3 : k + 1 < J + 1 := by omega
      have k4 : 0 ≤ (k : Int) + 1 := by omega
      have k5 : ((k : Int) + 1).toNat = k + 1 := by omega
      have hbw : w.heap.size ≤ wr.heap.size := TR.size
      have e63 : k + 1 ≤ 9223372036854775807 / 65536 := by omega
      have ebt : (k + 1) * 1 ≤ 140737488355328 := by omega
      clear hlen hx hxb hR
      go_wp2_with (at_builtin; refine apP (us := [.int .u8 x.b]) (m := 1) hO (by decide) (by decide) rfl rfl rfl (by intro u hu; simp at hu; subst hu; rfl) e63 ebt hbw ?_; intro v2 w2 hO2 hg2)
      have T2 := TR.trans (below_ap hO hbw hg2)
      have hO3 : w2.ownsRow w.heap.size 5 1 v2 (k + 1) (u8s (s.bits.take (k + 1))) := by
        have e : u8s (s.bits.take (k + 1)) = u8s (s.bits.take k) ++ [Value.int .u8 x.b] := by
          rw [List.take_add_one, HX.out]
          simp [u8s]
        rw [e]; exact hO2
      go_roundw
      case measure => simp only [intOf]; omega
      case rel => exact ⟨k + 1, hkJ, (by go_num), hO3, T2⟩
    · obtain rfl := ap_end hkJ hk
      have k3 : decide ((k : Int) + 1 < (k : Int) + 1) = false := by simp
      obtain ⟨a7, c7, hv⟩ := own_formB hO
      have hul : (u8s (s.bits.take k)).length = k := by simp [u8s]; rw [HBL.out]; exact Nat.min_self _
      rw [hul] at hv
      subst hv
      have hall : s.bits.take k = s.bits := List.take_of_length_le (by rw [HBL.out]; exact Nat.le_refl _)
      rw [hall] at hO
      have HU := Lib.hid (And.intro hul hall)
      clear hul hall hk
      go_wp2
      go_ret
      refine (show PathRow _ _ _ _ from ⟨⟨a7, c7, (by rw [HBL.out]; rfl), by rw [HBL.out]; exact hO⟩, TR⟩)
end Go.Proofs.Ytkjnmjilkhigaaa
