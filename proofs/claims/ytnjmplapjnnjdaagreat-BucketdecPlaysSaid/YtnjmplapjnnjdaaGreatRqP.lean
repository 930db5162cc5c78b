/- The search of layer 17, the document's: put. -/
import Derived.Test.YtnjmplapjnnjdaaGreatTreeT
set_option linter.unusedSimpArgs false
set_option linter.unusedVariables false
set_option linter.unnecessarySimpa false
namespace Go.Proofs.YtnjmplapjnnjdaaGreat
open Go.RowKit
set_option linter.unusedSimpArgs false
set_option linter.unusedVariables false

theorem alloc_oldR (w : World) (o : Obj) {k : Nat} (hk : k < w.heap.size) : (w.alloc o).heap[k]? = w.heap[k]? := by
  have := ((Below.refl w.heap.size w).alloc (Nat.le_refl _) o).block k hk
  exact this
theorem build_ent1 (s d m : Int) (a : Option Addr) (n c : Nat) (w : World) : (Instr.buildSlice 78 1 #[(0, .agg #[.int .u32 s, .int .i64 d, .int .i64 m, .slice a n c])]).run Tryz.prog w = .ok (.slice (some ⟨w.heap.size, 0, none⟩) 1 1) (w.alloc (.cells #[.int .u32 s, .int .i64 d, .int .i64 m, .slice a n c] 77)) := by
  go_simp
  try rfl
def RqPutPost (p : Pb) (D : Int) (most : Nat) (s' : Bq) (fv : Value) (A : RA) (Ow : Nat → Prop) (w : World) (e : Ending) (w' : World) : Prop :=
  e = .returned (.tuple #[]) ∧ (∃ es' g c, Rq w' p D most s' es' fv { A with lb := g, cap := c } Ow ∧ (g = A.lb ∨ w.heap.size ≤ g)) ∧ Turn (fun k => k = A.sb ∨ k = A.lb) w w'
set_option maxRecDepth 5000 in
theorem rq_put {w : World} {p : Pb} (hp : p.Ok) {D : Int} (hD : 1 ≤ D) {most : Nat} (hmost : most ≤ 65536) {s : Bq} {es : List (Ent × Value)} {fv : Value} {A : RA} {Ow : Nat → Prop} (h : Rq w p D most s es fv A Ow) (hlen : es.length ≤ most) {x : Ent × Value} (hx : BitsAt w Ow x.2 x.1.bs)
    (hm : ∀ y ∈ es ++ [x], -100000000 ≤ y.1.n.m ∧ y.1.n.m ≤ 100000000) :
    Calls Tryz.prog 78 #[.pointer (some ⟨A.sb, 0, none⟩), .agg (rqCell x).toArray] w (RqPutPost p D most (s.put D most x.1) fv A Ow w) := by
  have HBX := Lib.hid hx
  obtain ⟨ax, cx, hxv, _⟩ := hx
  have hX : (rqCell x).toArray = #[.int .u32 x.1.n.s, .int .i64 x.1.n.d, .int .i64 x.1.n.m, .slice ax x.1.bs.length cx] := by unfold rqCell; rw [hxv]
  have HX := Lib.hid hX
  have hone := rqCell_one (x := x) (by rw [hxv]; rfl)
  have HONE := Lib.hid hone
  have HM := Lib.hid hm
  clear hone hm
  rw [hX]
  clear hX hxv
  go_enter Tryz.func78, Tryz.ntmps78
  go_upto_region 1 with fail
  refine name1 ?_
  intro w0 b0 B0
  have h0 := h.kept B0
  have c43 := (h0.at_ hp).c43
  have gx := fun W (hI : Below w0.heap.size w0 W) => (b0.kept hI).load (off := 0) (n := 4) (cs' := #[.int .u32 x.1.n.s, .int .i64 x.1.n.d, .int .i64 x.1.n.m, .slice ax x.1.bs.length cx]) (Nat.le_refl _) rfl
  have GX := Lib.hid gx
  have C43 := Lib.hid c43
  clear gx c43
  (refine wp_region_treeT (fun W => Below w0.heap.size w0 W) 7 (.free 0 (.free 1 (.free 2 (.free 3 (.pure 4 (.pure 5 (.one 6 (.one 7 (.free 8 (.free 9 (.one 10 .nil))))))))))) (by kernel_rfl) (by kernel_rfl) ?_; simp only [List.getD_cons_zero, List.getD_cons_succ, wpOVI])
  intro w1 B1
  iterate 4
    refine ⟨rfl, _, fun W => by go_simp; first | done | rfl, ?_⟩
    try simp only [put_list, List.set_cons_zero, List.set_cons_succ]
  refine ⟨fun _ => B1, .slice (some ⟨A.lb, 0, none⟩) es.length A.cap, fun W hI => by have c := KeptW.cell C43.out ⟨W, hI⟩; go_simp, ?_⟩
  try simp only [put_list, List.set_cons_zero, List.set_cons_succ]
  refine ⟨fun _ => B1, .agg #[.int .u32 x.1.n.s, .int .i64 x.1.n.d, .int .i64 x.1.n.m, .slice ax x.1.bs.length cx], fun W hI => pure_ldR rfl (GX.out W hI), ?_⟩
  try simp only [put_list, List.set_cons_zero, List.set_cons_succ]
  refine ⟨fun _ => B1, ?_⟩
  have h1 := h0.kept B1
  have hca := ownsN_cap h1.list
  go_wp2_with ((with_reducible apply w_slice (d := 12) (cs := #[.int .u32 x.1.n.s, .int .i64 x.1.n.d, .int .i64 x.1.n.m, .slice ax x.1.bs.length cx]) (e := 77)); ((simp only [List.map_toArray, List.map_cons, List.map_nil]); exact build_ent1 _ _ _ _ _ _ _))
  refine ⟨B1.alloc B1.size _, ?_⟩
  have hown := h1.list.alloc (.cells #[.int .u32 x.1.n.s, .int .i64 x.1.n.d, .int .i64 x.1.n.m, .slice ax x.1.bs.length cx] 77)
  have hnew := alloc_cells_new w1 [.int .u32 x.1.n.s, .int .i64 x.1.n.d, .int .i64 x.1.n.m, .slice ax x.1.bs.length cx] 77
  have HNEW := Lib.hid hnew
  have hl7 : es.length ≤ 65536 := by omega
  clear hnew
  refine apR (us := [.int .u32 x.1.n.s, .int .i64 x.1.n.d, .int .i64 x.1.n.m, .slice ax x.1.bs.length cx]) (g := A.lb) (n := es.length) (cap := A.cap) (m := 1) (xs := rqRow es) (base := 0) rfl rfl hown (by decide) rfl HNEW.out (by intro u hu; simp at hu; rcases hu with rfl | rfl | rfl | rfl <;> rfl) (by omega) (by omega) (Nat.zero_le _) ?_
  intro g2 c2 w2 hO2 hg2
  refine ⟨rfl, ?_⟩
  have hlbl : A.lb < w1.heap.size := ownsN_lt h1.list
  have hk2 : ∀ k, k < w1.heap.size → k ≠ A.lb → w2.heap[k]? = w1.heap[k]? := fun k hk hn => by
    rcases hg2 with ⟨_, hg⟩ | ⟨_, hg⟩
    · exact (hg.block k (by simp; omega) (fun e => hn (Option.some.inj e))).trans (alloc_oldR w1 _ hk)
    · exact (hg.block k (by simp; omega) (fun e => by cases e)).trans (alloc_oldR w1 _ hk)
  have hs2 : w1.heap.size ≤ w2.heap.size := by
    rcases hg2 with ⟨_, hg⟩ | ⟨_, hg⟩ <;> exact Nat.le_trans (by simp) hg.size
  have hgg : g2 = A.lb ∨ w1.heap.size ≤ g2 := by
    rcases hg2 with ⟨e, _⟩ | ⟨e, _⟩
    · exact .inl e
    · exact .inr (by rw [e]; simp)
  have T2 : Turn (fun k => k = A.sb ∨ k = A.lb) w1 w2 := by
    rcases hg2 with ⟨_, hg⟩ | ⟨_, hg⟩
    · exact ⟨hg.os, hg.tape, hg.output, hs2, fun k hk hn => hk2 k hk fun e => hn (.inr e)⟩
    · exact ⟨hg.os, hg.tape, hg.output, hs2, fun k hk hn => hk2 k hk fun e => hn (.inr e)⟩
  have hlen1 : (es ++ [x]).length = es.length + 1 := by simp
  have hrow1 : rqRow (es ++ [x]) = rqRow es ++ [.int .u32 x.1.n.s, .int .i64 x.1.n.d, .int .i64 x.1.n.m, .slice ax x.1.bs.length cx] := by
    rw [rqRow_app]
    congr 1
    have e := congrArg Array.toList HX.out
    simpa [rqRow] using e
  obtain ⟨hN, hbx⟩ := Rq.newList (es' := es ++ [x]) (s' := { s with L := s.L ++ [x.1] }) (g := g2) (c := c2) (w1 := w2) hp h1 (fun k hk hn => hk2 k (hk.elim h1.hasLt fun hk => (h1.ow k hk).2) hn) hs2 (by rw [hlen1, hrow1]; exact hO2) hgg (by rw [List.map_append, h1.ents]; rfl) (fun y hy => (List.mem_append.1 hy).elim (h1.bits y) fun hy => by rw [List.mem_singleton.1 hy]; exact (HBX.out.same (fun k hk hl => (bOn B0 B1).block k hl) fun _ h => h))
  rw [hlen1] at hN
  have c43 : w2.cell? ⟨A.sb, 43, none⟩ = some (.slice (some ⟨A.lb, 0, none⟩) es.length A.cap) := (hbx.cell 43).trans ((rq_cell hp (i := 3)).trans rfl)
  have z43 := hbx.frozen 43
  have T20 : Turn (fun k => k = A.sb ∨ k = A.lb) w w2 := (Turn.ofBelow (bOn B0 B1)).trans T2
  have b02 : Box w2 w.heap.size #[.int .u32 x.1.n.s, .int .i64 x.1.n.d, .int .i64 x.1.n.m, .slice ax x.1.bs.length cx] := (b0.kept B1).imp fun _ e => (hk2 _ (b0.kept B1).lt (by have := ownsN_lt h.list; omega)).trans e
  clear hrow1 hlen1 hbx hO2 hg2 hk2 T2 hown
  iterate 2
    first
      | refine ⟨rfl, _, fun W => by go_simp; first | done | rfl, ?_⟩
      | refine ⟨_, fun W => by go_simp; first | done | rfl, ?_⟩
    try simp only [put_list, List.set_cons_zero, List.set_cons_succ]
  go_wp2_with fail
  have T3 : Turn (fun k => k = A.sb ∨ k = A.lb) w (w2.setCell ⟨A.sb, 43, none⟩ (.slice (some ⟨g2, 0, none⟩) (es.length + 1) c2)) := T20.trans (Turn.setCell _ _ _ (.inl rfl))
  have hs3 : w.heap.size ≤ (w2.setCell ⟨A.sb, 43, none⟩ (.slice (some ⟨g2, 0, none⟩) (es.length + 1) c2)).heap.size := T3.size
  refine nameAny (fun W => Rq W p D most { s with L := s.L ++ [x.1] } (es ++ [x]) fv { A with lb := g2, cap := c2 } Ow ∧ Turn (fun k => k = A.sb ∨ k = A.lb) w W) ⟨hN, T3⟩ ?_
  have hgg1 : g2 = A.lb ∨ w.heap.size ≤ g2 := hgg.imp_right fun h => Nat.le_trans (bOn B0 B1).size h
  clear hN T3 hs3 c43 z43 b02 T20 hgg hs2 hlbl h1 hca h0 b0 B0 B1
  rintro w3 ⟨hN, T3⟩
  have hlen1 : (es ++ [x]).length = es.length + 1 := by simp
  have hA := hN.at_ hp
  have c41 := hA.c41
  have c43 := hA.c43
  rw [hlen1] at c43
  have HLEN := Lib.hid hlen1
  clear hA hlen1
  refine wp_region_kept (by kernel_rfl) (by kernel_rfl) ?_
  have q41 := KeptW.cell c41
  have q43 := KeptW.cell c43
  repeat first
    | go_big_quiet_step (fail)
  refine wpQuiet_nil ?_
  intro w4 B4
  have hN4 := hN.kept B4
  have T4 := T3.on B4
  clear q41 q43 c41 c43 hN T3 B4
  by_cases hfit : es.length + 1 ≤ most
  · have hd : decide ((es.length : Int) + 1 ≤ (most : Int)) = true := by simp; omega
    have hd2 : (es.length : Int) + 1 ≤ (most : Int) := by omega
    have hput : s.put D most x.1 = { s with L := s.L ++ [x.1] } := by
      unfold Bq.put
      rw [if_pos]
      rw [List.length_append, List.length_singleton, ← h.len]
      exact hfit
    have HP := Lib.hid hput
    clear hput
    go_wp2
    refine bodyPost_end (results_nil rfl) rfl ?_
    rw [HP.out]
    exact (show RqPutPost _ _ _ _ _ _ _ _ _ _ from ⟨rfl, ⟨_, g2, c2, hN4, hgg1⟩, T4⟩)
  · have hd : decide ((es.length : Int) + 1 ≤ (most : Int)) = false := by simp; omega
    have hd2 : ¬ (es.length : Int) + 1 ≤ (most : Int) := by omega
    have hput : s.put D most x.1 = { s with L := (s.L ++ [x.1]).eraseIdx (lowIx D (s.L ++ [x.1])), drops := wrap64 (s.drops + 1), gone := if s.some_ = false ∨ s.gone < lowKey D (s.L ++ [x.1]) then lowKey D (s.L ++ [x.1]) else s.gone, some_ := true } := by
      unfold Bq.put
      rw [if_neg]
      rw [List.length_append, List.length_singleton, ← h.len]
      exact hfit
    have HP := Lib.hid hput
    clear hput
    have hlow := rq_lowest hp hD hN4 (by have := HLEN.out; omega) (by have := HLEN.out; omega) HM.out
    obtain ⟨lw, hlw⟩ : ∃ lw, lw = lowIx D (s.L ++ [x.1]) := ⟨_, rfl⟩
    have hlow : Calls Tryz.prog 88 #[.pointer (some ⟨A.sb, 0, none⟩)] w4 fun e w' => e = .returned (.int .i64 lw) ∧ Below w4.heap.size w4 w' := by rw [hlw]; exact hlow
    have hlt : lw < (es ++ [x]).length := by
      rw [hlw]
      have e : (s.L ++ [x.1]).length = (es ++ [x]).length := by have := hN4.len; exact this.symm
      have := (firstMin_facts (keysOf D (s.L ++ [x.1])) (s.L ++ [x.1]).length (by simp)).1
      unfold lowIx
      omega
    obtain ⟨y, hy⟩ : ∃ y, (es ++ [x])[lw]? = some y := ⟨_, List.getElem?_eq_getElem hlt⟩
    have hym := HM.out y (List.mem_of_getElem? hy)
    have hky : lowKey D (s.L ++ [x.1]) = y.1.n.m / D := by
      unfold lowKey
      rw [← hlw]
      exact rq_key hN4 hy
    rw [← hlw, hky] at HP
    clear hlw hky hlt
    go_wp2_with fail
    refine hlow.mono ?_
    rintro e w5 ⟨rfl, B5⟩
    have hN5 := hN4.kept B5
    have T5 := T4.on B5
    clear hlow hN4 T4 B5 hd hd2
    have hbk : Calls Tryz.prog 48 #[.pointer (some ⟨A.sb, 0, none⟩), .int .i64 lw] w5 _ := rq_bucket hp hD hN5 hy hym.1 hym.2
    go_wp2_with fail
    refine hbk.mono ?_
    rintro e w6 ⟨rfl, B6⟩
    have hN6 := hN5.kept B6
    have T6 := T5.on B6
    obtain ⟨ky, hky⟩ : ∃ ky, ky = y.1.n.m / D := ⟨_, rfl⟩
    rw [← hky] at HP ⊢
    clear hbk hN5 T5 B6 hky
    have hout : Calls Tryz.prog 75 #[.pointer (some ⟨A.sb, 0, none⟩), .int .i64 lw] w6 _ := rq_out hp hN6 hy (by have := HLEN.out; omega)
    go_wp2_with fail
    refine hout.mono ?_
    rintro e w7 ⟨rfl, ⟨g7, c7, hN7, hg7⟩, T7⟩
    have hN7 : Rq w7 p D most { s with L := (s.L ++ [x.1]).eraseIdx lw } ((es ++ [x]).eraseIdx lw) fv { A with lb := g7, cap := c7 } Ow := hN7
    have T7' : Turn (fun k => k = A.sb) w6 w7 := T7
    have T71 : Turn (fun k => k = A.sb ∨ k = A.lb) w w7 := T6.trans (T7'.mono fun k _ hk => .inl hk)
    have hg71 : g7 = A.lb ∨ w.heap.size ≤ g7 := .inr (Nat.le_trans T6.size hg7)
    clear hout hN6 T7 T7' T6 hg7 hgg1 hy hym
    have hA := hN7.at_ hp
    have c45 : w7.cell? ⟨A.sb, 45, none⟩ = some (.int .i64 s.drops) := hA.c45
    have z45 : w7.frozen? ⟨A.sb, 45, none⟩ = false := hA.fz 45
    have hN8 := hN7.drops hp (wrap64 (s.drops + 1))
    have T8 := T71.set (q := ⟨A.sb, 45, none⟩) (.inl rfl) (.int .i64 (wrap64 (s.drops + 1)))
    clear hA hN7 T71
    go_upto_region 7 with fail
    refine nameAny (fun W => Rq W p D most { s with L := (s.L ++ [x.1]).eraseIdx lw, drops := wrap64 (s.drops + 1) } ((es ++ [x]).eraseIdx lw) fv { A with lb := g7, cap := c7 } Ow ∧ Turn (fun k => k = A.sb ∨ k = A.lb) w W) ⟨hN8, T8⟩ ?_
    clear hN8 T8 c45 z45
    rintro w8 ⟨hN8, T8⟩
    have hA := hN8.at_ hp
    have c46 : w8.cell? ⟨A.sb, 46, none⟩ = some (.int .i64 s.gone) := hA.c46
    have c47 : w8.cell? ⟨A.sb, 47, none⟩ = some (.bool s.some_) := hA.c47
    have z46 : w8.frozen? ⟨A.sb, 46, none⟩ = false := hA.fz 46
    have z47 : w8.frozen? ⟨A.sb, 47, none⟩ = false := hA.fz 47
    clear hA
    by_cases hcs : s.some_ = false ∨ s.gone < ky
    · have hp2 := HP.out
      rw [if_pos hcs] at hp2
      have HP := Lib.hid hp2
      have hN10 := hN8.gone hp ky
      have hN11 := hN10.some_ hp true
      have T10 := T8.set (q := ⟨A.sb, 46, none⟩) (.inl rfl) (.int .i64 ky)
      have T11 := T10.set (q := ⟨A.sb, 47, none⟩) (.inl rfl) (.bool true)
      have c47b : (w8.setCell ⟨A.sb, 46, none⟩ (.int .i64 ky)).cell? ⟨A.sb, 47, none⟩ = some (.bool s.some_) := (hN10.at_ hp).c47
      have z47b : (w8.setCell ⟨A.sb, 46, none⟩ (.int .i64 ky)).frozen? ⟨A.sb, 47, none⟩ = false := (hN10.at_ hp).fz 47
      clear hp2 hN8 T8 hN10 T10
      cases hsm : s.some_ with
      | false =>
        rw [hsm] at c47 c47b
        clear hcs hsm
        go_wp2
        refine bodyPost_end (results_nil rfl) rfl ?_
        rw [HP.out]
        exact (show RqPutPost _ _ _ _ _ _ _ _ _ _ from ⟨rfl, ⟨_, g7, c7, hN11, hg71⟩, T11⟩)
      | true =>
        rw [hsm] at c47 c47b
        have hlt : s.gone < ky := hcs.resolve_left (by rw [hsm]; decide)
        have hd : decide (s.gone < ky) = true := by simpa using hlt
        clear hcs hsm
        go_wp2
        refine bodyPost_end (results_nil rfl) rfl ?_
        rw [HP.out]
        exact (show RqPutPost _ _ _ _ _ _ _ _ _ _ from ⟨rfl, ⟨_, g7, c7, hN11, hg71⟩, T11⟩)
    · have hp2 := HP.out
      rw [if_neg hcs] at hp2
      have HP := Lib.hid hp2
      have hsm : s.some_ = true := by
        cases h : s.some_ with
        | true => rfl
        | false => exact absurd (.inl h) hcs
      have hlt : ¬ s.gone < ky := fun h => hcs (.inr h)
      have hd : decide (s.gone < ky) = false := by simpa using hlt
      have hN11 := hN8.some_ hp true
      have T11 := T8.set (q := ⟨A.sb, 47, none⟩) (.inl rfl) (.bool true)
      rw [hsm] at c47
      clear hp2 hN8 T8 hcs hsm
      go_wp2
      refine bodyPost_end (results_nil rfl) rfl ?_
      rw [HP.out]
      exact (show RqPutPost _ _ _ _ _ _ _ _ _ _ from ⟨rfl, ⟨_, g7, c7, hN11, hg71⟩, T11⟩)
end Go.Proofs.YtnjmplapjnnjdaaGreat
