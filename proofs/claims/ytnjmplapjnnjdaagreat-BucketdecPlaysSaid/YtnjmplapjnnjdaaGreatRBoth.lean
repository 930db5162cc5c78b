import Derived.Test.YtnjmplapjnnjdaaGreatRqM
import Derived.Test.YtnjmplapjnnjdaaGreatSeRes
import Derived.Test.YtnjmplapjnnjdaaGreatDocLook
import Derived.Test.YtnjmplapjnnjdaaGreatLink
import Derived.Test.YtnjmplapjnnjdaaGreatDocCount
import Derived.Test.YtnjmplapjnnjdaaGreatKid
import Derived.Test.YtnjmplapjnnjdaaGreatLFloors
set_option linter.unusedSimpArgs false
set_option linter.unusedVariables false
set_option linter.unnecessarySimpa false
/- The search of layer 17, the document's: Fits, New. -/
namespace Go.Proofs.YtnjmplapjnnjdaaGreat
open Go.RowKit
set_option linter.unusedSimpArgs false
set_option linter.unusedVariables false

def rqZero : Array Value := #[.int .i64 0, .int .i64 0, .int .u32 0, .int .u32 0, .int .u32 0, .int .i64 0, .int .i64 0, .int .i64 0, .int .i64 0, .int .i64 0, .int .i64 0, .int .i64 0, .int .i64 0, .int .i64 0, .int .i64 0, .int .i64 0, .int .i64 0, .int .i64 0, .int .i64 0, .int .i64 0, .int .i64 0, .int .i64 0, .int .i64 0, .int .i64 0, .int .i64 0, .int .i64 0, .int .i64 0, .int .i64 0, .int .i64 0, .int .i64 0, .int .i64 0, .int .i64 0, .int .i64 0, .int .i64 0, .int .i64 0, .int .i64 0, .int .i64 0, .int .i64 0, .int .i64 0, .slice none 0 0, .pointer none, .int .i64 0, .int .i64 0, .slice none 0 0, .int .i64 0, .int .i64 0, .int .i64 0, .bool false, .bool false, .int .u32 0, .int .i64 0, .int .i64 0, .slice none 0 0]
def rqPlaces : Array (Nat × Nat) := #[(0, 40), (40, 1), (41, 1), (42, 1), (43, 1), (44, 1), (45, 1), (46, 1), (47, 1), (48, 1), (49, 4)]
theorem built_rq (l : List (Nat × Value)) : Tryz.prog.built 80 l = Instr.fill (fun i => rqPlaces[i]?) rqZero l := by
  kernel_rfl
theorem build_rq (p : Pb) (hp : p.Ok) (v : Value) (tb : Option Addr) (m D : Int) (a : Option Addr) (n c : Nat) (w : World) :
    (Instr.build 80 #[(0, .agg (p.cells v)), (1, .pointer tb), (2, .int .i64 m), (3, .int .i64 D), (4, .slice a n c)]).run Tryz.prog w = .ok (.agg (p.cells v ++ #[.pointer tb, .int .i64 m, .int .i64 D, .slice a n c, .int .i64 0, .int .i64 0, .int .i64 0, .bool false, .bool false, .int .u32 0, .int .i64 0, .int .i64 0, .slice none 0 0])) w := by
  refine run_build w _ _ _ ?_
  show Tryz.prog.built _ [(0, .agg (p.cells v)), (1, .pointer tb), (2, .int .i64 m), (3, .int .i64 D), (4, .slice a n c)] = _
  rw [built_rq]
  have hs := hp.size v
  rw [fill_agg (by rw [hs]; rfl) (by rw [hs]; decide), hs]
  have e : rqZero.extract 40 rqZero.size = #[.pointer none, .int .i64 0, .int .i64 0, .slice none 0 0, .int .i64 0, .int .i64 0, .int .i64 0, .bool false, .bool false, .int .u32 0, .int .i64 0, .int .i64 0, .slice none 0 0] := rfl
  rw [e]
  rw [fill_cell (off := 40) rfl rfl (by rw [Array.size_append, hs]; decide), fill_cell (off := 41) rfl rfl (by rw [Array.size_setIfInBounds, Array.size_append, hs]; decide), fill_cell (off := 42) rfl rfl (by rw [Array.size_setIfInBounds, Array.size_setIfInBounds, Array.size_append, hs]; decide), fill_cell (off := 43) rfl rfl (by rw [Array.size_setIfInBounds, Array.size_setIfInBounds, Array.size_setIfInBounds, Array.size_append, hs]; decide)]
  have hnil : ∀ z, Instr.fill (fun i => rqPlaces[i]?) z [] = some z := fun _ => rfl
  refine (hnil _).trans (congrArg some ?_)
  rw [Array.setIfInBounds_append_right (by omega), Array.setIfInBounds_append_right (by omega), Array.setIfInBounds_append_right (by omega), Array.setIfInBounds_append_right (by omega), hs]
  congr 1
set_option maxRecDepth 5000 in
theorem rq_Fits (p : Pb) (hp : p.Ok) (h : probChk p = 0) {tb g c : Nat} (D : Int) (hD : 1 ≤ D) (w : World) (hT : DocIn w p tb g c) : Pure Tryz.prog 19 #[.pointer (some ⟨tb, 0, none⟩), .int .i64 D] w (.bool (decide (p.hi_ / D - p.lo_ / D + 1 ≤ 65536))) := by
  obtain ⟨b1, b2, b3, b4⟩ := Pb.lohi_bd h
  have hr := doc_Range p hp h w hT
  have e1 : min (p.C.R * p.N * p.T.lo) 0 = p.lo_ := rfl
  have e2 : max (p.C.R * p.N * p.T.hi) 0 = p.hi_ := rfl
  rw [e1, e2] at hr
  obtain ⟨lo, hlo⟩ : ∃ lo, lo = p.lo_ := ⟨_, rfl⟩
  obtain ⟨hi, hhi⟩ : ∃ hi, hi = p.hi_ := ⟨_, rfl⟩
  rw [← hlo, ← hhi] at hr ⊢
  rw [← hlo] at b1 b2
  rw [← hhi] at b3 b4
  clear hlo hhi e1 e2
  have q1 := ediv_small hD (M := 100000000) (a := lo) (by omega) (by omega)
  have q2 := ediv_small hD (M := 100000000) (a := hi) (by omega) (by omega)
  go_enter Tryz.func19, Tryz.ntmps19
  go_wp2_with fail
  refine hr.mono ?_
  rintro e w1 ⟨rfl, B1⟩
  clear hr
  go_wp2_with fail
  refine (ref11_Down hi D hD (by omega) (by omega) w1).mono ?_
  rintro e w2 ⟨rfl, B2⟩
  go_wp2_with fail
  refine (ref11_Down lo D hD (by omega) (by omega) w2).mono ?_
  rintro e w3 ⟨rfl, B3⟩
  obtain ⟨u, hu⟩ : ∃ u, u = hi / D := ⟨_, rfl⟩
  obtain ⟨v, hv⟩ : ∃ v, v = lo / D := ⟨_, rfl⟩
  rw [← hu] at q2
  rw [← hv] at q1
  rw [← hu, ← hv]
  have HU := Lib.hid hu
  have HV := Lib.hid hv
  clear hu hv
  go_wp2
  go_ret
  exact ⟨by rw [← HU.out, ← HV.out]; rfl, bOn (bOn B1 B2) B3⟩
def RqMNew (p : Pb) (cap D : Int) (w : World) (e : Ending) (w' : World) : Prop :=
  (if newE p cap D = 0 then ∃ sb F, e = .returned (.tuple #[.pointer (some ⟨sb, 0, none⟩), .int .i64 0]) ∧ RqM w' p D cap.toNat (Bq.start D cap.toNat) sb F ∧ ∀ k, F k → w.heap.size ≤ k
    else e = .returned (.tuple #[.pointer none, .int .i64 (newE p cap D)])) ∧ Below w.heap.size w w'
theorem start_eq {D : Int} {most : Nat} (hm : 1 ≤ most) : Bq.start D most = ⟨[ent0], 0, 0, 0, false, none⟩ := by
  unfold Bq.start Bq.put
  rw [if_pos (by simpa using hm)]
  rfl
theorem BitsAt.nil {w : World} {Ow : Nat → Prop} : BitsAt w Ow (.slice none 0 0) [] := ⟨Option.none, 0, rfl, ⟨fun k hk => absurd hk (by simp), fun x hx => by cases hx⟩, Nat.le_refl _, fun b o s h => by cases h⟩
set_option maxRecDepth 5000 in
set_option maxHeartbeats 1000000 in
theorem rq_New (p : Pb) (a : Option Addr) (ca : Nat) (cap D : Int) (hp : p.Ok) (w : World) (hw : Bytes w a p.B) :
    Calls Tryz.prog 6 #[.agg (p.cells (.slice a p.B.length ca)), .int .i64 cap, .int .i64 D] w (RqMNew p cap D w) := by
  go_enter Tryz.func6, Tryz.ntmps6
  go_upto_region 1 with fail
  refine name1 ?_
  intro w0 b2 B0
  have hw0 := hw.kept B0
  obtain ⟨fk, fr, flev, fl, fwin, fcode, ftable, fall⟩ := b2.prob hp
  clear fk fr flev fl fwin fcode ftable
  by_cases h : probChk p = 0
  · go_wp2_with ((with_reducible apply ld); rfl; (with_reducible assumption); (simp only [List.set_cons_zero, List.set_cons_succ]; rfl))
    refine (doc_New p a ca hp h _ hw0).mono ?_
    rintro e w1 ⟨⟨tb, g, c, rfl, hT, ht1, ht2⟩, B1⟩
    have B10 := bOn B0 B1
    have hs0 := B0.size
    clear fall b2 hw0
    by_cases hb : cap < 1 ∨ 65536 < cap
    · have hE : newE p cap D = 1 := by unfold newE; rw [if_neg (by simp [h]), if_pos hb]
      have HE := Lib.hid hE
      have hd : decide (cap < 1) = true ∨ (decide (cap < 1) = false ∧ decide (65536 < cap) = true) := by
        by_cases h : cap < 1
        · exact .inl (by simpa using h)
        · exact .inr ⟨by simpa using h, by simp; omega⟩
      clear hE hb
      rcases hd with d1 | ⟨d1, d2⟩
      all_goals
        go_wp2
        go_ret2
        refine ⟨?_, B10⟩
        rw [HE.out, if_neg (by decide)]
        rfl
    · have d1 : decide (cap < 1) = false := by simp; omega
      have d2 : decide (65536 < cap) = false := by simp; omega
      by_cases hb2 : D < 1 ∨ 65536 < D
      · have hE : newE p cap D = 140 := by unfold newE; rw [if_neg (by simp [h]), if_neg hb, if_pos hb2]
        have HE := Lib.hid hE
        have hd : decide (D < 1) = true ∨ (decide (D < 1) = false ∧ decide (65536 < D) = true) := by
          by_cases h : D < 1
          · exact .inl (by simpa using h)
          · exact .inr ⟨by simpa using h, by simp; omega⟩
        clear hE hb2 hb
        rcases hd with d3 | ⟨d3, d4⟩
        all_goals
          go_wp2
          go_ret2
          refine ⟨?_, B10⟩
          rw [HE.out, if_neg (by decide)]
          rfl
      · have d3 : decide (D < 1) = false := by simp; omega
        have d4 : decide (65536 < D) = false := by simp; omega
        have hD : 1 ≤ D := by omega
        have hcap : 1 ≤ cap.toNat := by omega
        have hfits := rq_Fits p hp h D hD w1 hT
        by_cases hk : p.hi_ / D - p.lo_ / D + 1 ≤ 65536
        · have hE : newE p cap D = 0 := by unfold newE; rw [if_neg (by simp [h]), if_neg hb, if_neg hb2, if_pos hk]
          have HE := Lib.hid hE
          rw [decide_eq_true hk] at hfits
          have hcm : (cap.toNat : Int) = cap := by omega
          obtain ⟨most, hmost⟩ : ∃ most, most = cap.toNat := ⟨_, rfl⟩
          rw [← hmost] at hcm hcap
          have HM := Lib.hid hmost
          subst hcm
          clear hE hk hb hb2 hmost
          go_wp2_with fail
          refine hfits.mono ?_
          rintro e w2 ⟨rfl, B2⟩
          have hT2 := hT.kept B2
          have B20 := bOn B10 B2
          have hs2 := B2.size
          have hs1 := B1.size
          have htl := hT.tree.lt
          have hgl : g < w1.heap.size := by
            obtain ⟨⟨k1, k2⟩, l1, l2, cr, hwin, _⟩ := probChk_ok h
            have hne : p.B.length ≠ 0 := by
              have h1 : 3 ≤ p.N := by unfold Pb.N; omega
              rcases cr with h | h <;> rw [h] at hwin <;> omega
            obtain ⟨b', o', ha, hc'⟩ := hT.win.cell 0 (by omega)
            obtain ⟨rfl, rfl⟩ : g = b' ∧ 0 = o' := by simpa using ha
            exact lt_of_cell hc'
          clear hfits hT B1 B2 B10
          go_upto_region 10 with fail
          (refine wp_region_treeE (.pure 0 (.pure 1 (.pure 2 (.pure 3 (.pure 4 (.pure 5 (.pure 6 (.pure 7 (.one 8 (.pure 9 (.one 10 (.pure 11 (.one 12 (.one 13 (.one 14 .nil))))))))))))))) (by kernel_rfl) (by kernel_rfl) ?_; simp only [List.getD_cons_zero, List.getD_cons_succ, wpOTE])
          intro w3 B3
          have hT3 := hT2.kept B3
          have B30 := bOn B20 B3
          iterate 3
            refine ⟨rfl, _, fun W hW => by go_simp; first | done | rfl, ?_⟩
            try simp only [put_list, List.set_cons_zero, List.set_cons_succ]
          refine ⟨rfl, .agg (p.cells (.slice (some ⟨g, 0, none⟩) p.B.length c)), fun W hW => pure_ldR rfl ((hT3.tree.kept hW).load (off := 0) (n := 40) (by rw [hp.size]; decide) (by rw [Array.extract_eq_self_of_le (by rw [hp.size]; decide)])), ?_⟩
          try simp only [put_list, List.set_cons_zero, List.set_cons_succ]
          iterate 4
            refine ⟨rfl, _, fun W hW => by go_simp; first | done | rfl, ?_⟩
            try simp only [put_list, List.set_cons_zero, List.set_cons_succ]
          refine one_call rfl rfl inferInstance rfl ?_
          refine (doc_Root _ w3).mono ?_
          rintro e w4 ⟨rfl, B4⟩
          refine ⟨_, rfl, rfl, B4, ?_⟩
          simp only [List.set_cons_zero, List.set_cons_succ]
          refine ⟨rfl, .agg #[.int .u32 0, .int .i64 0, .int .i64 0, .slice none 0 0], fun W hW => by simp only [Nd.cells, nodeCells]; go_simp; first | done | rfl, ?_⟩
          try simp only [put_list, List.set_cons_zero, List.set_cons_succ]
          refine one_valR rfl (v := .slice (some ⟨w4.heap.size, 0, none⟩) 1 1) (w' := w4.alloc (.cells #[.int .u32 0, .int .i64 0, .int .i64 0, .slice none 0 0] 77)) (by go_simp; first | done | rfl) ⟨(Below.refl _ _).alloc (Nat.le_refl _) _, ?_⟩
          try simp only [put_list, List.set_cons_zero, List.set_cons_succ]
          refine ⟨rfl, .agg (p.cells (.slice (some ⟨g, 0, none⟩) p.B.length c) ++ #[.pointer (some ⟨tb, 0, none⟩), .int .i64 most, .int .i64 D, .slice (some ⟨w4.heap.size, 0, none⟩) 1 1, .int .i64 0, .int .i64 0, .int .i64 0, .bool false, .bool false, .int .u32 0, .int .i64 0, .int .i64 0, .slice none 0 0]), fun W hW => pure_buildR (by simp only [List.map_toArray, List.map_cons, List.map_nil]; exact build_rq p hp _ _ _ _ _ _ _ W), ?_⟩
          try simp only [put_list, List.set_cons_zero, List.set_cons_succ]
          refine one_valR rfl (v := .pointer (some ⟨(w4.alloc (.cells #[.int .u32 0, .int .i64 0, .int .i64 0, .slice none 0 0] 77)).heap.size, 0, none⟩)) (w' := (w4.alloc (.cells #[.int .u32 0, .int .i64 0, .int .i64 0, .slice none 0 0] 77)).alloc (.cells (p.cells (.slice (some ⟨g, 0, none⟩) p.B.length c) ++ #[.pointer (some ⟨tb, 0, none⟩), .int .i64 most, .int .i64 D, .slice (some ⟨w4.heap.size, 0, none⟩) 1 1, .int .i64 0, .int .i64 0, .int .i64 0, .bool false, .bool false, .int .u32 0, .int .i64 0, .int .i64 0, .slice none 0 0]) 80)) (by go_simp; first | done | rfl) ⟨(Below.refl _ _).alloc (Nat.le_refl _) _, ?_⟩
          try simp only [put_list, List.set_cons_zero, List.set_cons_succ]
          have BB : Below w4.heap.size w4 ((w4.alloc (.cells #[.int .u32 0, .int .i64 0, .int .i64 0, .slice none 0 0] 77)).alloc (.cells (p.cells (.slice (some ⟨g, 0, none⟩) p.B.length c) ++ #[.pointer (some ⟨tb, 0, none⟩), .int .i64 most, .int .i64 D, .slice (some ⟨w4.heap.size, 0, none⟩) 1 1, .int .i64 0, .int .i64 0, .int .i64 0, .bool false, .bool false, .int .u32 0, .int .i64 0, .int .i64 0, .slice none 0 0]) 80)) := ((Below.refl _ w4).alloc (Nat.le_refl _) _).alloc (by simp) _
          have xw : BoxT ((w4.alloc (.cells #[.int .u32 0, .int .i64 0, .int .i64 0, .slice none 0 0] 77)).alloc (.cells (p.cells (.slice (some ⟨g, 0, none⟩) p.B.length c) ++ #[.pointer (some ⟨tb, 0, none⟩), .int .i64 most, .int .i64 D, .slice (some ⟨w4.heap.size, 0, none⟩) 1 1, .int .i64 0, .int .i64 0, .int .i64 0, .bool false, .bool false, .int .u32 0, .int .i64 0, .int .i64 0, .slice none 0 0]) 80)) w4.heap.size #[.int .u32 0, .int .i64 0, .int .i64 0, .slice none 0 0] 77 := (BoxT.new _ _ _).kept ((Below.refl _ _).alloc (Nat.le_refl _) _)
          have xm := Box.new (w4.alloc (.cells #[.int .u32 0, .int .i64 0, .int .i64 0, .slice none 0 0] 77)) (p.cells (.slice (some ⟨g, 0, none⟩) p.B.length c) ++ #[.pointer (some ⟨tb, 0, none⟩), .int .i64 most, .int .i64 D, .slice (some ⟨w4.heap.size, 0, none⟩) 1 1, .int .i64 0, .int .i64 0, .int .i64 0, .bool false, .bool false, .int .u32 0, .int .i64 0, .int .i64 0, .slice none 0 0]) 80
          have hsz : (w4.alloc (.cells #[.int .u32 0, .int .i64 0, .int .i64 0, .slice none 0 0] 77)).heap.size = w4.heap.size + 1 := by simp
          have hsz2 : ((w4.alloc (.cells #[.int .u32 0, .int .i64 0, .int .i64 0, .slice none 0 0] 77)).alloc (.cells (p.cells (.slice (some ⟨g, 0, none⟩) p.B.length c) ++ #[.pointer (some ⟨tb, 0, none⟩), .int .i64 most, .int .i64 D, .slice (some ⟨w4.heap.size, 0, none⟩) 1 1, .int .i64 0, .int .i64 0, .int .i64 0, .bool false, .bool false, .int .u32 0, .int .i64 0, .int .i64 0, .slice none 0 0]) 80)).heap.size = w4.heap.size + 2 := by simp
          rw [hsz] at xm ⊢
          obtain ⟨W, hW⟩ : ∃ W, W = ((w4.alloc (.cells #[.int .u32 0, .int .i64 0, .int .i64 0, .slice none 0 0] 77)).alloc (.cells (p.cells (.slice (some ⟨g, 0, none⟩) p.B.length c) ++ #[.pointer (some ⟨tb, 0, none⟩), .int .i64 most, .int .i64 D, .slice (some ⟨w4.heap.size, 0, none⟩) 1 1, .int .i64 0, .int .i64 0, .int .i64 0, .bool false, .bool false, .int .u32 0, .int .i64 0, .int .i64 0, .slice none 0 0]) 80)) := ⟨_, rfl⟩
          rw [← hW] at BB xw xm hsz2 ⊢
          clear hW hsz
          have hs3 : w2.heap.size ≤ w4.heap.size := Nat.le_trans B3.size B4.size
          have hT6 := (hT3.kept B4).kept BB
          have B60 := B30.trans ((B4.trans (BB.mono B4.size)).mono B30.size)
          have hR : Rq W p D most (Bq.start D most) [(ent0, .slice none 0 0)] (.slice none 0 0) ⟨w4.heap.size + 1, w4.heap.size, 1, tb, g, c⟩ (fun _ => False) := by
            rw [start_eq hcap]
            exact ⟨xm, hT6, ⟨rfl, .inr ⟨w4.heap.size, 1, _, rfl, Nat.zero_le _, xw, Nat.le_refl _, by unfold maxLen; omega, rfl, rfl⟩⟩, rfl, fun x hx => by rw [List.mem_singleton.1 hx]; exact BitsAt.nil, BitsAt.nil, ⟨(by omega : w4.heap.size + 1 ≠ w4.heap.size), ⟨(by omega : w4.heap.size + 1 ≠ tb), (by omega : w4.heap.size + 1 ≠ g)⟩, ⟨(by omega : w4.heap.size ≠ tb), (by omega : w4.heap.size ≠ g)⟩⟩, fun k hk => hk.elim, by show g < _; omega⟩
          have hM : RqM W p D most (Bq.start D most) (w4.heap.size + 1) (fun k => (⟨w4.heap.size + 1, w4.heap.size, 1, tb, g, c⟩ : RA).has k) := ⟨Bq.Ok.start hcap, ⟨_, _, _, _, rfl, hR, fun k hk => hk.elim id fun h => h.elim⟩, fun k hk => hR.hasLt hk⟩
          have hge : ∀ k, (⟨w4.heap.size + 1, w4.heap.size, 1, tb, g, c⟩ : RA).has k → w.heap.size ≤ k := fun k hk => by
            have hk : k = w4.heap.size + 1 ∨ k = w4.heap.size ∨ k = tb ∨ k = g := hk
            have h8 := B30.size
            have h9 := B4.size
            omega
          have FIN := Lib.hid (And.intro hM (And.intro hge B60))
          clear hM hge B60 hR hT6 BB xw xm hsz2 hT3 B4 B30 B3
          refine one_valR rfl (v := .pointer (some ⟨w4.heap.size + 1, 0, none⟩)) (w' := W) (by go_simp) ⟨Below.refl _ _, ?_⟩
          try simp only [put_list, List.set_cons_zero, List.set_cons_succ]
          refine one_valR rfl (v := .int .i64 0) (w' := W) (by go_simp) ⟨Below.refl _ _, ?_⟩
          try simp only [put_list, List.set_cons_zero, List.set_cons_succ]
          go_wp2
          go_ret2
          refine ⟨?_, FIN.out.2.2⟩
          rw [HE.out, if_pos rfl, ← HM.out]
          exact ⟨_, _, rfl, FIN.out.1, FIN.out.2.1⟩
        · have hE : newE p cap D = 6 := by unfold newE; rw [if_neg (by simp [h]), if_neg hb, if_neg hb2, if_neg hk]
          have HE := Lib.hid hE
          rw [decide_eq_false hk] at hfits
          clear hE hk hb hb2
          go_wp2_with fail
          refine hfits.mono ?_
          rintro e w2 ⟨rfl, B2⟩
          clear hfits
          go_wp2
          go_ret2
          refine ⟨?_, bOn B10 B2⟩
          rw [HE.out, if_neg (by decide)]
          rfl
  · have hE : newE p cap D = probChk p := by unfold newE; rw [if_pos h]
    have hne : (probChk p != 0) = true := by simpa using h
    go_wp2_with ((with_reducible apply ld); rfl; (with_reducible assumption); (simp only [List.set_cons_zero, List.set_cons_succ]; rfl))
    refine (doc_New_bad p a ca hp h _ hw0).mono ?_
    rintro e w1 ⟨rfl, B1⟩
    have HE := Lib.hid (And.intro hE h)
    clear hE h fall
    go_wp2
    go_ret2
    refine ⟨?_, bOn B0 B1⟩
    rw [HE.out.1, if_neg HE.out.2]
    rfl
end Go.Proofs.YtnjmplapjnnjdaaGreat

/- The walks of the document's prefix metrics, dip and total. -/
namespace Go.Proofs.YtnjmplapjnnjdaaGreat
open Go.RowKit

set_option maxRecDepth 5000 in
theorem ref11_wrong (p : Pb) (a : Option Addr) (cap : Nat) (hp : p.Ok) (bs : List Nat) (ab : Option Addr) (cb : Nat) (hbl : (bs.length : Int) ≤ 9223372036854775807) (w : World) (hw : Bytes w a p.B) (hby : Bytes w ab bs) :
    Pure Tryz.prog 92 #[.agg (p.cells (.slice a p.B.length cap)), .slice ab bs.length cb] w (.int .i64 (p.pathChk bs)) := by
  obtain ⟨r, hr⟩ : ∃ r, r = p.pathChk bs := ⟨_, rfl⟩
  rw [← hr]
  have HR := Lib.hid hr
  clear hr
  go_enter Tryz.func92, Tryz.ntmps92
  go_upto_region 1 with (fail)
  refine name1 ?_
  intro w0 b2 B0
  obtain ⟨fk, fr, flev, fl, fwin, fcode, ftable, fall⟩ := b2.prob hp
  clear fk fr flev fl fwin fcode ftable
  by_cases hc : probChk p = 0
  · go_wp2_with ((with_reducible apply ld); rfl; (with_reducible assumption); (simp only [List.set_cons_zero, List.set_cons_succ]; rfl))
    refine (ref11_Check p a cap hp _ (hw.kept B0)).mono ?_
    rintro e w1 ⟨rfl, B1⟩
    rw [hc]
    clear fall
    have b21 := b2.kept B1
    have hb1 := (hby.kept B0).kept B1
    obtain ⟨fk, fr, flev, fl, fwin, fcode, ftable, fall⟩ := b21.prob hp
    clear fk fr flev fwin fcode ftable fall
    go_wp2_with fail
    go_loop [6] (fun i => ∃ k : Nat, k ≤ bs.length ∧ i = .int .i64 k ∧ Hid ((bs.take k).any (fun x => decide (1 < x)) = false)) (fun i => bs.length - (intOf i).toNat)
    case atStart => exact ⟨0, by omega, rfl, Lib.hid rfl⟩
    case round =>
      obtain ⟨k, hk, rfl, HK⟩ := hrel
      by_cases hkl : k < bs.length
      · obtain ⟨b, o, rfl, hcell⟩ := hb1.cell k hkl
        have hk2 : decide ((k : Int) < bs.length) = true := by simp; omega
        have hk3 : (k : Int) < bs.length := by omega
        have hx0 := hby.lt _ (List.getElem_mem hkl)
        by_cases hx : 1 < bs[k]
        · have hx2 : decide ((1 : Int) < (bs[k] : Nat)) = true := by simp; omega
          have hre : (10 : Int) = r := by
            rw [HR.out]
            unfold Pb.pathChk
            rw [if_neg (by simp [hc]), if_pos (any_get hkl (by simpa using hx))]
          clear HR
          subst hre
          go_wp2
          go_ret
          exact ⟨rfl, bOn B0 B1⟩
        · have hx2 : decide ((1 : Int) < (bs[k] : Nat)) = false := by simp; omega
          have HK2 := any_take_hid (p := fun x => decide (1 < x)) hkl HK.out (by simpa using hx)
          clear hx
          go_wp2
          go_round
          case measure => simp only [intOf]; omega
          case rel => exact ⟨k + 1, by omega, by go_num, HK2⟩
      · obtain rfl : k = bs.length := by omega
        have hany := HK.out
        rw [List.take_length] at hany
        by_cases hlen : (bs.length : Int) = p.L
        · have hl2 : ((bs.length : Int) != p.L) = false := by simp [hlen]
          have hre : (0 : Int) = r := by
            rw [HR.out]
            unfold Pb.pathChk
            rw [if_neg (by simp [hc]), if_neg (by simp [hany]), if_neg (by simp [hlen])]
          have HLEN := Lib.hid hlen
          clear HR hlen hany
          subst hre
          go_wp2
          go_ret
          exact ⟨rfl, bOn B0 B1⟩
        · have hl2 : ((bs.length : Int) != p.L) = true := by simp [hlen]
          have hre : (5 : Int) = r := by
            rw [HR.out]
            unfold Pb.pathChk
            rw [if_neg (by simp [hc]), if_neg (by simp [hany]), if_pos (by simp [hlen])]
          clear HR hlen hany
          subst hre
          go_wp2
          go_ret
          exact ⟨rfl, bOn B0 B1⟩
  · have hz : (probChk p != 0) = true := by simp [hc]
    have hre : probChk p = r := by
      rw [HR.out]
      unfold Pb.pathChk
      rw [if_pos hz]
    clear HR
    subst hre
    go_wp2_with ((with_reducible apply ld); rfl; (with_reducible assumption); (simp only [List.set_cons_zero, List.set_cons_succ]; rfl))
    refine (ref11_Check p a cap hp _ (hw.kept B0)).mono ?_
    rintro e w1 ⟨rfl, B1⟩
    go_wp2
    go_ret
    exact ⟨rfl, bOn B0 B1⟩
theorem Pb.psums_take {p : Pb} (bs : List Nat) {k : Nat} (h : k < p.N.toNat) : p.psums ((p.pathL bs).take (k + 1)) = p.psums ((p.pathL bs).take k) ++ [p.psum ((p.pathL bs).take (k + 1))] := by
  rw [Pb.pathL_take h, p.psums_snoc]
theorem rp_room {k n : Nat} (h : k < n) (h2 : n ≤ 1055) : k + 1 + 1 ≤ 9223372036854775807 / 65536 ∧ (k + 1 + 1) * 8 ≤ 140737488355328 := by omega
theorem rp_one {w : World} {t : TypeId} {x : Int} : (w.alloc (.cells #[.int .i64 x] 3)).ownsRow w.heap.size 3 1 (.slice (some ⟨w.heap.size, 0, none⟩) 1 1) 1 [.int .i64 x] :=
  ⟨rfl, .inr ⟨w.heap.size, 1, #[.int .i64 x], rfl, Nat.le_refl _, heap_alloc_new w _, Nat.le_refl _, by unfold maxLen; omega, rfl, rfl⟩⟩
theorem i64_one {v : Value} {x : Int} (h : v ∈ [Value.int .i64 x]) : v.oneCell' = true := by obtain rfl := List.mem_singleton.1 h; rfl
set_option maxRecDepth 5000 in
set_option maxHeartbeats 2000000 in
theorem ref11_Prefixes_bad (p : Pb) (a : Option Addr) (cap : Nat) (hp : p.Ok) (bs : List Nat) (ab : Option Addr) (cb : Nat) (hbl : (bs.length : Int) ≤ 9223372036854775807) (hc : p.pathChk bs ≠ 0) (w : World) (hw : Bytes w a p.B) (hby : Bytes w ab bs) :
    Pure Tryz.prog 84 #[.agg (p.cells (.slice a p.B.length cap)), .slice ab bs.length cb] w (.tuple #[.slice none 0 0, .int .i64 (p.pathChk bs)]) := by
  have hz : (p.pathChk bs != 0) = true := by simpa using hc
  go_enter Tryz.func84, Tryz.ntmps84
  go_upto_region 1 with (fail)
  refine name1 ?_
  intro w0 b2 B0
  obtain ⟨fk, fr, flev, fl, fwin, fcode, ftable, fall⟩ := b2.prob hp
  clear fk fr flev fl fwin fcode ftable
  go_wp2_with ((with_reducible apply ld); rfl; (with_reducible assumption); (simp only [List.set_cons_zero, List.set_cons_succ]; rfl))
  refine (ref11_wrong p a cap hp bs ab cb hbl _ (hw.kept B0) (hby.kept B0)).mono ?_
  rintro e w1 ⟨rfl, B1⟩
  clear fall
  go_wp2
  go_ret2
  exact ⟨rfl, bOn B0 B1⟩
set_option maxRecDepth 5000 in
set_option maxHeartbeats 2000000 in
theorem ref11_Prefixes (p : Pb) (a : Option Addr) (cap : Nat) (hp : p.Ok) (bs : List Nat) (ab : Option Addr) (cb : Nat) (hbl : (bs.length : Int) ≤ 9223372036854775807) (hc : p.pathChk bs = 0) (w : World) (hw : Bytes w a p.B) (hby : Bytes w ab bs) :
    Calls Tryz.prog 84 #[.agg (p.cells (.slice a p.B.length cap)), .slice ab bs.length cb] w fun e w' => (∃ v, e = .returned (.tuple #[v, .int .i64 0]) ∧ Row64 w' w.heap.size v (p.pm bs)) ∧ Below w.heap.size w w' := by
  obtain ⟨hch, hpath⟩ := Pb.pathChk_ok hc
  obtain ⟨⟨k1, k2⟩, l1, l2, cr, hwin, _⟩ := probChk_ok hch
  obtain ⟨hN3, hN5⟩ := Pb.N_le hch
  have HR := Lib.hid cr
  have HLEN := Lib.hid hpath.len
  clear cr hwin
  go_enter Tryz.func84, Tryz.ntmps84
  go_upto_region 1 with (fail)
  refine name1 ?_
  intro w0 b2 B0
  obtain ⟨fk, fr, flev, fl, fwin, fcode, ftable, fall⟩ := b2.prob hp
  clear fk fr flev fl fwin fcode ftable
  go_wp2_with ((with_reducible apply ld); rfl; (with_reducible assumption); (simp only [List.set_cons_zero, List.set_cons_succ]; rfl))
  refine (ref11_wrong p a cap hp bs ab cb hbl _ (hw.kept B0) (hby.kept B0)).mono ?_
  rintro e w1 ⟨rfl, B1⟩
  rw [hc]
  clear fall
  have B10 := bOn B0 B1
  have b21 := b2.kept B1
  have hw1 := hw.kept B10
  have hby1 := hby.kept B10
  have hR1 : (w1.alloc (.cells #[.int .i64 0] 3)).ownsRow w1.heap.size 3 1 (.slice (some ⟨w1.heap.size, 0, none⟩) 1 1) 1 ((p.psums ((p.pathL bs).take 0)).map (Value.int .i64)) := rp_one (t := 0)
  have hBa := (Below.refl w1.heap.size w1).alloc (Nat.le_refl _) (.cells #[.int .i64 0] 3)
  obtain ⟨M, hM⟩ : ∃ M : Nat, p.N = (M : Int) := ⟨p.N.toNat, by omega⟩
  have hMn : p.N.toNat = M := by omega
  have hM5 : M ≤ 1055 := by omega
  have HNM := Lib.hid hM
  have HNN := Lib.hid hMn
  have hB4 := p.psum_bd hch
  clear hM hMn
  go_wp2_with fail
  go_loopw [7, 8, 9, 10] (fun v st m i wr => ∃ k : Nat, k ≤ M ∧ i = .int .i64 (k : Int) ∧ st = .int .u32 (p.st bs k) ∧ m = .int .i64 (p.psum ((p.pathL bs).take k)) ∧ wr.ownsRow w1.heap.size 3 1 v (k + 1) ((p.psums ((p.pathL bs).take k)).map (Value.int .i64)) ∧ Below w1.heap.size w1 wr) (fun _ _ _ i _ => M - (intOf i).toNat)
  case atStart => exact ⟨0, Nat.zero_le _, rfl, rfl, rfl, hR1, hBa⟩
  case round =>
    clear hR1 hBa
    obtain ⟨k, hk, rfl, rfl, rfl, hO, hB⟩ := hrel
    have b2r := b21.kept hB
    have hwr := hw1.kept hB
    have hbr := hby1.kept hB
    obtain ⟨fk, fr, flev, fl, fwin, fcode, ftable, fall⟩ := b2r.prob hp
    clear fk fr flev fl fwin fcode ftable
    go_wp2_with ((with_reducible apply ld); rfl; (with_reducible assumption); (simp only [List.set_cons_zero, List.set_cons_succ]; rfl))
    refine (ref11_N p _ hp l1 l2 k1 k2 _).mono ?_
    rintro e w2 ⟨rfl, B2⟩
    clear fall
    rw [HNM.out]
    have hB2 := hB.trans (B2.mono hB.size)
    have hO2 := owns_block hO (w' := w2) (fun k hk => B2.block k (World.ownsRow.lt hO k hk).2)
    have b22 := b2r.kept B2
    have hw2 := hwr.kept B2
    have hb2 := hbr.kept B2
    clear hB hO b2r hwr hbr
    obtain ⟨fk, fr, flev, fl, fwin, fcode, ftable, fall⟩ := b22.prob hp
    clear fk fr flev fwin ftable
    by_cases hkM : k < M
    · obtain ⟨j1, j2⟩ := ap_lt hkM
      have hkN : k < p.N.toNat := by rw [HNN.out]; exact hkM
      have hb1 : (k : Int) + 1 ≤ 9223372036854775807 := by omega
      obtain ⟨s0, s1⟩ := p.st_in bs k
      have hbt := Pb.bit_lt hpath k
      have hbt2 : ((p.bit bs k : Nat) : Int) < 2 := by omega
      have hbt0 : (0 : Int) ≤ ((p.bit bs k : Nat) : Int) := by omega
      by_cases hL : (k : Int) < p.L
      · have hL2 : decide ((k : Int) < p.L) = true := decide_eq_true hL
        have hkb : k < bs.length := by have := HLEN.out; omega
        have hkb2 : (k : Int) < (bs.length : Int) := by omega
        obtain ⟨bb, oo, rfl, cb⟩ := hb2.cell k hkb
        have hbv : bs[k] = p.bit bs k := by
          unfold Pb.bit
          rw [if_pos hL, List.getD_eq_getElem?_getD, List.getElem?_eq_getElem hkb]
          rfl
        rw [hbv] at cb
        clear hbv
        go_wp2_with ((with_reducible apply ld); rfl; (with_reducible assumption); (simp only [List.set_cons_zero, List.set_cons_succ]; rfl))
        refine (ref07_Next p.C hp.c k1 k2 HR.out (p.st bs k) (p.bit bs k) s0 s1 hbt0 hbt2 _).mono ?_
        rintro e w3 ⟨rfl, B3⟩
        obtain ⟨rg, hrg⟩ : ∃ rg : Nat, rg = (2 * p.st bs k + (p.bit bs k : Int)).toNat := ⟨_, rfl⟩
        obtain ⟨sn, hsn⟩ : ∃ sn, sn = (2 * p.st bs k + (p.bit bs k : Int)) % 2 ^ (p.C.K.toNat - 1) := ⟨_, rfl⟩
        rw [← hrg, ← hsn]
        have HRG : Hid (p.reg bs k = rg) := hrg.symm
        have HSN : Hid (p.st bs (k + 1) = sn) := hsn.symm
        clear hrg hsn fcode fl fall s0 s1
        have hsz : (p.C.yv rg).size = 3 := rfl
        have hfl := p.C.ys_flat rg p.C.R.toNat
        have hbz' := Box.new w3 #[.int .u8 0, .int .u8 0, .int .u8 0] 102
        go_upto_region 14 with ((with_reducible apply stO); rfl; rfl; exact hbz'; rfl; exact hsz; exact hfl; intro w4 b13 B4 ho4 hs4)
        have B43 : Below w3.heap.size w3 w4 := ((Below.refl _ w3).alloc (Nat.le_refl _) _).trans B4
        have B42 := bOn B3 B43
        have hB4' := hB2.trans (B42.mono hB2.size)
        have hO4 := owns_block hO2 (w' := w4) (fun k hk => B42.block k (World.ownsRow.lt hO2 k hk).2)
        have b24 := b22.kept B42
        have hw4 := hw2.kept B42
        clear hbz' ho4 hs4 hO2 hB2 b22 hw2 hb2
        obtain ⟨fk, fr, flev, fl, fwin, fcode, ftable, fall⟩ := b24.prob hp
        clear fk fr flev fl fwin fcode ftable
        have gY := b13.load (off := 0) (n := 3) (cs' := p.C.yv rg) (by rw [hsz]; omega) (Array.extract_eq_self_of_le (by rw [hsz]; omega))
        go_wp2_with ((with_reducible apply ld); rfl; (with_reducible assumption); (simp only [List.set_cons_zero, List.set_cons_succ]; rfl))
        refine (ref11_Branch p a cap hp hch k (by rw [HNM.out]; exact j2) rg _ hw4).mono ?_
        rintro e w5 ⟨rfl, B5⟩
        have hB5 := hB4'.trans (B5.mono hB4'.size)
        have hO5 := owns_block hO4 (w' := w5) (fun k hk => B5.block k (World.ownsRow.lt hO4 k hk).2)
        have hps : p.psum ((p.pathL bs).take (k + 1)) = p.psum ((p.pathL bs).take k) + p.br k rg := by rw [Pb.pathL_take hkN, p.psum_snoc, ← HRG.out]
        have hbd := hB4 ((p.pathL bs).take (k + 1))
        have hbl' : ((p.pathL bs).take (k + 1)).length ≤ 1055 := by rw [List.length_take, p.pathL_len, HNN.out]; omega
        have hwr : wrap64 (p.psum ((p.pathL bs).take k) + p.br k rg) = p.psum ((p.pathL bs).take (k + 1)) := by rw [← hps]; unfold wrap64; omega
        obtain ⟨mm, hmm⟩ : ∃ mm, mm = p.psum ((p.pathL bs).take (k + 1)) := ⟨_, rfl⟩
        rw [← hmm] at hwr hbd hps
        have HMM := Lib.hid hmm
        have HPS := Lib.hid hps
        have hsz5 := hB5.size
        clear fall gY hps hmm
        go_wp2_with (at_builtin; refine ap (us := [.int .i64 mm]) (m := 1) hO5 (by decide) rfl rfl rfl (fun u hu => i64_one hu) (rp_room hkM hM5).1 (rp_room hkM hM5).2 hsz5 ?_; intro v9 w9 hown9 hgr9 _)
        have hB9 := hB5.trans (own_below hO5 hgr9 hsz5)
        go_roundw
        case measure => first | exact ap_meas' hkM | exact ap_meas hkM hb1
        case rel => exact ⟨k + 1, hkM, (by first | rfl | exact congrArg (Value.int .i64) (ap_succ hb1)), by rw [HSN.out], by rw [← HMM.out], by rw [Pb.psums_take bs hkN, ← HMM.out, List.map_append]; exact hown9, hB9⟩
      · have hL2 : decide ((k : Int) < p.L) = false := decide_eq_false hL
        have hbz : (0 : Nat) = p.bit bs k := by unfold Pb.bit; rw [if_neg hL]
        have HBZ := Lib.hid hbz
        clear hbz
        go_wp2_with ((with_reducible apply ld); rfl; (with_reducible assumption); (simp only [List.set_cons_zero, List.set_cons_succ]; rfl))
        refine (show Calls _ _ #[_, _, .int .u8 ((p.bit bs k : Nat) : Int)] _ _ from ?_ ) |> (fun h => (by rw [← HBZ.out] at h; exact h))
        refine (ref07_Next p.C hp.c k1 k2 HR.out (p.st bs k) (p.bit bs k) s0 s1 hbt0 hbt2 _).mono ?_
        rintro e w3 ⟨rfl, B3⟩
        obtain ⟨rg, hrg⟩ : ∃ rg : Nat, rg = (2 * p.st bs k + (p.bit bs k : Int)).toNat := ⟨_, rfl⟩
        obtain ⟨sn, hsn⟩ : ∃ sn, sn = (2 * p.st bs k + (p.bit bs k : Int)) % 2 ^ (p.C.K.toNat - 1) := ⟨_, rfl⟩
        rw [← hrg, ← hsn]
        have HRG : Hid (p.reg bs k = rg) := hrg.symm
        have HSN : Hid (p.st bs (k + 1) = sn) := hsn.symm
        clear hrg hsn fcode fl fall s0 s1
        have hsz : (p.C.yv rg).size = 3 := rfl
        have hfl := p.C.ys_flat rg p.C.R.toNat
        have hbz' := Box.new w3 #[.int .u8 0, .int .u8 0, .int .u8 0] 102
        go_upto_region 14 with ((with_reducible apply stO); rfl; rfl; exact hbz'; rfl; exact hsz; exact hfl; intro w4 b13 B4 ho4 hs4)
        have B43 : Below w3.heap.size w3 w4 := ((Below.refl _ w3).alloc (Nat.le_refl _) _).trans B4
        have B42 := bOn B3 B43
        have hB4' := hB2.trans (B42.mono hB2.size)
        have hO4 := owns_block hO2 (w' := w4) (fun k hk => B42.block k (World.ownsRow.lt hO2 k hk).2)
        have b24 := b22.kept B42
        have hw4 := hw2.kept B42
        clear hbz' ho4 hs4 hO2 hB2 b22 hw2 hb2
        obtain ⟨fk, fr, flev, fl, fwin, fcode, ftable, fall⟩ := b24.prob hp
        clear fk fr flev fl fwin fcode ftable
        have gY := b13.load (off := 0) (n := 3) (cs' := p.C.yv rg) (by rw [hsz]; omega) (Array.extract_eq_self_of_le (by rw [hsz]; omega))
        go_wp2_with ((with_reducible apply ld); rfl; (with_reducible assumption); (simp only [List.set_cons_zero, List.set_cons_succ]; rfl))
        refine (ref11_Branch p a cap hp hch k (by rw [HNM.out]; exact j2) rg _ hw4).mono ?_
        rintro e w5 ⟨rfl, B5⟩
        have hB5 := hB4'.trans (B5.mono hB4'.size)
        have hO5 := owns_block hO4 (w' := w5) (fun k hk => B5.block k (World.ownsRow.lt hO4 k hk).2)
        have hps : p.psum ((p.pathL bs).take (k + 1)) = p.psum ((p.pathL bs).take k) + p.br k rg := by rw [Pb.pathL_take hkN, p.psum_snoc, ← HRG.out]
        have hbd := hB4 ((p.pathL bs).take (k + 1))
        have hbl' : ((p.pathL bs).take (k + 1)).length ≤ 1055 := by rw [List.length_take, p.pathL_len, HNN.out]; omega
        have hwr : wrap64 (p.psum ((p.pathL bs).take k) + p.br k rg) = p.psum ((p.pathL bs).take (k + 1)) := by rw [← hps]; unfold wrap64; omega
        obtain ⟨mm, hmm⟩ : ∃ mm, mm = p.psum ((p.pathL bs).take (k + 1)) := ⟨_, rfl⟩
        rw [← hmm] at hwr hbd hps
        have HMM := Lib.hid hmm
        have HPS := Lib.hid hps
        have hsz5 := hB5.size
        clear fall gY hps hmm
        go_wp2_with (at_builtin; refine ap (us := [.int .i64 mm]) (m := 1) hO5 (by decide) rfl rfl rfl (fun u hu => i64_one hu) (rp_room hkM hM5).1 (rp_room hkM hM5).2 hsz5 ?_; intro v9 w9 hown9 hgr9 _)
        have hB9 := hB5.trans (own_below hO5 hgr9 hsz5)
        go_roundw
        case measure => first | exact ap_meas' hkM | exact ap_meas hkM hb1
        case rel => exact ⟨k + 1, hkM, (by first | rfl | exact congrArg (Value.int .i64) (ap_succ hb1)), by rw [HSN.out], by rw [← HMM.out], by rw [Pb.psums_take bs hkN, ← HMM.out, List.map_append]; exact hown9, hB9⟩
    · obtain rfl := ap_end hkM hk
      have hdd : decide ((k : Int) < (k : Int)) = false := by simp
      clear fall
      go_wp2
      go_ret2
      refine ⟨⟨_, rfl, ?_⟩, B10.trans (hB2.mono B10.size)⟩
      have e1 : p.pm bs = p.psums ((p.pathL bs).take k) := by
        unfold Pb.pm
        rw [List.take_of_length_le (by rw [p.pathL_len, HNN.out]; exact Nat.le_refl _)]
      rw [e1]
      have e2 : (p.psums ((p.pathL bs).take k)).length = k + 1 := by
        rw [p.psums_len, List.length_take, p.pathL_len, HNN.out, Nat.min_self]
      refine Row64.mono (B := w1.heap.size) ?_ B10.size
      unfold Row64
      rw [e2]
      exact hO2
end Go.Proofs.YtnjmplapjnnjdaaGreat

/- The walk of the document's dip and total. -/
namespace Go.Proofs.YtnjmplapjnnjdaaGreat
open Go.RowKit

theorem dipOf_take {l : List Int} {k : Nat} {x : Int} (h : l[k]? = some x) : dipOf (l.take (k + 1)) = min (dipOf (l.take k)) x := by
  rw [List.take_add_one, h]
  exact dipOf_snoc _ _
set_option maxRecDepth 5000 in
set_option maxHeartbeats 2000000 in
theorem ref11_Both (p : Pb) (a : Option Addr) (cap : Nat) (hp : p.Ok) (bs : List Nat) (ab : Option Addr) (cb : Nat) (hbl : (bs.length : Int) ≤ 9223372036854775807) (w : World) (hw : Bytes w a p.B) (hby : Bytes w ab bs) :
    Pure Tryz.prog 71 #[.agg (p.cells (.slice a p.B.length cap)), .slice ab bs.length cb] w (.tuple #[.int .i64 (p.dip bs), .int .i64 (p.tot bs), .int .i64 (p.pathChk bs)]) := by
  unfold Pb.dip Pb.tot
  by_cases hc : p.pathChk bs = 0
  · rw [if_neg (by simp [hc]), if_neg (by simp [hc]), hc]
    obtain ⟨hch, hpath⟩ := Pb.pathChk_ok hc
    obtain ⟨hN3, hN5⟩ := Pb.N_le hch
    go_enter Tryz.func71, Tryz.ntmps71
    go_upto_region 1 with (fail)
    refine name1 ?_
    intro w0 b2 B0
    obtain ⟨fk, fr, flev, fl, fwin, fcode, ftable, fall⟩ := b2.prob hp
    clear fk fr flev fl fwin fcode ftable
    go_wp2_with ((with_reducible apply ld); rfl; (with_reducible assumption); (simp only [List.set_cons_zero, List.set_cons_succ]; rfl))
    refine (ref11_Prefixes p a cap hp bs ab cb hbl hc _ (hw.kept B0) (hby.kept B0)).mono ?_
    rintro e w1 ⟨⟨v, rfl, R⟩, B1⟩
    clear fall
    have hl := p.pm_len bs
    obtain ⟨g1, c1, rfl, hg1, I1⟩ := R.form (by omega)
    have hlast := p.pm_last bs
    obtain ⟨M, hM⟩ : ∃ M, M = p.N.toNat := ⟨_, rfl⟩
    rw [← hM] at hl hlast
    obtain ⟨la, hla⟩ : ∃ l, l = p.pm bs := ⟨_, rfl⟩
    rw [← hla] at hl hlast I1 ⊢
    rw [hl]
    have hM5 : M ≤ 1055 := by omega
    have HL := Lib.hid hl
    have HLAST := Lib.hid hlast
    have HLA := Lib.hid hla
    have B10 := bOn B0 B1
    clear R hla hM hl hlast hN3 hN5
    go_wp2_with fail
    go_loop [9, 10] (fun m i => ∃ k : Nat, k ≤ M + 1 ∧ i = .int .i64 (k : Int) ∧ m = .int .i64 (dipOf (la.take k))) (fun _ i => M + 1 - (intOf i).toNat)
    case atStart => exact ⟨0, Nat.zero_le _, rfl, rfl⟩
    case round =>
      obtain ⟨k, hk, rfl, rfl⟩ := hrel
      by_cases hkl : k < M + 1
      · have j1 : decide ((k : Int) < (M : Int) + 1) = true := by simp; omega
        have j2 : (k : Int) < (M : Int) + 1 := by omega
        have hb1 : (k : Int) + 1 ≤ 9223372036854775807 := by omega
        obtain ⟨x, hx⟩ : ∃ x, la[k]? = some x := ⟨_, List.getElem?_eq_getElem (by rw [HL.out]; exact hkl)⟩
        have cx := I1.2 k x hx
        have hd := dipOf_take hx
        obtain ⟨D, hD⟩ : ∃ D, D = dipOf (la.take k) := ⟨_, rfl⟩
        rw [← hD] at hd ⊢
        by_cases hlt : x < D
        · have hd2 : x = dipOf (la.take (k + 1)) := by rw [hd]; omega
          have HD := Lib.hid hd2
          have hdd : decide (x < D) = true := decide_eq_true hlt
          clear hd hd2 hx hD
          go_wp2
          go_round
          case measure => first | exact ap_meas' hkl | exact ap_meas hkl hb1
          case rel => exact ⟨k + 1, hkl, (by first | rfl | exact congrArg (Value.int .i64) (ap_succ hb1)), by rw [← HD.out]⟩
        · have hd2 : D = dipOf (la.take (k + 1)) := by rw [hd]; omega
          have HD := Lib.hid hd2
          have hdd : decide (x < D) = false := decide_eq_false hlt
          clear hd hd2 hx hD
          go_wp2
          go_round
          case measure => first | exact ap_meas' hkl | exact ap_meas hkl hb1
          case rel => exact ⟨k + 1, hkl, (by first | rfl | exact congrArg (Value.int .i64) (ap_succ hb1)), by rw [← HD.out]⟩
      · obtain rfl := ap_end hkl hk
        have j1 : decide ((((M + 1 : Nat)) : Int) < (M : Int) + 1) = false := by simp
        have cl := I1.2 M _ HLAST.out
        have htk : la.take (M + 1) = la := List.take_of_length_le (by rw [HL.out]; exact Nat.le_refl _)
        rw [htk]
        have q1 := KeptW.cell cl
        clear htk cl
        go_upto_region 10 with (fail)
        refine wp_region_kept (by kernel_rfl) (by kernel_rfl) ?_
        repeat first
          | go_big_quiet_step (fail)
        refine wpQuiet_nil ?_
        intro w3 B3
        go_wp2
        refine bodyPost_ret (results_tmp3 rfl rfl rfl rfl) rfl ?_
        exact ⟨by rw [← HLA.out]; rfl, bOn B10 B3⟩
  · rw [if_pos (by simpa using hc), if_pos (by simpa using hc)]
    have hz : (p.pathChk bs != 0) = true := by simpa using hc
    go_enter Tryz.func71, Tryz.ntmps71
    go_upto_region 1 with (fail)
    refine name1 ?_
    intro w0 b2 B0
    obtain ⟨fk, fr, flev, fl, fwin, fcode, ftable, fall⟩ := b2.prob hp
    clear fk fr flev fl fwin fcode ftable
    go_wp2_with ((with_reducible apply ld); rfl; (with_reducible assumption); (simp only [List.set_cons_zero, List.set_cons_succ]; rfl))
    refine (ref11_Prefixes_bad p a cap hp bs ab cb hbl hc _ (hw.kept B0) (hby.kept B0)).mono ?_
    rintro e w1 ⟨rfl, B1⟩
    clear fall
    go_wp2
    refine bodyPost_ret (results_tmp3 rfl rfl rfl rfl) rfl ?_
    exact ⟨rfl, bOn B0 B1⟩
end Go.Proofs.YtnjmplapjnnjdaaGreat
