/- The walk of the copy of a problem. -/
import Derived.Test.YtiiljecocajdpaaLent
namespace Go.Proofs.Ytiiljecocajdpaa
open Go.RowKit

theorem Box.setCell {w : World} {b i : Nat} {cs : Array Value} (h : Box w b cs) (v : Value) : Box (w.setCell ⟨b, i, none⟩ v) b (cs.setIfInBounds i v) := by
  obtain ⟨t, h⟩ := h
  exact ⟨t, setCell_block w b i v cs t _ h⟩
theorem results_cellAgg {P : Program} {fn : Func} {t ty n b : Nat} {tmps : Array Value} {w : World} {v : Value} [T : AggTy P ty n] (h : fn.results = #[.cell t ty]) (hp : tmps.getD t undef = .pointer (some ⟨b, 0, none⟩)) (hl : loadAgg w b 0 n = .ok v w) :
    (results fn tmps).run P w = .ok v w := by
  obtain ⟨d, h1, h2, h3⟩ := T.out
  have := run_loadVar_agg (P := P) (w := w) (b := b) (off := 0) h1 h2 h3 (by rw [hl]; rfl)
  simp only [Array.getD_eq_getD_getElem?] at hp
  simp [results, h, hp, asAddr, Sem.run_bind, this, hl]
theorem Box.setOther {w : World} {b : Nat} {cs : Array Value} (h : Box w b cs) {p : Addr} (hp : p.block ≠ b) (v : Value) : Box (w.setCell p v) b cs := by
  obtain ⟨t, h⟩ := h
  exact ⟨t, (Below.heap_setCell _ _ _ _ (Ne.symm hp)).trans h⟩
theorem Pb.Ok.set39 {p : Pb} (hp : p.Ok) (v v' : Value) : (p.cells v).setIfInBounds 39 v' = p.cells v' := by
  unfold Pb.cells
  have h38 : (p.C.cells ++ p.T.cells).size = 38 := by simp [Cd.cells, hp.t.size]
  apply Array.ext'
  rw [Array.toList_setIfInBounds, Array.toList_append, Array.toList_append (xs := p.C.cells ++ p.T.cells), List.set_append_right _ _ (by rw [Array.length_toList, h38]; omega), Array.length_toList, h38]
  rfl
theorem Pb.Ok.flat {p : Pb} (hp : p.Ok) {v : Value} (hv : (∀ xs, v ≠ .agg xs) ∧ (∀ xs, v ≠ .tuple xs)) : Flat (p.cells v) := by
  intro u hu
  simp [Pb.cells, Cd.cells, Tb.cells, Tb.mc] at hu
  rcases hu with rfl | rfl | rfl | rfl | rfl | rfl | ⟨x, _, rfl⟩ | rfl | rfl
  all_goals first
    | exact hv
    | exact ⟨fun _ h => (by cases h), fun _ h => (by cases h)⟩

theorem Lend.keep {w w' : World} {B : Nat} {v : Value} {l : List Nat} (h : Lend w B v l) (hk : ∀ k, B ≤ k → w'.heap[k]? = w.heap[k]?) : Lend w' B v l := by
  obtain ⟨g, c, hv, hc, ho⟩ := h
  refine ⟨g, c, hv, hc, ho.1, ?_⟩
  rcases ho.2 with ⟨h, _⟩ | ⟨g', cap, cur, h1, h2, h3, h4⟩
  · cases h
  · exact .inr ⟨g', cap, cur, h1, h2, (hk g' h2).trans h3, h4⟩
theorem Lend.low {w : World} {B B' : Nat} {v : Value} {l : List Nat} (h : Lend w B v l) (hB : B' ≤ B) : Lend w B' v l := by
  obtain ⟨g, c, hv, hc, ho⟩ := h
  refine ⟨g, c, hv, hc, ho.1, ?_⟩
  rcases ho.2 with ⟨h, _⟩ | ⟨g', cap, cur, h1, h2, h4⟩
  · cases h
  · exact .inr ⟨g', cap, cur, h1, Nat.le_trans hB h2, h4⟩
theorem box_second {w w1 : World} {o : Obj} {Z cs : Array Value} {t : TypeId} {b : Nat} (_h : Box (w.alloc o) b cs) (B1 : Below ((w.alloc o).alloc (.cells Z t)).heap.size ((w.alloc o).alloc (.cells Z t)) w1) : Box w1 (w.heap.size + 1) Z := by
  have := (Box.new (w.alloc o) Z t).kept B1
  simpa using this
theorem law01_Problem (p : Pb) (a : Option Addr) (cap : Nat) (hp : p.Ok) (hn : p.B.length ≤ 140737488351232) (w : World) (hb : Bytes w a p.B) :
    Calls Try.prog 25 #[.agg (p.cells (.slice a p.B.length cap))] w fun e w' => ∃ v, e = .returned (.agg (p.cells v)) ∧ Lend w' w.heap.size v p.B ∧ Below w.heap.size w w' := by
  have hbx := Box.new w (p.cells (.slice a p.B.length cap)) 32
  obtain ⟨fk, fr, flev, fl, fwin, fcode, ftable, fall⟩ := hbx.prob hp
  have f39 := hp.cell39 (.slice a p.B.length cap)
  clear fk fr flev fl fwin fcode ftable fall
  go_enter Try.func25, Try.ntmps25
  go_wp2_with fail
  refine (law01_Lent a p.B cap (by omega) _ (hb.below (((Below.refl _ _).alloc (Nat.le_refl _) _).alloc (by simp) _) (Nat.le_refl _))).mono ?_
  rintro e w1 ⟨v, rfl, hv, B1⟩
  have hb1 := (hbx.below ((Below.refl _ _).alloc (Nat.le_refl _) _) hbx.lt).kept B1
  have hb2 := (box_second hbx B1)
  have hBL := (((Below.refl w.heap.size w).alloc (Nat.le_refl _) _).alloc (by simp) _).trans (B1.mono (by simp; omega))
  obtain ⟨g, c, rfl, hc, hg, hgB, hm⟩ := hv.open hp.b
  have HV := Lib.hid hv; clear hv
  have hb3 := hb1.setCell (i := 39) (.slice (some ⟨g, 0, none⟩) p.B.length c)
  rw [hp.set39] at hb3
  obtain ⟨_, _, _, _, _, _, _, gall⟩ := hb3.prob hp
  have c39 := hb1.cell 39
  rw [f39] at c39
  have z39 := hb1.frozen 39
  have hb4 := hb2.setOther (p := ⟨w.heap.size, 39, none⟩) (by simp) (.slice (some ⟨g, 0, none⟩) p.B.length c)
  have hs := hp.size (.slice (some ⟨g, 0, none⟩) p.B.length c)
  have hf := hp.flat (v := .slice (some ⟨g, 0, none⟩) p.B.length c) ⟨fun _ h => (by cases h), fun _ h => (by cases h)⟩
  go_wp2_with (first | ((with_reducible apply ld); rfl; (with_reducible assumption); (simp only [List.set_cons_zero, List.set_cons_succ]; rfl)) | ((with_reducible apply stO); rfl; rfl; (with_reducible assumption); rfl; (with_reducible assumption); (with_reducible assumption); intro w2 hb5 B2 ho2 hs2))
  refine bodyPost_ret (results_cellAgg rfl rfl (hb5.load (n := 40) (by rw [hs]; omega) (by rw [Array.extract_eq_self_of_le (by rw [hs]; omega)]))) rfl ?_
  refine ⟨_, rfl, (HV.out.keep fun k hk => ?_).low (by simp; omega), hBL.trans (((Below.refl w.heap.size w1).setCell (Nat.le_refl _) _).trans (B2.mono (by omega)))⟩
  simp at hk
  rw [ho2 k (by omega), Below.heap_setCell _ _ _ _ (by simp; omega)]
end Go.Proofs.Ytiiljecocajdpaa
