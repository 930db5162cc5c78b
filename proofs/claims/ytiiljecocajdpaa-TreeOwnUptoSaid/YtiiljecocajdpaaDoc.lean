/- The document's tree: how it lies in memory, its making, its looks. -/
import Derived.Test.YtiiljecocajdpaaFill
import Derived.Test.YtiiljecocajdpaaScoreB
import Derived.Laws.OwnMore
namespace Go.Proofs.Ytiiljecocajdpaa
open Go.RowKit

/-- The document's tree of a problem. -/
structure DocIn (w : World) (p : Pb) (tb g c : Nat) : Prop where
  tree : Box w tb (p.cells (.slice (some ⟨g, 0, none⟩) p.B.length c))
  win : Bytes w (some ⟨g, 0, none⟩) p.B
theorem DocIn.kept {w w' : World} {p : Pb} {tb g c : Nat} (h : DocIn w p tb g c) (hB : Below w.heap.size w w') : DocIn w' p tb g c := ⟨h.tree.kept hB, h.win.kept hB⟩
def DocPost (p : Pb) (w : World) (e : Ending) (w' : World) : Prop := (∃ tb g c, e = .returned (.tuple #[.pointer (some ⟨tb, 0, none⟩), .int .i64 0]) ∧ DocIn w' p tb g c ∧ (w.heap.size ≤ tb ∧ w.heap.size ≤ g)) ∧ Below w.heap.size w w'
theorem doc_New_bad (p : Pb) (a : Option Addr) (cap : Nat) (hp : p.Ok) (h : probChk p ≠ 0) (w : World) (hw : Bytes w a p.B) :
    Pure Try.prog 33 #[.agg (p.cells (.slice a p.B.length cap))] w (.tuple #[.pointer none, .int .i64 (probChk p)]) := by
  go_enter Try.func33, Try.ntmps33
  go_upto_region 1 with (fail)
  refine name1 ?_
  intro w0 b1 B0
  obtain ⟨fk, fr, flev, fl, fwin, fcode, ftable, fall⟩ := b1.prob hp
  clear fk fr flev fl fwin fcode ftable
  have hc : (probChk p != 0) = true := by simp [h]
  go_wp2_with ((with_reducible apply ld); rfl; (with_reducible assumption); (simp only [List.set_cons_zero, List.set_cons_succ]; rfl))
  refine (ref11_Check p a cap hp _ (hw.kept B0)).mono ?_
  rintro e w1 ⟨rfl, B1⟩
  go_wp2
  go_ret2
  exact ⟨rfl, bOn B0 B1⟩
theorem doc_form {w' : World} {base e n m : Nat} {v : Value} {xs : List Value} {b0 b1 : Nat} (h : w'.ownsRow base e 1 v n xs) (hat : v.ownBlock = (Value.slice (some ⟨b0, 0, none⟩) m m).ownBlock ∨ v.ownBlock = some b1) : ∃ g cap', v = .slice (some ⟨g, 0, none⟩) n cap' ∧ n ≤ cap' ∧ base ≤ g := by
  obtain ⟨k, hk⟩ : ∃ k, v.ownBlock = some k := by
    rcases hat with h | h
    · exact ⟨_, h⟩
    · exact ⟨_, h⟩
  obtain ⟨c, rfl, hc⟩ := own_form h hk
  rcases h.2 with ⟨h', _⟩ | ⟨g', c', cur, h', hb, _⟩
  · cases h'
  · obtain ⟨rfl, rfl⟩ : k = g' ∧ c = c' := by simpa using h'
    exact ⟨k, c, rfl, hc, hb⟩
set_option maxRecDepth 5000 in
theorem doc_New (p : Pb) (a : Option Addr) (cap : Nat) (hp : p.Ok) (h : probChk p = 0) (w : World) (hw : Bytes w a p.B) :
    Calls Try.prog 33 #[.agg (p.cells (.slice a p.B.length cap))] w (DocPost p w) := by
  obtain ⟨⟨k1, k2⟩, l1, l2, cr, hwin, _⟩ := probChk_ok h
  have hn : p.B.length ≤ 140737488351232 := by
    have h1 : p.N ≤ 1056 := by unfold Pb.N; omega
    rcases cr with h | h <;> rw [h] at hwin <;> omega
  clear k1 k2 l1 l2 cr hwin
  go_enter Try.func33, Try.ntmps33
  go_upto_region 1 with (fail)
  refine name1 ?_
  intro w0 b1 B0
  obtain ⟨fk, fr, flev, fl, fwin, fcode, ftable, fall⟩ := b1.prob hp
  clear fk fr flev fl fwin fcode ftable
  go_wp2_with ((with_reducible apply ld); rfl; (with_reducible assumption); (simp only [List.set_cons_zero, List.set_cons_succ]; rfl))
  refine (ref11_Check p a cap hp _ (hw.kept B0)).mono ?_
  rintro e w1 ⟨rfl, B1⟩
  rw [h]
  have b11 := b1.kept B1
  have c39 := b11.cell 39
  rw [hp.cell39] at c39
  clear fall
  have hw1 := hw.kept (bOn B0 B1)
  have c39' : (w1.alloc (.cells #[] 5)).cell? ⟨w.heap.size, 39, none⟩ = some (.slice a p.B.length cap) := (((Below.refl _ w1).alloc (Nat.le_refl _) _).cell b11.lt).trans c39
  have hwa := hw1.kept ((Below.refl _ w1).alloc (Nat.le_refl _) (.cells #[] 5))
  have hown : (w1.alloc (.cells #[] 5)).ownsRow w1.heap.size 5 1 (.slice (some ⟨w1.heap.size, 0, none⟩) 0 0) 0 [] := World.ownsRow_lit (e := 5) (size := 1) w1 #[] 0 (Nat.le_refl _) (by decide) rfl
  have hb1a := b11.alloc (.cells #[] 5)
  have hb1l := b11.lt
  go_upto_region 5 with (at_builtin; refine apB hown hwa rfl rfl rfl (by omega) (by simp) ?_; intro v' w2 hown2 hgr hat; have B2 := own_below hown hgr (by simp); obtain ⟨g, cap', rfl, hcap, hg⟩ := doc_form hown2 hat; have hz39 := (hb1a.below B2 hb1l).frozen 39; have hc39 := (hb1a.below B2 hb1l).cell 39; rw [hp.cell39] at hc39)
  have B20 : Below w.heap.size w w2 := (bOn B0 B1).trans ((((Below.refl w1.heap.size w1).alloc (Nat.le_refl _) _).trans B2).mono (by have := B0.size; have := B1.size; omega))
  have hbp := (hb1a.below B2 hb1l).setCell (i := 39) (.slice (some ⟨g, 0, none⟩) p.B.length cap')
  rw [hp.set39] at hbp
  have hby : Bytes w2 (some ⟨g, 0, none⟩) p.B := own_bytes (bs := p.B) (by simpa [u8s] using hown2) hw.lt
  have hgl : w1.heap.size ≤ g := hg
  refine nameAny (fun W => Box W w.heap.size (p.cells (.slice (some ⟨g, 0, none⟩) p.B.length cap')) ∧ Bytes W (some ⟨g, 0, none⟩) p.B ∧ Below w.heap.size w W) ⟨hbp, hby.block (Below.heap_setCell _ _ _ _ (by simp; omega)), B20.setCell (by simp) _⟩ ?_
  rintro w3 ⟨b13, by3, B3⟩
  clear hbp hby hz39 hc39 hown2 hown hb1a c39 c39'
  obtain ⟨fk, fr, flev, fl, fwin, fcode, ftable, fall⟩ := b13.prob hp
  clear fk fr flev fl fwin fcode ftable
  have hbd : ∀ w, (Instr.build 110 #[(0, .agg (p.cells (.slice (some ⟨g, 0, none⟩) p.B.length cap')))]).run Try.prog w = .ok (.agg (p.cells (.slice (some ⟨g, 0, none⟩) p.B.length cap'))) w := fun w => run_build_one (f := ⟨"P", 32, 0, false, "", "", 0⟩) Try.underlying110 rfl (z := .agg zero32) (by kernel_rfl) rfl (by kernel_rfl) (hp.size _) w
  go_wp2_with (first | ((with_reducible apply ld); rfl; (with_reducible assumption); (simp only [List.set_cons_zero, List.set_cons_succ]; rfl)) | ((with_reducible apply w_build (d := 16) (cs := p.cells (.slice (some ⟨g, 0, none⟩) p.B.length cap'))); ((simp only [List.map_toArray, List.map_cons, List.map_nil]); exact hbd _)))
  go_ret2
  have hsz := B3.size
  refine (show DocPost p w _ _ from ⟨⟨w3.heap.size, g, cap', rfl, ⟨Box.new _ _ _, by3.kept ((Below.refl _ _).alloc (Nat.le_refl _) _)⟩, by omega, by have := B0.size; have := B1.size; omega⟩, B3.alloc hsz _⟩)
theorem doc_Steps (p : Pb) (hp : p.Ok) (h : probChk p = 0) {tb g c : Nat} (w : World) (hT : DocIn w p tb g c) : Pure Try.prog 37 #[.pointer (some ⟨tb, 0, none⟩)] w (.int .i64 p.N) := by
  obtain ⟨⟨k1, k2⟩, l1, l2, _⟩ := probChk_ok h
  obtain ⟨fk, fr, flev, fl, fwin, fcode, ftable, fall⟩ := hT.tree.prob hp
  clear fk fr flev fl fwin fcode ftable
  go_enter Try.func37, Try.ntmps37
  go_wp2_with ((with_reducible apply ld); rfl; (with_reducible assumption); (simp only [List.set_cons_zero, List.set_cons_succ]; rfl))
  refine (ref11_N p _ hp l1 l2 k1 k2 _).mono ?_
  rintro e w1 ⟨rfl, B1⟩
  go_wp2
  go_ret
  exact ⟨rfl, B1⟩
theorem doc_Steps_nil (w : World) : Pure Try.prog 37 #[.pointer none] w (.int .i64 0) := by
  go_enter Try.func37, Try.ntmps37
  go_wp2
  go_ret
  exact ⟨rfl, Below.refl _ _⟩
theorem doc_Root (v : Value) (w : World) : Pure Try.prog 38 #[v] w (.agg (Nd.mk 0 0 0).cells) := by
  go_enter Try.func38, Try.ntmps38
  have b2 := Box.new w #[.int .u32 0, .int .i64 0, .int .i64 0] 34
  go_wp2_with (first | ((with_reducible apply ld); rfl; (with_reducible assumption); (simp only [List.set_cons_zero, List.set_cons_succ]; rfl)) | ((with_reducible apply stO); rfl; rfl; (with_reducible assumption); rfl; rfl; exact nodeCells_flat 0 0 0; intro w2 hb5 B2 ho2 hs2))
  refine bodyPost_ret (results_cellAgg rfl rfl (hb5.load (off := 0) (n := 3) (cs' := nodeCells 0 0 0) (Nat.le_refl _) rfl)) rfl ?_
  exact ⟨rfl, ((Below.refl _ w).alloc (Nat.le_refl _) _).trans (B2.mono (by simp))⟩
theorem doc_Leaf (p : Pb) (hp : p.Ok) (h : probChk p = 0) {tb g c : Nat} (n : Nd) (w : World) (hT : DocIn w p tb g c) : Pure Try.prog 41 #[.pointer (some ⟨tb, 0, none⟩), .agg n.cells] w (.bool (n.d == p.N)) := by
  go_enter Try.func41, Try.ntmps41
  go_upto_region 1 with (fail)
  refine name1 ?_
  intro w0 b3 B0
  have hT0 := hT.kept B0
  have m1 := b3.cell 1
  simp only [Nd.cells, nodeCells, List.getElem?_toArray, List.getElem?_cons_zero, List.getElem?_cons_succ] at m1
  (refine wp_region_kept_tail 9 (by kernel_rfl) (by kernel_rfl) ?_; simp only [List.take_succ_cons, List.take_zero, List.drop_succ_cons, List.drop_zero])
  have q1 := KeptW.cell m1
  repeat first
    | go_big_quiet_skip
    | go_big_quiet_step (exact Calls.kept (doc_Steps p hp h _ (hT0.kept (Subtype.property _))))
  refine wpQuiet_nil ?_
  intro w1 B1
  go_wp2
  go_ret
  exact ⟨rfl, bOn B0 B1⟩
theorem doc_Leaf_nil (n : Nd) (w : World) : Pure Try.prog 41 #[.pointer none, .agg n.cells] w (.bool false) := by
  go_enter Try.func41, Try.ntmps41
  go_upto_region 1 with (fail)
  refine name1 ?_
  intro w0 b3 B0
  (refine wp_region_kept_tail 9 (by kernel_rfl) (by kernel_rfl) ?_; simp only [List.take_succ_cons, List.take_zero, List.drop_succ_cons, List.drop_zero])
  repeat first
    | go_big_quiet_skip
    | go_big_quiet_step (fail)
  refine wpQuiet_nil ?_
  intro w1 B1
  go_wp2
  go_ret
  exact ⟨rfl, bOn B0 B1⟩
theorem doc_Kids_nil (n : Nd) (w : World) : Pure Try.prog 39 #[.pointer none, .agg n.cells] w (.tuple #[.slice none 0 0, .slice none 0 0]) := by
  go_enter Try.func39, Try.ntmps39
  go_upto_region 1 with (fail)
  refine name1 ?_
  intro w0 b3 B0
  refine wp_region_kept (by kernel_rfl) (by kernel_rfl) ?_
  repeat first
    | go_big_quiet_skip
    | go_big_quiet_step (fail)
  refine wpQuiet_nil ?_
  intro w1 B1
  go_wp2
  go_ret2
  exact ⟨rfl, bOn B0 B1⟩
theorem doc_Range_nil (w : World) : Pure Try.prog 36 #[.pointer none] w (.tuple #[.int .i64 0, .int .i64 0]) := by
  go_enter Try.func36, Try.ntmps36
  go_wp2
  go_ret2
  exact ⟨rfl, Below.refl _ _⟩
end Go.Proofs.Ytiiljecocajdpaa
