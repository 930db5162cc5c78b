/- What must come of the chapters' example: it comes. -/
import Derived.Test.YtiiljecocajdpaaPlain
namespace Go.Proofs.Ytiiljecocajdpaa
open Go.RowKit

theorem plain_kids : plainPb.kids ⟨0, 0, 0⟩ = [⟨0, 1, -10⟩, ⟨1, 1, 2⟩] ∧ plainPb.kidBits ⟨0, 0, 0⟩ = [0, 1] := by
  unfold Pb.kids Pb.kidBits Pb.twoK Pb.twoB
  rw [plainPb_k0, plainPb_k1]
  exact ⟨rfl, rfl⟩
theorem nds_part : ∀ (l : List Nd) (k : Nat) (h : k < l.length), ((l.flatMap fun n => n.cells.toList).drop (k * 3)).take 3 = (l[k]).cells.toList ∧ k * 3 + 3 ≤ (l.flatMap fun n => n.cells.toList).length
  | [], k, h => by simp at h
  | a :: l, 0, _ => by simp [Nd.cells, nodeCells]
  | a :: l, k + 1, h => by
    have ih := nds_part l k (by simpa using h)
    have h3 : (k + 1) * 3 = (k * 3) + 3 := by omega
    have ha : a.cells.toList.length = 3 := rfl
    rw [List.flatMap_cons, h3]
    refine ⟨?_, ?_⟩
    · rw [List.drop_append, ha, Nat.add_sub_cancel, List.drop_eq_nil_of_le (by omega), List.nil_append]
      exact ih.1
    · rw [List.length_append, ha]
      omega
theorem Nodes.ofBox {w : World} {b : Nat} {l : List Nd} (h : Box w b (ndCells l)) : Nodes w (some ⟨b, 0, none⟩) l := fun k hk => by
  have := nds_part l k hk
  refine ⟨b, 0, rfl, h.load (by rw [Nat.zero_add]; exact this.2) ?_⟩
  apply Array.ext'
  rw [Array.toList_extract, List.extract_eq_take_drop]
  simpa [ndCells] using this.1
set_option maxRecDepth 5000 in
theorem law15_knows (w : World) : Pure Try.prog 19 #[] w (.bool true) := by
  go_enter Try.func19, Try.ntmps19
  go_wp2_with fail
  refine (law11_Plain _).mono ?_
  rintro e w1 ⟨⟨g, rfl, hB, _⟩, B1⟩
  go_wp2_with fail
  refine (tree_New plainPb (some ⟨g, 0, none⟩) 6 plainPb_ok plainPb_chk w1 hB).mono ?_
  rintro e w2 ⟨⟨tb, pb, rb, g2, c2, rfl, hT, _⟩, B2⟩
  go_wp2_with fail
  refine (law15_num 0 _).mono ?_
  rintro e w3 ⟨rfl, B3⟩
  go_wp2_with fail
  have hT3 := hT.kept B3
  refine (tree_Root _ _).mono ?_
  rintro e w4 ⟨rfl, B4⟩
  have hT4 := hT3.kept B4
  go_wp2_with fail
  refine (tree_Kids plainPb plainPb_ok plainPb_chk ⟨0, 0, 0⟩ ⟨by decide, by decide, by decide, by decide⟩ w4 hT4).mono ?_
  rintro e w5 ⟨⟨nb, bb, rfl, x1, x2, x3, x4, x5⟩, B5⟩
  have hT5 := hT4.kept B5
  rw [plain_kids.1] at x1 ⊢
  rw [plain_kids.2] at x2 ⊢
  go_upto_region 5 with fail
  go_upto_region 6 with ((with_reducible apply w_slice (cs := ndCells [⟨0, 1, -10⟩, ⟨1, 1, 2⟩]) (e := 34)); ((simp only [List.map_toArray, List.map_cons, List.map_nil]); exact build_two ⟨0, 1, -10⟩ ⟨1, 1, 2⟩ _))
  refine nameAny (fun W => Box W w5.heap.size (ndCells [⟨0, 1, -10⟩, ⟨1, 1, 2⟩]) ∧ Below w5.heap.size w5 W) ⟨Box.new _ _ _, (Below.refl _ _).alloc (Nat.le_refl _) _⟩ ?_
  rintro w6 ⟨x6, B6⟩
  have y1 := Nodes.ofBox (x1.kept B6)
  have y6 := Nodes.ofBox x6
  have y2 := Box.bytes (x2.kept B6) (by decide)
  have hT6 := hT5.kept B6
  go_wp2_with fail
  refine (law01_SameNodes _ _ _ _ _ _ (by decide) _ y1 y6).mono ?_
  rintro e w7 ⟨rfl, B7⟩
  have y27 := y2.kept B7
  have hs : byteStr [0, 1] = ⟨#[0, 1]⟩ := by kernel_rfl
  rw [show sameNds [⟨0, 1, -10⟩, ⟨1, 1, 2⟩] [⟨0, 1, -10⟩, ⟨1, 1, 2⟩] = true from rfl]
  have hcv := run_conv (P := Try.prog) (src := 30) (dst := 9) (cap := 2) y27 (n := 2) rfl
  rw [hs] at hcv
  go_wp2_with fail
  refine (tree_Steps plainPb _ (hT6.kept B7)).mono ?_
  rintro e w8 ⟨rfl, B8⟩
  rw [plainPb_N]
  go_wp2
  go_ret
  exact ⟨rfl, (((((((B1.trans (B2.mono B1.size)).trans (B3.mono (by have := B1.size; have := B2.size; omega))).trans (B4.mono (by have := B1.size; have := B2.size; have := B3.size; omega))).trans (B5.mono (by have := B1.size; have := B2.size; have := B3.size; have := B4.size; omega))).trans (B6.mono (by have := B1.size; have := B2.size; have := B3.size; have := B4.size; have := B5.size; omega))).trans (B7.mono (by have := B1.size; have := B2.size; have := B3.size; have := B4.size; have := B5.size; have := B6.size; omega)))).trans (B8.mono (by have := B1.size; have := B2.size; have := B3.size; have := B4.size; have := B5.size; have := B6.size; have := B7.size; omega))⟩
end Go.Proofs.Ytiiljecocajdpaa
