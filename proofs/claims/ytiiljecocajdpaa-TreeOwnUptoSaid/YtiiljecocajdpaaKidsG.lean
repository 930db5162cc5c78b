/- Kids of any node, the program's and the document's alike. -/
import Derived.Test.YtiiljecocajdpaaDocCount
import Derived.Test.YtiiljecocajdpaaSpoil
namespace Go.Proofs.Ytiiljecocajdpaa
open Go.RowKit

open Classical in
noncomputable def Pb.kidsG (p : Pb) (n : Nd) : List Nd := if p.bare n then [] else p.kids n
open Classical in
noncomputable def Pb.bitsG (p : Pb) (n : Nd) : List Nat := if p.bare n then [] else p.kidBits n
def KidsG (p : Pb) (n : Nd) (w : World) (e : Ending) (w' : World) : Prop :=
  (∃ a b c1 c2, e = .returned (.tuple #[.slice a (p.kidsG n).length c1, .slice b (p.bitsG n).length c2]) ∧ Nodes w' a (p.kidsG n) ∧ Bytes w' b (p.bitsG n)) ∧ Below w.heap.size w w'
theorem Bytes.nil (w : World) (a : Option Addr) : Bytes w a [] := ⟨fun k hk => by simp at hk, by simp⟩
theorem Pb.kidBits_lt (p : Pb) (n : Nd) : ∀ x ∈ p.kidBits n, x < 256 := by
  intro x hx
  unfold Pb.kidBits Pb.twoB at hx
  split at hx
  · simp at hx; omega
  · split at hx <;> simp at hx <;> omega
theorem KidsPost.g {p : Pb} {n : Nd} (hn : ¬p.bare n) {w w' : World} {e : Ending} (h : KidsPost (p.kids n) (p.kidBits n) w e w') : KidsG p n w e w' := by
  obtain ⟨⟨nb, bb, rfl, x1, x2, x3, x4, x5⟩, B⟩ := h
  unfold KidsG Pb.kidsG Pb.bitsG
  rw [if_neg hn, if_neg hn]
  exact ⟨⟨_, _, _, _, rfl, Nodes.ofBox x1, Box.bytes x2 (p.kidBits_lt n)⟩, B⟩
theorem bareG {p : Pb} {n : Nd} (hn : p.bare n) {w w' : World} {e : Ending} (h : e = .returned (.tuple #[.slice none 0 0, .slice none 0 0]) ∧ Below w.heap.size w w') : KidsG p n w e w' := by
  obtain ⟨rfl, B⟩ := h
  unfold KidsG Pb.kidsG Pb.bitsG
  rw [if_pos hn, if_pos hn]
  exact ⟨⟨none, none, 0, 0, rfl, Nodes.nil _, Bytes.nil _ _⟩, B⟩
theorem in_of_not_bare {p : Pb} {n : Nd} (s0 : 0 ≤ n.s) (h : ¬p.bare n) : p.In n := by
  unfold Pb.bare at h
  exact ⟨s0, by omega, by omega, by omega⟩
theorem tree_KidsG (p : Pb) (hp : p.Ok) (h : probChk p = 0) {tb pb rb g c : Nat} (n : Nd) (s0 : 0 ≤ n.s) (s1 : n.s < 4294967296) (w : World) (hT : TreeIn w p tb pb rb g c) :
    Calls Try.prog 21 #[.pointer (some ⟨tb, 0, none⟩), .agg n.cells] w (KidsG p n w) := by
  by_cases hb : p.bare n
  · exact (tree_Kids_bare p h n s0 s1 hb w hT).mono fun _ _ h => bareG hb h
  · exact (tree_Kids p hp h n (in_of_not_bare s0 hb) w hT).mono fun _ _ h => h.g hb
theorem doc_KidsG (p : Pb) (hp : p.Ok) (h : probChk p = 0) {tb g c : Nat} (n : Nd) (s0 : 0 ≤ n.s) (s1 : n.s < 4294967296) (w : World) (hT : DocIn w p tb g c) :
    Calls Try.prog 39 #[.pointer (some ⟨tb, 0, none⟩), .agg n.cells] w (KidsG p n w) := by
  by_cases hb : p.bare n
  · exact (doc_Kids_bare p hp h n s0 s1 hb w hT).mono fun _ _ h => bareG hb h
  · exact (doc_Kids p hp h n (in_of_not_bare s0 hb) w hT).mono fun _ _ h => h.g hb
theorem Pb.kidsG_len (p : Pb) (n : Nd) : (p.kidsG n).length ≤ 2 := by
  unfold Pb.kidsG
  split
  · simp
  · exact p.kids_len n
theorem DocIn.but {w w' : World} {p : Pb} {tb g c b : Nat} (h : DocIn w p tb g c) (hB : But b w w') (hb : tb ≠ b ∧ g ≠ b) : DocIn w' p tb g c :=
  ⟨hB.box h.tree hb.1, Bytes.but hB h.win hb.2⟩
theorem DocIn.setOther {w : World} {p : Pb} {tb g c : Nat} (h : DocIn w p tb g c) {q : Addr} (hq : q.block ≠ tb ∧ q.block ≠ g) (v : Value) : DocIn (w.setCell q v) p tb g c :=
  ⟨h.tree.setOther hq.1 v, h.win.block (Below.heap_setCell _ _ _ _ (Ne.symm hq.2))⟩
end Go.Proofs.Ytiiljecocajdpaa
