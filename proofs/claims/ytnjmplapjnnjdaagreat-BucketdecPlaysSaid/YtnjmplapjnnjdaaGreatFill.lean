import Derived.Test.YtnjmplapjnnjdaaGreatPref2
import Derived.Test.YtnjmplapjnnjdaaGreatKnow
import Derived.Test.YtnjmplapjnnjdaaGreatNoTree
import Derived.Laws.Tables
set_option linter.unusedSimpArgs false
set_option linter.unusedVariables false
set_option linter.unnecessarySimpa false
/- The walks of dip and total: the program's. -/
namespace Go.Proofs.YtnjmplapjnnjdaaGreat
open Go.RowKit Go.Shelf
attribute [local go_sem] Oper.semAt_some

/-- The error of a problem and a path. -/
def Pb.pathChk (p : Pb) (bs : List Nat) : Int := if probChk p != 0 then probChk p else if bs.any (fun x => decide (1 < x)) then 10 else if (bs.length : Int) != p.L then 5 else 0
theorem Pb.pathChk_ok {p : Pb} {bs : List Nat} (h : p.pathChk bs = 0) : probChk p = 0 ∧ p.Path bs := by
  unfold Pb.pathChk at h
  by_cases h1 : probChk p = 0
  · rw [if_neg (by simp [h1])] at h
    cases h2 : bs.any (fun x => decide (1 < x))
    · rw [h2] at h
      by_cases h3 : (bs.length : Int) = p.L
      · refine ⟨h1, h3, fun x hx => ?_⟩
        have := List.any_eq_false.1 h2 x hx
        simp at this
        omega
      · rw [if_neg (by simp), if_pos (by simpa using h3)] at h
        cases h
    · rw [h2] at h; simp at h
  · rw [if_pos (by simpa using h1)] at h
    exact absurd h h1
end Go.Proofs.YtnjmplapjnnjdaaGreat

/- The walks of dip and total: the program's. -/
namespace Go.Proofs.YtnjmplapjnnjdaaGreat
open Go.RowKit Go.Shelf
attribute [local go_sem] Oper.semAt_some

/-- The prefix metrics of a path. -/
def Pb.pm (p : Pb) (bs : List Nat) : List Int := p.psums (p.pathL bs)
def dipOf (l : List Int) : Int := l.foldl min 0
theorem dipOf_snoc (l : List Int) (m : Int) : dipOf (l ++ [m]) = min (dipOf l) m := by simp [dipOf]
def lastOf (l : List Int) : Int := l.getLastD 0
theorem lastOf_snoc (l : List Int) (m : Int) : lastOf (l ++ [m]) = m := by simp [lastOf]
end Go.Proofs.YtnjmplapjnnjdaaGreat
/- The walks of dip and total at any path: the program's; what must come of the chapters' example. -/
namespace Go.Proofs.YtnjmplapjnnjdaaGreat
open Go.RowKit

def Pb.dip (p : Pb) (bs : List Nat) : Int := if p.pathChk bs != 0 then 0 else dipOf (p.pm bs)
def Pb.tot (p : Pb) (bs : List Nat) : Int := if p.pathChk bs != 0 then 0 else lastOf (p.pm bs)
end Go.Proofs.YtnjmplapjnnjdaaGreat

/- The walk of the prefix metrics: an append in the round of a range over the iterator. -/
namespace Go.Proofs.YtnjmplapjnnjdaaGreat
open Go.RowKit Go.Shelf
attribute [local go_sem] Oper.semAt_some

section
variable {P : Program} {ops : Array Oper} {rest : List Oper} {Q : Exit → Act → World → Prop} {w : World} {F : Fence} {nn : Nat}
end
/-- A row of numbers that a call has lent. -/
def Row64 (w : World) (B : Nat) (v : Value) (l : List Int) : Prop := w.ownsRow B 3 1 v l.length (l.map (Value.int .i64))
theorem Row64.turn {H : Nat → Prop} {w w' : World} {B : Nat} {v : Value} {l : List Int} (h : Row64 w B v l) (hT : Turn H w w') (hn : ∀ k, v.ownBlock = some k → ¬H k) : Row64 w' B v l := by
  refine ⟨h.1, ?_⟩
  rcases h.2 with h | ⟨g, cap, cur, hv, hb, hg, rest⟩
  · exact .inl h
  · refine .inr ⟨g, cap, cur, hv, hb, (hT.block g ?_ (hn g (by rw [hv]; rfl))).trans hg, rest⟩
    exact (Array.getElem?_eq_some_iff.1 hg).1
theorem Turn.grown {w w' : World} {row : Option Nat} (h : w.grownBy w' row) : Turn (fun k => some k = row) w w' := ⟨h.os, h.tape, h.output, h.size, h.block⟩
theorem Row64.mono {w : World} {B B' : Nat} {v : Value} {l : List Int} (h : Row64 w B v l) (hb : B' ≤ B) : Row64 w B' v l := by
  refine ⟨h.1, ?_⟩
  rcases h.2 with h | ⟨g, cap, cur, hv, hbg, rest⟩
  · exact .inl h
  · exact .inr ⟨g, cap, cur, hv, Nat.le_trans hb hbg, rest⟩
end Go.Proofs.YtnjmplapjnnjdaaGreat
/- The walk of a law's own path: bits out of any bytes. -/
namespace Go.Proofs.YtnjmplapjnnjdaaGreat
open Go.RowKit

end Go.Proofs.YtnjmplapjnnjdaaGreat
/- Laws of the prefix metrics: the least, the last, paths that begin alike. No walk. -/
namespace Go.Proofs.YtnjmplapjnnjdaaGreat
open Go.RowKit

theorem foldl_min_le : ∀ (l : List Int) (m : Int), l.foldl min m ≤ m ∧ (∀ x ∈ l, l.foldl min m ≤ x) ∧ (l.foldl min m = m ∨ l.foldl min m ∈ l)
  | [], m => ⟨Int.le_refl _, fun x hx => (by cases hx), .inl rfl⟩
  | a :: l, m => by
    obtain ⟨h1, h2, h3⟩ := foldl_min_le l (min m a)
    simp only [List.foldl_cons]
    refine ⟨by omega, fun x hx => ?_, ?_⟩
    · rcases List.mem_cons.1 hx with rfl | hx
      · omega
      · exact h2 x hx
    · rcases h3 with h | h
      · by_cases hm : m ≤ a
        · left; rw [h]; omega
        · right; rw [h]; rw [show min m a = a by omega]; exact List.mem_cons_self
      · right; exact List.mem_cons_of_mem _ h
theorem Pb.pm_len (p : Pb) (bs : List Nat) : (p.pm bs).length = p.N.toNat + 1 := by unfold Pb.pm; rw [Pb.psums_len, Pb.pathL_len]
theorem Pb.pm_get (p : Pb) (bs : List Nat) {i : Nat} (h : i ≤ p.N.toNat) : (p.pm bs)[i]? = some (p.psum ((p.pathL bs).take i)) := by
  unfold Pb.pm Pb.psums
  rw [Pb.pathL_len, List.getElem?_map, List.getElem?_range (by omega)]
  rfl
theorem Pb.pm_zero (p : Pb) (bs : List Nat) : (p.pm bs)[0]? = some 0 := by rw [p.pm_get bs (Nat.zero_le _)]; rfl
theorem Pb.pm_last (p : Pb) (bs : List Nat) : (p.pm bs)[p.N.toNat]? = some (lastOf (p.pm bs)) := by
  have h := p.pm_len bs
  unfold lastOf
  rw [List.getLastD_eq_getLast?, List.getLast?_eq_getElem?, h]
  simp only [Nat.add_sub_cancel]
  rw [List.getElem?_eq_getElem (by omega)]
  rfl
theorem Pb.pm_dip (p : Pb) (bs : List Nat) : dipOf (p.pm bs) ≤ 0 ∧ (∀ (i : Nat) x, (p.pm bs)[i]? = some x → dipOf (p.pm bs) ≤ x) ∧ ∃ i : Nat, i ≤ p.N.toNat ∧ (p.pm bs)[i]? = some (dipOf (p.pm bs)) := by
  obtain ⟨h1, h2, h3⟩ := foldl_min_le (p.pm bs) 0
  refine ⟨h1, fun i x hi => h2 x (List.mem_of_getElem? hi), ?_⟩
  rcases h3 with h | h
  · exact ⟨0, Nat.zero_le _, by rw [p.pm_zero bs]; unfold dipOf; rw [h]⟩
  · obtain ⟨i, hi, he⟩ := List.getElem_of_mem h
    have := p.pm_len bs
    exact ⟨i, by omega, by rw [List.getElem?_eq_getElem hi, he]; rfl⟩
theorem Pb.path_chk {p : Pb} {bs : List Nat} (h : probChk p = 0) (hlen : (bs.length : Int) = p.L) (hb : ∀ x ∈ bs, x < 2) : p.pathChk bs = 0 := by
  unfold Pb.pathChk
  have h2 : bs.any (fun x => decide (1 < x)) = false := by
    rw [List.any_eq_false]
    intro x hx
    have := hb x hx
    simp; omega
  rw [if_neg (by simp [h]), h2, if_neg (by simp), if_neg (by simp [hlen])]
/-- Numbers at the head of a block. -/
def IntsAt (w : World) (g : Nat) (l : List Int) : Prop := g < w.heap.size ∧ ∀ (i : Nat) x, l[i]? = some x → w.cell? ⟨g, i, none⟩ = some (.int .i64 x)
theorem IntsAt.kept {w w' : World} {g : Nat} {l : List Int} (h : IntsAt w g l) (hB : Below w.heap.size w w') : IntsAt w' g l := ⟨Nat.lt_of_lt_of_le h.1 hB.size, fun i x hx => (hB.cell h.1).trans (h.2 i x hx)⟩
theorem Row64.form {w : World} {B : Nat} {v : Value} {l : List Int} (h : Row64 w B v l) (hl : 0 < l.length) : ∃ g cap, v = .slice (some ⟨g, 0, none⟩) l.length cap ∧ B ≤ g ∧ IntsAt w g l := by
  have h0 := h
  rcases h.2 with ⟨_, h⟩ | ⟨g, cap, cur, hv, hb, hg, _⟩
  · omega
  · subst hv
    refine ⟨g, cap, rfl, hb, (Array.getElem?_eq_some_iff.1 hg).1, fun i x hx => ?_⟩
    have hil : i < l.length := by
      rcases Nat.lt_or_ge i l.length with h | h
      · exact h
      · rw [List.getElem?_eq_none h] at hx; cases hx
    rw [World.ownsRow.cellAt h0 i (by omega), List.getElem?_map, hx]
    rfl
end Go.Proofs.YtnjmplapjnnjdaaGreat

/- A struct of one field, built of that field's value. No program's text is named here. -/
namespace Go.Proofs.YtnjmplapjnnjdaaGreat
open Go.RowKit

theorem fold_set : ∀ (l : List Value) (k : Nat) (zs : Array Value) (i : Nat), k + l.length ≤ zs.size → ((l.zipIdx k).foldl (fun cs x => cs.setIfInBounds (0 + x.2) x.1) zs)[i]? = if k ≤ i ∧ i < k + l.length then l[i - k]? else zs[i]?
  | [], k, zs, i, _ => by simp; omega
  | v :: l, k, zs, i, h => by
    simp only [List.length_cons] at h
    rw [List.zipIdx_cons, List.foldl_cons, fold_set l (k + 1) _ i (by simp; omega)]
    simp only [List.length_cons, Nat.zero_add]
    by_cases h1 : i = k
    · subst h1
      rw [if_neg (by omega), if_pos (by omega)]
      simp [Array.getElem?_setIfInBounds]
      omega
    · by_cases h2 : k + 1 ≤ i ∧ i < k + 1 + l.length
      · rw [if_pos h2, if_pos (by omega), show i - k = (i - (k + 1)) + 1 by omega, List.getElem?_cons_succ]
      · rw [if_neg h2, if_neg (by omega), Array.getElem?_setIfInBounds_ne (Ne.symm h1)]
theorem fill_one {cs zs : Array Value} (h : cs.size = zs.size) : cs.zipIdx.foldl (fun cs (x : Value × Nat) => cs.setIfInBounds (0 + x.2) x.1) zs = cs := by
  rw [← Array.foldl_toList, Array.toList_zipIdx]
  apply Array.ext_getElem?
  intro i
  rw [fold_set cs.toList 0 zs i (by simp [h])]
  split
  · simp
  · rw [Array.getElem?_eq_none (by simp at *; omega), Array.getElem?_eq_none (by simp at *; omega)]
theorem run_build_one {P : Program} {t : TypeId} {f : Field} {n : Nat} {z : Value} (hu : P.underlying t = some (.struct #[f])) (hf : f.offset = 0) (hi : (P.info? t).map (·.zero) = some (some z)) (hz : z.cells.size = n) (hs : (P.info? f.type).map (·.size) = some n) {cs : Array Value} (hc : cs.size = n) (w : World) :
    (Instr.build t #[(0, .agg cs)]).run P w = .ok (.agg cs) w := by
  refine run_build w t _ cs ?_
  unfold Program.built
  cases h1 : P.info? t with
  | none => simp [h1] at hi
  | some it =>
    cases h2 : P.info? f.type with
    | none => simp [h2] at hs
    | some jt =>
      have hz' : it.zero = some z := by simpa [h1] using hi
      have hs' : jt.size = n := by simpa [h2] using hs
      simp only [hu, hz']
      simp only [List.mapM_cons, List.mapM_nil, h2, Option.map_some, hf, hs']
      have := fill_one (cs := cs) (zs := z.cells) (by rw [hc, hz])
      show Instr.fill _ z.cells [(0, .agg cs)] = some cs
      have hvc : (Value.agg cs).cells.size = n := hc
      unfold Instr.fill
      simp only [List.getElem?_toArray, List.getElem?_cons_zero]
      split
      · rename_i hbad
        exfalso
        rcases (by simpa using hbad : (Value.agg cs).cells.size ≠ n ∨ _) with h | h
        · exact h hvc
        · omega
      · unfold Instr.fill
        exact congrArg some this
end Go.Proofs.YtnjmplapjnnjdaaGreat
