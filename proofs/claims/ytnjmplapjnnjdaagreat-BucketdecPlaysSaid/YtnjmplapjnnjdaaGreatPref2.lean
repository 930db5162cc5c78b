import Derived.Test.YtnjmplapjnnjdaaGreatSeq
import Derived.Test.YtnjmplapjnnjdaaGreatNoTree
set_option linter.unusedSimpArgs false
set_option linter.unusedVariables false
set_option linter.unnecessarySimpa false
/- Arms for operations in a fence that lets all in, in a round or not. No program's text is named here. -/
namespace Go.Proofs.YtnjmplapjnnjdaaGreat
open Go.RowKit Go.Shelf

section
variable {P : Program} {ops : Array Oper} {rest : List Oper} {Q : Exit → Act → World → Prop} {w w' : World} {a : Act} {o : Oper} {F : Fence} {n : Nat}

theorem semAt_exec {r : Option Nat} (ρ : Operand → Value) (hnd : ∀ c, o.op ≠ .defer c) : o.semAt r ρ = execOp ρ o := by
  cases r with
  | none => rfl
  | some l => exact Oper.semAt_some l ρ o hnd
end
end Go.Proofs.YtnjmplapjnnjdaaGreat
/- A region that draws its order, in the round of a range over a function: fixed values first, then a forced order. No program's text is named here. -/
namespace Go.Proofs.YtnjmplapjnnjdaaGreat
open Go.RowKit Go.Shelf

section
variable {P : Program} {ops : Array Oper} {md : Region.Mode} {w0 : World} {F : Fence} {n : Nat}

theorem wpAnyIn_of_seq {Q' : Exit → Act → World → Prop} : ∀ (l : List Oper) (k : Nat) (listed : Array Bool) (a : Act) (w : World), (∀ j, l[j]? = ops[k + j]?) →
    Region.seqB md ops l.length k listed = true → wpListIn F n P ops Q' l a w → wpAnyIn F n P md ops Q' l.length listed a w
  | [], _, _, _, _, _, hB, h => ⟨by simpa [Region.seqB] using hB, h⟩
  | o :: l, k, listed, a, w, hl, hB, h => by
    have h0 : ops[k]? = some o := by simpa using (hl 0).symm
    simp only [List.length_cons, Region.seqB, Bool.and_eq_true, decide_eq_true_eq] at hB
    refine ⟨fun h1 => (by rw [hB.1] at h1; cases h1), fun i hi => ?_⟩
    rw [hB.1] at hi
    have hik : i = k := by simpa using hi
    subst hik
    have hw : wpOpIn F n P ops Q' i (wpListIn F n P ops Q' l) a w := by unfold wpOpIn; simp only [h0]; exact h
    exact wpOpIn_mono (fun a' w' h' => wpAnyIn_of_seq l (i + 1) _ a' w' (fun j => by have := hl (j + 1); simpa [Nat.add_assoc, Nat.add_comm 1 j] using this) hB.2 h') hw
theorem wpDet_mono {K K' : Act → Prop} (hk : ∀ a, K a → K' a) : ∀ (l : List Oper) (a : Act), wpDet P ops w0 K l a → wpDet P ops w0 K' l a
  | [], a, h => hk a h
  | o :: l, a, h => by
    unfold wpDet at h ⊢
    split
    · rename_i hw
      rw [if_pos hw] at h
      obtain ⟨v, hv, hn⟩ := h
      exact ⟨v, hv, wpDet_mono hk l _ hn⟩
    · rename_i hw
      rw [if_neg hw] at h
      exact wpDet_mono hk l _ h
theorem seqB_marked {g : Nat} : ∀ (f k : Nat) (d : Array Bool), Region.lexHead md ops g f k d = true → Region.seqB md ops g (k + f) (marked k f d) = true
  | 0, k, d, h => h
  | f + 1, k, d, h => by
    simp only [Region.lexHead, Bool.and_eq_true] at h
    have := seqB_marked f (k + 1) _ h.2
    rw [show k + (f + 1) = k + 1 + f by omega]
    exact this
end
end Go.Proofs.YtnjmplapjnnjdaaGreat

/- The iterator over the steps of a path: the program's. -/
namespace Go.Proofs.YtnjmplapjnnjdaaGreat
open Go.RowKit Go.Shelf
attribute [local go_sem] Oper.semAt_some

/-- The bit of a step: behind the information it is 0. -/
def Pb.bit (p : Pb) (bs : List Nat) (k : Nat) : Nat := if (k : Int) < p.L then bs.getD k 0 else 0
/-- The state ahead of a step. -/
def Pb.st (p : Pb) (bs : List Nat) : Nat → Int
  | 0 => 0
  | k + 1 => (2 * p.st bs k + p.bit bs k) % 2 ^ (p.C.K.toNat - 1)
/-- What the code's register holds at a step. -/
def Pb.reg (p : Pb) (bs : List Nat) (k : Nat) : Nat := (2 * p.st bs k + p.bit bs k).toNat
/-- A path. -/
structure Pb.Path (p : Pb) (bs : List Nat) : Prop where
  len : (bs.length : Int) = p.L
  lt : ∀ x ∈ bs, x < 2
theorem Pb.st_in (p : Pb) (bs : List Nat) : ∀ k, 0 ≤ p.st bs k ∧ p.st bs k < 2 ^ (p.C.K.toNat - 1)
  | 0 => ⟨Int.le_refl _, Int.pow_pos (by decide)⟩
  | k + 1 => ⟨Int.emod_nonneg _ (by have : (0 : Int) < 2 ^ (p.C.K.toNat - 1) := Int.pow_pos (by decide); omega), Int.emod_lt_of_pos _ (Int.pow_pos (by decide))⟩
theorem Pb.bit_lt {p : Pb} {bs : List Nat} (h : p.Path bs) (k : Nat) : p.bit bs k < 2 := by
  unfold Pb.bit
  split
  · by_cases hk : k < bs.length
    · rw [List.getD_eq_getElem?_getD, List.getElem?_eq_getElem hk]
      exact h.lt _ (List.getElem_mem hk)
    · rw [List.getD_eq_getElem?_getD, List.getElem?_eq_none (by omega)]
      decide
  · decide
/-- What comes of a step: its number, and what the register holds. -/
abbrev Pb.Elem (p : Pb) := { x : Nat × Nat // x.1 < p.N.toNat }
def Pb.pathL (p : Pb) (bs : List Nat) : List p.Elem := List.ofFn fun k : Fin p.N.toNat => ⟨(k.1, p.reg bs k.1), k.2⟩
theorem Pb.pathL_len (p : Pb) (bs : List Nat) : (p.pathL bs).length = p.N.toNat := by simp [Pb.pathL]
def Pb.enc (p : Pb) (x : p.Elem) : Array Value := #[.int .i64 (x.1.1 : Int), .agg (ya (p.C.y x.1.2))]
theorem Pb.pathL_take {p : Pb} {bs : List Nat} {k : Nat} (h : k < p.N.toNat) : (p.pathL bs).take (k + 1) = (p.pathL bs).take k ++ [⟨(k, p.reg bs k), h⟩] := by
  rw [List.take_succ_eq_append_getElem (by rw [p.pathL_len]; exact h)]
  simp [Pb.pathL]

end Go.Proofs.YtnjmplapjnnjdaaGreat

/- The walk of the metric of a step, as the prefixes' closure reckons it. -/
namespace Go.Proofs.YtnjmplapjnnjdaaGreat
open Go.RowKit

end Go.Proofs.YtnjmplapjnnjdaaGreat

/- The iterator over a path's prefix metrics: the program's. -/
namespace Go.Proofs.YtnjmplapjnnjdaaGreat
open Go.RowKit Go.Shelf
attribute [local go_sem] Oper.semAt_some

/-- The metric of some steps. -/
def Pb.psum (p : Pb) (pre : List p.Elem) : Int := pre.foldl (fun m x => m + p.br x.1.1 x.1.2) 0
theorem Pb.psum_snoc (p : Pb) (pre : List p.Elem) (x : p.Elem) : p.psum (pre ++ [x]) = p.psum pre + p.br x.1.1 x.1.2 := by simp [Pb.psum]
/-- The metrics of the beginnings. -/
def Pb.psums (p : Pb) (pre : List p.Elem) : List Int := (List.range (pre.length + 1)).map fun k => p.psum (pre.take k)
theorem Pb.psums_snoc (p : Pb) (pre : List p.Elem) (x : p.Elem) : p.psums (pre ++ [x]) = p.psums pre ++ [p.psum (pre ++ [x])] := by
  unfold Pb.psums
  rw [List.length_append, List.length_singleton, List.range_succ, List.map_append]
  congr 1
  · apply List.map_congr_left
    intro k hk
    have : k ≤ pre.length := by simp at hk; omega
    rw [List.take_append_of_le_length this]
  · rw [List.map_singleton, List.take_of_length_le (by simp)]
theorem Pb.psums_len (p : Pb) (pre : List p.Elem) : (p.psums pre).length = pre.length + 1 := by simp [Pb.psums]
theorem Pb.br_bd (p : Pb) (h : probChk p = 0) (d v : Nat) : -12288 ≤ p.br d v ∧ p.br d v ≤ 12288 := by
  obtain ⟨⟨k1, k2⟩, l1, l2, cr, hwin, ⟨v1, v2⟩, hlev, hcc, htt⟩ := probChk_ok h
  have hl16 : ∀ x ∈ p.lv d, x < 16 := fun x hx => by
    have := hlev x (List.mem_of_mem_drop (List.mem_of_mem_take hx))
    omega
  have := brS_bd htt (p.C.y_lt v) hl16 p.C.R.toNat
  unfold Pb.br
  omega
theorem foldl_bound {α : Type} {f : α → Int} {c : Int} (h : ∀ x, -c ≤ f x ∧ f x ≤ c) : ∀ (l : List α) (m : Int), m - c * l.length ≤ l.foldl (fun m x => m + f x) m ∧ l.foldl (fun m x => m + f x) m ≤ m + c * l.length
  | [], m => by simp
  | x :: l, m => by
    have h1 := h x
    have h2 := foldl_bound h l (m + f x)
    simp only [List.foldl_cons, List.length_cons]
    have e : c * ((l.length + 1 : Nat) : Int) = c * (l.length : Int) + c := by push_cast; rw [Int.mul_add, Int.mul_one]
    rw [e]
    omega
theorem Pb.psum_bd (p : Pb) (h : probChk p = 0) (pre : List p.Elem) : -12288 * (pre.length : Int) ≤ p.psum pre ∧ p.psum pre ≤ 12288 * (pre.length : Int) := by
  have := foldl_bound (f := fun x : p.Elem => p.br x.1.1 x.1.2) (c := 12288) (fun x => p.br_bd h x.1.1 x.1.2) pre 0
  unfold Pb.psum
  omega
end Go.Proofs.YtnjmplapjnnjdaaGreat
/- The iterator over a path's prefix metrics, which ranges over the path's own. -/
namespace Go.Proofs.YtnjmplapjnnjdaaGreat
open Go.RowKit Go.Shelf
attribute [local go_sem] Oper.semAt_some

end Go.Proofs.YtnjmplapjnnjdaaGreat
