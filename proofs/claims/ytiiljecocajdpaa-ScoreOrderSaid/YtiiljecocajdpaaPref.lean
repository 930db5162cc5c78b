/- The iterator over a path's prefix metrics: the program's. -/
import Derived.Test.YtiiljecocajdpaaPath
import Derived.Test.YtiiljecocajdpaaInReg
import Derived.Test.YtiiljecocajdpaaWorth
namespace Go.Proofs.Ytiiljecocajdpaa
open Go.RowKit Go.Shelf
attribute [local go_sem] Oper.semAt_some

/-- The metric of some steps. -/
def Pb.psum (p : Pb) (pre : List p.Elem) : Int := pre.foldl (fun m x => m + p.br x.1.1 x.1.2) 0
theorem Pb.psum_snoc (p : Pb) (pre : List p.Elem) (x : p.Elem) : p.psum (pre ++ [x]) = p.psum pre + p.br x.1.1 x.1.2 := by simp [Pb.psum]
/-- The metrics of the beginnings. -/
def Pb.psums (p : Pb) (pre : List p.Elem) : List Int := (List.range (pre.length + 1)).map fun k => p.psum (pre.take k)
theorem Pb.psums_nil (p : Pb) : p.psums [] = [0] := rfl
theorem Pb.psums_snoc (p : Pb) (pre : List p.Elem) (x : p.Elem) : p.psums (pre ++ [x]) = p.psums pre ++ [p.psum (pre ++ [x])] := by
  unfold Pb.psums
  rw [List.length_append, List.length_singleton, List.range_succ, List.map_append]
  congr 1
  · apply List.map_congr_left
    intro k hk
    have : k ≤ pre.length := by simp at hk; omega
    rw [List.take_append_of_le_length this]
  · rw [List.map_singleton, List.take_of_length_le (by simp)]
theorem Pb.psums_len (p : Pb) (pre : List p.Elem) : (p.psums pre).length = pre.length + 1 := by simp [Pb.psums]
theorem Pb.br_bd (p : Pb) (h : probChk p = 0) (d v : Nat) : -12288 ≤ p.br d v ∧ p.br d v ≤ 12288 := by
  obtain ⟨⟨k1, k2⟩, l1, l2, cr, hwin, ⟨v1, v2⟩, hlev, hcc, htt⟩ := probChk_ok h
  have hl16 : ∀ x ∈ p.lv d, x < 16 := fun x hx => by
    have := hlev x (List.mem_of_mem_drop (List.mem_of_mem_take hx))
    omega
  have := brS_bd htt (p.C.y_lt v) hl16 p.C.R.toNat
  unfold Pb.br
  omega
theorem foldl_bound {α : Type} {f : α → Int} {c : Int} (h : ∀ x, -c ≤ f x ∧ f x ≤ c) : ∀ (l : List α) (m : Int), m - c * l.length ≤ l.foldl (fun m x => m + f x) m ∧ l.foldl (fun m x => m + f x) m ≤ m + c * l.length
  | [], m => by simp
  | x :: l, m => by
    have h1 := h x
    have h2 := foldl_bound h l (m + f x)
    simp only [List.foldl_cons, List.length_cons]
    have e : c * ((l.length + 1 : Nat) : Int) = c * (l.length : Int) + c := by push_cast; rw [Int.mul_add, Int.mul_one]
    rw [e]
    omega
theorem Pb.psum_bd (p : Pb) (h : probChk p = 0) (pre : List p.Elem) : -12288 * (pre.length : Int) ≤ p.psum pre ∧ p.psum pre ≤ 12288 * (pre.length : Int) := by
  have := foldl_bound (f := fun x : p.Elem => p.br x.1.1 x.1.2) (c := 12288) (fun x => p.br_bd h x.1.1 x.1.2) pre 0
  unfold Pb.psum
  omega
theorem score_path (v : Value) (p : Pb) (ab : Option Addr) (nb cb : Nat) (w : World) :
    Calls Try.prog 86 #[.agg (p.cells v), .slice ab nb cb] w fun e w' => (∃ b1 b2, e = .returned (.func (.func 100) #[] #[.pointer (some ⟨b1, 0, none⟩), .pointer (some ⟨b2, 0, none⟩)]) ∧ Box w' b1 (p.cells v) ∧ Box w' b2 #[.slice ab nb cb] ∧ w.heap.size ≤ b1 ∧ w.heap.size ≤ b2) ∧ Below w.heap.size w w' := by
  go_enter Try.func86, Try.ntmps86
  go_upto_region 1 with (fail)
  refine name2 ?_
  intro w0 b2 b3 B0
  go_wp2
  go_ret
  exact ⟨⟨_, _, rfl, b2, b3, Nat.le_refl _, by omega⟩, B0⟩
end Go.Proofs.Ytiiljecocajdpaa
