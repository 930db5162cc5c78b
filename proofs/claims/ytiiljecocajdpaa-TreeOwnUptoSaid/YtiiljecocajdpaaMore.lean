/- Small laws on worlds, trees and kids. -/
import Derived.Test.YtiiljecocajdpaaOpen2
namespace Go.Proofs.Ytiiljecocajdpaa
open Go.RowKit

theorem bOn {w w1 w2 : World} (h1 : Below w.heap.size w w1) (h2 : Below w1.heap.size w1 w2) : Below w.heap.size w w2 := h1.trans (h2.mono h1.size)

theorem TreeIn.setOther {w : World} {p : Pb} {tb pb rb g c : Nat} (h : TreeIn w p tb pb rb g c) {q : Addr} (hq : q.block ≠ tb ∧ q.block ≠ pb ∧ q.block ≠ rb ∧ q.block ≠ g) (v : Value) : TreeIn (w.setCell q v) p tb pb rb g c :=
  ⟨h.tree.setOther hq.1 v, h.prob.setOther hq.2.1 v, h.rate.setOther hq.2.2.1 v, h.win.block (Below.heap_setCell _ _ _ _ (Ne.symm hq.2.2.2)), h.cap⟩
theorem tmod_in {N : Int} (h3 : 3 ≤ N) (h4 : N ≤ 1055) (d : Int) : 0 ≤ (wrap64 (wrap64 (d.tmod (N + 1) + N) + 1)).tmod (N + 1) ∧ (wrap64 (wrap64 (d.tmod (N + 1) + N) + 1)).tmod (N + 1) ≤ N := by
  have h1 : -(N + 1) < d.tmod (N + 1) ∧ d.tmod (N + 1) < N + 1 := by
    refine ⟨?_, Int.tmod_lt_of_pos _ (by omega)⟩
    have := Int.tmod_lt_of_pos (-d) (b := N + 1) (by omega)
    rw [Int.neg_tmod] at this
    omega
  have h2 : wrap64 (wrap64 (d.tmod (N + 1) + N) + 1) = d.tmod (N + 1) + N + 1 := by unfold wrap64; omega
  rw [h2, Int.tmod_eq_emod_of_nonneg (by omega)]
  have := Int.emod_nonneg (d.tmod (N + 1) + N + 1) (b := N + 1) (by omega)
  have := Int.emod_lt_of_pos (d.tmod (N + 1) + N + 1) (b := N + 1) (by omega)
  omega
theorem kid_facts {p : Pb} (k1 : 3 ≤ p.C.K) (k2 : p.C.K ≤ 32) (hN : p.N ≤ 1055) {S D : Int} (s0 : 0 ≤ S) (_s1 : S < 2 ^ (p.C.K.toNat - 1)) (d0 : 0 ≤ D) (d1 : D ≤ p.N) (M : Int) {b : Int} (b0 : 0 ≤ b) (b1 : b < 2) :
    (p.kid ⟨S, D, M⟩ b).d = D + 1 ∧ (p.kid ⟨S, D, M⟩ b).s % 2 = b ∧ (p.kid ⟨S, D, M⟩ b).s.tmod 2 = b := by
  have h : (2 * S + b) % 2 ^ (p.C.K.toNat - 1) % 2 = b := by
    obtain ⟨m, hm⟩ : ∃ m, p.C.K.toNat - 1 = m + 1 := ⟨p.C.K.toNat - 2, by omega⟩
    rw [hm, Int.pow_succ, Int.emod_emod_of_dvd _ (Int.dvd_mul_left _ _)]
    omega
  refine ⟨rfl, h, ?_⟩
  rw [Int.tmod_eq_emod_of_nonneg]
  · exact h
  · exact Int.emod_nonneg _ (by have : (0 : Int) < 2 ^ (p.C.K.toNat - 1) := Int.pow_pos (by decide); omega)
end Go.Proofs.Ytiiljecocajdpaa
