/- The walks of the checks of a code: the program's and the document's. -/
import Derived.Test.YtiiljecocajdpaaProb
import Derived.Test.YtiiljecocajdpaaArith
import Derived.Test.YtiiljecocajdpaaArith2
namespace Go.Proofs.Ytiiljecocajdpaa
open Go.RowKit

/-- What 'used' hands back: a slice of a copy of the code. -/
def UsedPost (c : Cd) (w : World) (e : Ending) (w' : World) : Prop := ∃ b, e = .returned (.slice (some ⟨b, 2, none⟩) c.used.length 3) ∧ w.heap.size ≤ b ∧ Box w' b c.cells ∧ Below w.heap.size w w'
theorem code_used (c : Cd) (w : World) : Calls Try.prog 90 #[.agg c.cells] w (UsedPost c w) := by
  obtain ⟨h0, h1, h2, hA⟩ := (Box.new w c.cells 25).code
  have hl := c.used_len
  by_cases hr : c.R = 2
  · have hb : (c.R == 2) = true := by simp [hr]
    rw [if_pos hr] at hl
    clear hr
    go_enter Try.func90, Try.ntmps90
    go_wp2
    go_ret
    exact ⟨_, by rw [hl]; rfl, Nat.le_refl _, Box.new _ _ _, (Below.refl _ _).alloc (Nat.le_refl _) _⟩
  · have hb : (c.R == 2) = false := by simp [hr]
    rw [if_neg hr] at hl
    clear hr
    go_enter Try.func90, Try.ntmps90
    go_wp2
    go_ret
    exact ⟨_, by rw [hl]; rfl, Nat.le_refl _, Box.new _ _ _, (Below.refl _ _).alloc (Nat.le_refl _) _⟩

set_option maxHeartbeats 400000 in
theorem code_Common (c : Cd) (hc : c.Ok) (w : World) : Pure Try.prog 91 #[.agg c.cells] w (.int .u64 c.common) := by
  have hb := Box.new w c.cells 25
  obtain ⟨h0, h1, h2, hA⟩ := hb.code
  have HB := Lib.hid hb; clear hb
  go_enter Try.func91, Try.ntmps91
  go_wp2_with ((with_reducible apply ld); rfl; (with_reducible assumption); (simp only [List.set_cons_zero, List.set_cons_succ]; rfl))
  refine (code_used c _).mono ?_
  rintro e w1 ⟨b, rfl, hle1, hb2, B1⟩
  have hlt := hb2.lt
  have B0 : Below w.heap.size w w1 := (((Below.refl _ w).alloc (Nat.le_refl _) _).trans (B1.mono (by simp)))
  have hle := c.used_le
  clear h0 h1 h2 hA
  go_wp2_with fail
  go_loopw [3, 5, 9] (fun g x i wr => ∃ (k n : Nat), k ≤ c.used.length ∧ i = .int .i64 k ∧ g = .int .u64 n ∧ (n : Int) < W64 ∧ Hid ((c.used.drop k).foldl pgcd n = c.common) ∧ Below w1.heap.size w1 wr) (fun _ _ i _ => c.used.length - (intOf i).toNat)
  case atStart => exact ⟨0, 0, by omega, rfl, rfl, by decide, rfl, Below.refl _ _⟩
  case round =>
    obtain ⟨k, n, hk, rfl, rfl, hn, HF, HW⟩ := hrel
    by_cases hkl : k < c.used.length
    · have hcell : wr.cell? ⟨b, 2 + k, none⟩ = some (.int .u32 (c.g k)) := by
        rw [(hb2.below HW hlt).cell, c.cellg (by omega)]
      have g0 := hc.g0 k
      have g1 := hc.g1 k
      have gw : c.g k < W64 := by unfold W64; omega
      have hf := HF.out
      rw [List.drop_eq_getElem_cons hkl, List.foldl_cons, c.used_get hkl] at hf
      have hlt3 : pgcd n (c.g k).toNat < W64 := pgcd_W64 (by omega) (by omega)
      have HF2 := Lib.hid hf; clear hf
      go_wp2_with fail
      refine (poly_Gcd n (c.g k) (by omega) hn g0 gw _).mono ?_
      rintro e w2 ⟨rfl, B2⟩
      go_wp2
      go_roundw
      case measure => simp only [intOf]; omega
      case rel => exact ⟨k + 1, _, by omega, by go_num, rfl, by omega, HF2.out, HW.trans (B2.mono HW.size)⟩
    · go_wp2
      go_ret
      refine ⟨ret_int ?_, B0.trans (HW.mono B0.size)⟩
      have hf := HF.out
      rw [List.drop_of_length_le (by omega)] at hf
      rw [← hf]
      rfl
end Go.Proofs.Ytiiljecocajdpaa
