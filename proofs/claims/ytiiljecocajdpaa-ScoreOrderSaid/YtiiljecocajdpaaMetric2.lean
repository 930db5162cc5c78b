/- The walk of the document's check of a table. -/
import Derived.Test.YtiiljecocajdpaaMetric
namespace Go.Proofs.Ytiiljecocajdpaa
open Go.RowKit

set_option maxRecDepth 5000 in
set_option maxHeartbeats 1000000 in
theorem ref10_Check (t : Tb) (ht : t.Ok) (w : World) : Pure Try.prog 72 #[.agg t.cells] w (.int .i64 (tabChk t)) := by
  have hb := Box.new w t.cells 29
  obtain ⟨h0, hA, hM⟩ := hb.table ht
  rcases badLev_cases t with ⟨k1, hbad⟩ | ⟨k1, k2, hbad⟩ | ⟨k1, k2, hbad⟩
  · have HF : tabChk t = 100 := by unfold tabChk; rw [hbad]; rfl
    have HH := Lib.hid HF; clear HF hbad hb
    go_enter Try.func72, Try.ntmps72
    go_wp2
    go_ret
    exact ⟨ret_int HH.out.symm, (Below.refl _ _).alloc (Nat.le_refl _) _⟩
  · have HF : tabChk t = 100 := by unfold tabChk; rw [hbad]; rfl
    have HH := Lib.hid HF; clear HF hbad hb
    go_enter Try.func72, Try.ntmps72
    go_wp2
    go_ret
    exact ⟨ret_int HH.out.symm, (Below.refl _ _).alloc (Nat.le_refl _) _⟩
  · have hbd : tabChk t = if (List.range 2).any t.badRow then 100 else 0 := by unfold tabChk; rw [hbad]; rfl
    have HD := Lib.hid hbd; clear hbd hbad
    have HB := Lib.hid hb; clear hb
    go_enter Try.func72, Try.ntmps72
    go_wp2_with fail
    obtain ⟨w1, hw1⟩ : ∃ x, x = w.alloc (.cells t.cells 29) := ⟨_, rfl⟩
    rw [← hw1] at HB h0 ⊢
    have B0 : Below w.heap.size w w1 := by rw [hw1]; exact (Below.refl _ _).alloc (Nat.le_refl _) _
    clear hw1 hA hM
    go_loop [3, 4, 5] (fun i _ _ => ∃ k : Nat, k ≤ 2 ∧ i = .int .i64 k ∧ Hid ((List.range k).any t.badRow = false)) (fun i _ _ => 2 - (intOf i).toNat)
    case atStart => exact ⟨0, by omega, rfl, rfl⟩
    case round =>
      obtain ⟨k, hk, rfl, HY⟩ := hrel
      by_cases hkl : k < 2
      · have hk3 : (k : Int) < (2 : Nat) := by omega
        have hk2 : decide ((k : Int) < 2) = true := by simp; omega
        go_wp2_with fail
        go_loop [4, 5] (fun i _ => ∃ r : Nat, r ≤ 16 ∧ i = .int .i64 r ∧ Hid ((List.range r).any (t.bad k) = false)) (fun i _ => 16 - (intOf i).toNat)
        case atStart => exact ⟨0, by omega, rfl, rfl⟩
        case round =>
          obtain ⟨r, hr, rfl, HZ⟩ := hrel
          by_cases hrl : r < 16
          · have hg : w1.cell? ⟨w.heap.size, 1 + k * 16 + r, none⟩ = some (.int .i64 (t.m k r)) := by rw [HB.out.cell, ht.cellm hkl hrl]
            have hr3 : (r : Int) < (16 : Nat) := by omega
            have hr2 : decide ((r : Int) < 16) = true := by simp; omega
            rcases bad_cases t k r with ⟨hb, c1⟩ | ⟨hb, c1, c2⟩ | ⟨hb, c1, c2, c3, c4⟩ | ⟨hb, c1, c2, c3⟩ | ⟨hb, c1, c2, c3, c4⟩
            iterate 3
              · have HX : tabChk t = 100 := by rw [HD.out, any_range_of hkl (any_range_of hrl hb)]; rfl
                have HH := Lib.hid HX; clear HX hb
                go_wp2
                go_ret
                exact ⟨ret_int HH.out.symm, B0⟩
            all_goals
              have h2 : Hid ((List.range (r + 1)).any (t.bad k) = false) := by show _ = _; rw [any_range_succ, HZ.out, hb]; rfl
              clear hb
              go_wp2
              go_round
              case measure => simp only [intOf]; omega
              case rel => exact ⟨r + 1, by omega, by go_num, h2⟩
          · have h2 : Hid ((List.range (k + 1)).any t.badRow = false) := by
              obtain rfl : r = 16 := by omega
              show _ = _
              rw [any_range_succ, HY.out]
              exact HZ.out
            go_wp2
            go_round
            case measure => simp only [intOf]; omega
            case rel => exact ⟨k + 1, by omega, by go_num, h2⟩
      · have HX : tabChk t = 0 := by
          obtain rfl : k = 2 := by omega
          rw [HD.out, HY.out]; rfl
        have HH := Lib.hid HX; clear HX
        go_wp2
        go_ret
        exact ⟨ret_int HH.out.symm, B0⟩
end Go.Proofs.Ytiiljecocajdpaa
