/- The walk of the least and the greatest metric of a table: the document's. -/
import Derived.Test.YtiiljecocajdpaaRange
import Derived.Test.YtiiljecocajdpaaMetric2
namespace Go.Proofs.Ytiiljecocajdpaa
open Go.RowKit

theorem ref10_rated (R : Int) (hR : R = 2 ∨ R = 3) (w : World) : Pure Try.prog 93 #[.int .i64 R] w (.bool true) := by
  rcases hR with rfl | rfl
  all_goals
    go_enter Try.func93, Try.ntmps93
    go_wp2
    go_ret
    exact ⟨rfl, Below.refl _ _⟩
set_option maxRecDepth 5000 in
set_option maxHeartbeats 1000000 in
theorem ref10_Range (t : Tb) (ht : t.Ok) (h0 : tabChk t = 0) (R : Int) (hR : R = 2 ∨ R = 3) (n : Int) (n0 : 0 ≤ n) (n1 : n ≤ 1055) (w : World) :
    Pure Try.prog 73 #[.agg t.cells, .int .i64 R, .int .i64 n] w (.tuple #[.int .i64 (R * n * t.lo), .int .i64 (R * n * t.hi), .int .i64 0]) := by
  obtain ⟨l1, l2⟩ := tabChk_ok h0
  obtain ⟨L, hL⟩ : ∃ L : Nat, t.lev = L := ⟨t.lev.toNat, by omega⟩
  have hLt : t.lev.toNat = L := by omega
  have HL := Lib.hid hL
  have HLt := Lib.hid hLt
  clear hLt
  go_enter Try.func73, Try.ntmps73
  go_upto_region 1 with (fail)
  refine name1 ?_
  intro w0 b3 B0
  obtain ⟨g0, gA, gM⟩ := b3.table ht
  go_wp2_with ((with_reducible apply ld); rfl; (with_reducible assumption); (simp only [List.set_cons_zero, List.set_cons_succ]; rfl))
  refine (ref10_Check t ht _).mono ?_
  rintro e w1 ⟨rfl, B1⟩
  rw [h0]
  clear g0 gA gM
  have b31 := b3.kept B1
  have B10 := B0.trans (B1.mono B0.size)
  go_wp2_with fail
  refine (ref10_rated R hR _).mono ?_
  rintro e w2 ⟨rfl, B2⟩
  have b32 := b31.kept B2
  have B20 := B10.trans (B2.mono B10.size)
  obtain ⟨g0, gA, gM⟩ := b32.table ht
  clear gA gM
  rw [hL] at g0
  have g00 : w2.cell? ⟨w.heap.size, 1, none⟩ = some (.int .i64 (t.m 0 0)) := by rw [b32.cell, show 1 = 1 + 0 * 16 + 0 from rfl, ht.cellm (by omega) (by omega)]
  have hr1 : decide (n < 0) = false := by simp; omega
  have hr2 : decide (1055 < n) = false := by simp; omega
  have hwr : ∀ m : Int, -4096 ≤ m → m ≤ 4096 → wrap64 (R * n * m) = R * n * m := by
    intro m m0 m1
    have := mul_bd n0 n1 m0 m1
    rw [Int.mul_assoc]
    rcases hR with h | h <;> rw [h] <;> unfold wrap64 <;> omega
  have hRn : wrap64 (R * n) = R * n := by rcases hR with h | h <;> rw [h] <;> unfold wrap64 <;> omega
  have HR := Lib.hid hR
  clear hR
  go_wp2_with fail
  go_loop [9, 10, 11, 12] (fun lo hi i _ => ∃ k : Nat, k ≤ 2 ∧ i = .int .i64 k ∧ lo = .int .i64 (t.loK k) ∧ hi = .int .i64 (t.hiK k)) (fun _ _ i _ => 2 - (intOf i).toNat)
  case atStart => exact ⟨0, by omega, rfl, rfl, rfl⟩
  case round =>
    obtain ⟨k, hk, rfl, rfl, rfl⟩ := hrel
    have hlb := t.loK_bd h0 k hk
    have hhb := t.hiK_bd h0 k hk
    have hlo := hwr _ hlb.1 hlb.2
    have hhi := hwr _ hhb.1 hhb.2
    by_cases hkl : k < 2
    · have hk3 : (k : Int) < (2 : Nat) := by omega
      have hk2 : decide ((k : Int) < 2) = true := by simp; omega
      go_wp2_with fail
      go_loop [9, 10, 12] (fun lo hi i => ∃ r : Nat, r ≤ L ∧ i = .int .i64 r ∧ lo = .int .i64 (t.loRow k (t.loK k) r) ∧ hi = .int .i64 (t.hiRow k (t.hiK k) r)) (fun _ _ i => L - (intOf i).toNat)
      case atStart => exact ⟨0, by omega, rfl, rfl, rfl⟩
      case round =>
        obtain ⟨r, hr, rfl, rfl, rfl⟩ := hrel
        by_cases hrl : r < L
        · have hg := b32.cell (1 + k * 16 + r)
          rw [ht.cellm hkl (by omega)] at hg
          have hr3 : (r : Int) < (L : Nat) := by omega
          have hr4 : (r : Int) < 16 := by omega
          have hr5 : decide ((r : Int) < (L : Nat)) = true := by simp; omega
          by_cases c1 : t.m k r < t.loRow k (t.loK k) r
          · by_cases c2 : t.hiRow k (t.hiK k) r < t.m k r
            · have d1 : decide (t.m k r < t.loRow k (t.loK k) r) = true := by simpa using c1
              have d2 : decide (t.hiRow k (t.hiK k) r < t.m k r) = true := by simpa using c2
              have E1 := Lib.hid (show t.m k r = t.loRow k (t.loK k) (r + 1) by simp only [Tb.loRow]; omega)
              have E2 := Lib.hid (show t.m k r = t.hiRow k (t.hiK k) (r + 1) by simp only [Tb.hiRow]; omega)
              clear c1 c2
              go_wp2
              go_round
              case measure => simp only [intOf]; omega
              case rel => exact ⟨r + 1, by omega, by go_num, by rw [← E1.out], by rw [← E2.out]⟩
            · have d1 : decide (t.m k r < t.loRow k (t.loK k) r) = true := by simpa using c1
              have d2 : decide (t.hiRow k (t.hiK k) r < t.m k r) = false := by simpa using c2
              have E1 := Lib.hid (show t.m k r = t.loRow k (t.loK k) (r + 1) by simp only [Tb.loRow]; omega)
              have E2 := Lib.hid (show t.hiRow k (t.hiK k) r = t.hiRow k (t.hiK k) (r + 1) by simp only [Tb.hiRow]; omega)
              clear c1 c2
              go_wp2
              go_round
              case measure => simp only [intOf]; omega
              case rel => exact ⟨r + 1, by omega, by go_num, by rw [← E1.out], by rw [← E2.out]⟩
          · by_cases c2 : t.hiRow k (t.hiK k) r < t.m k r
            · have d1 : decide (t.m k r < t.loRow k (t.loK k) r) = false := by simpa using c1
              have d2 : decide (t.hiRow k (t.hiK k) r < t.m k r) = true := by simpa using c2
              have E1 := Lib.hid (show t.loRow k (t.loK k) r = t.loRow k (t.loK k) (r + 1) by simp only [Tb.loRow]; omega)
              have E2 := Lib.hid (show t.m k r = t.hiRow k (t.hiK k) (r + 1) by simp only [Tb.hiRow]; omega)
              clear c1 c2
              go_wp2
              go_round
              case measure => simp only [intOf]; omega
              case rel => exact ⟨r + 1, by omega, by go_num, by rw [← E1.out], by rw [← E2.out]⟩
            · have d1 : decide (t.m k r < t.loRow k (t.loK k) r) = false := by simpa using c1
              have d2 : decide (t.hiRow k (t.hiK k) r < t.m k r) = false := by simpa using c2
              have E1 := Lib.hid (show t.loRow k (t.loK k) r = t.loRow k (t.loK k) (r + 1) by simp only [Tb.loRow]; omega)
              have E2 := Lib.hid (show t.hiRow k (t.hiK k) r = t.hiRow k (t.hiK k) (r + 1) by simp only [Tb.hiRow]; omega)
              clear c1 c2
              go_wp2
              go_round
              case measure => simp only [intOf]; omega
              case rel => exact ⟨r + 1, by omega, by go_num, by rw [← E1.out], by rw [← E2.out]⟩
        · have H1 : Hid (t.loRow k (t.loK k) r = t.loK (k + 1)) := by
            obtain rfl : r = L := by omega
            show _ = _
            simp only [Tb.loK, HLt.out]
          have H2 : Hid (t.hiRow k (t.hiK k) r = t.hiK (k + 1)) := by
            obtain rfl : r = L := by omega
            show _ = _
            simp only [Tb.hiK, HLt.out]
          go_wp2
          go_roundw
          case measure => simp only [intOf]; omega
          case rel => exact ⟨k + 1, by omega, by go_num, by rw [H1.out], by rw [H2.out]⟩
    · have HK : Hid (k = 2) := by show _ = _; omega
      go_wp2
      refine bodyPost_ret (results_tmp3 rfl rfl rfl rfl) rfl ?_
      refine ⟨?_, B20⟩
      have e := HK.out
      subst e
      rfl
end Go.Proofs.Ytiiljecocajdpaa
