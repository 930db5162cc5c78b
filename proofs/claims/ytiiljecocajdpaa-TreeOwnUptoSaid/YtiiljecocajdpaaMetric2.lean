import Derived.Test.YtiiljecocajdpaaProb
/- The walks of the checks of a table: the program's and the document's. -/
namespace Go.Proofs.Ytiiljecocajdpaa
open Go.RowKit

theorem badLev_cases (t : Tb) : (t.lev < 2 ∧ t.badLev = true) ∨ (¬ t.lev < 2 ∧ 16 < t.lev ∧ t.badLev = true) ∨ (2 ≤ t.lev ∧ t.lev ≤ 16 ∧ t.badLev = false) := by
  unfold Tb.badLev
  by_cases h1 : t.lev < 2
  · left; simp [h1]
  by_cases h2 : 16 < t.lev
  · right; left; simp [h1, h2]
  · right; right; simp [h1, h2]; omega
theorem any_range_succ (p : Nat → Bool) (k : Nat) : (List.range (k + 1)).any p = ((List.range k).any p || p k) := by
  rw [List.range_succ, List.any_append]
  simp
theorem any_range_of {p : Nat → Bool} {k n : Nat} (h : k < n) (hp : p k = true) : (List.range n).any p = true := List.any_eq_true.2 ⟨k, by simpa using h, hp⟩
/-- The ways through the test of one entry. -/
theorem bad_cases (t : Tb) (b r : Nat) : (t.bad b r = true ∧ t.m b r < -4096) ∨ (t.bad b r = true ∧ -4096 ≤ t.m b r ∧ 4096 < t.m b r) ∨ (t.bad b r = true ∧ -4096 ≤ t.m b r ∧ t.m b r ≤ 4096 ∧ t.lev ≤ (r : Int) ∧ (t.m b r != 0) = true) ∨
    (t.bad b r = false ∧ -4096 ≤ t.m b r ∧ t.m b r ≤ 4096 ∧ ¬ t.lev ≤ (r : Int)) ∨ (t.bad b r = false ∧ -4096 ≤ t.m b r ∧ t.m b r ≤ 4096 ∧ t.lev ≤ (r : Int) ∧ (t.m b r != 0) = false) := by
  unfold Tb.bad
  by_cases h1 : t.m b r < -4096
  · left; simp [h1]
  by_cases h2 : 4096 < t.m b r
  · right; left; simp [h1, h2]; omega
  by_cases h3 : t.lev ≤ (r : Int)
  · cases h4 : (t.m b r != 0)
    · right; right; right; right; refine ⟨by simp [h1, h2, h3, h4], by omega, by omega, h3, rfl⟩
    · right; right; left; refine ⟨by simp [h1, h2, h3, h4], by omega, by omega, h3, rfl⟩
  · right; right; right; left; refine ⟨by simp [h1, h2, h3], by omega, by omega, h3⟩

set_option maxRecDepth 5000 in
set_option maxHeartbeats 1000000 in
theorem metric_Check (t : Tb) (ht : t.Ok) (w : World) : Pure Try.prog 70 #[.agg t.cells] w (.int .i64 (tabChk t)) := by
  have hb := Box.new w t.cells 29
  obtain ⟨h0, hA, hM⟩ := hb.table ht
  rcases badLev_cases t with ⟨k1, hbad⟩ | ⟨k1, k2, hbad⟩ | ⟨k1, k2, hbad⟩
  · have HF : tabChk t = 100 := by unfold tabChk; rw [hbad]; rfl
    have HH := Lib.hid HF; clear HF hbad hb
    go_enter Try.func70, Try.ntmps70
    go_wp2
    go_ret
    exact ⟨ret_int HH.out.symm, (Below.refl _ _).alloc (Nat.le_refl _) _⟩
  · have HF : tabChk t = 100 := by unfold tabChk; rw [hbad]; rfl
    have HH := Lib.hid HF; clear HF hbad hb
    go_enter Try.func70, Try.ntmps70
    go_wp2
    go_ret
    exact ⟨ret_int HH.out.symm, (Below.refl _ _).alloc (Nat.le_refl _) _⟩
  · have hbd : tabChk t = if (List.range 2).any t.badRow then 100 else 0 := by unfold tabChk; rw [hbad]; rfl
    have HD := Lib.hid hbd; clear hbd hbad
    have HB := Lib.hid hb; clear hb
    go_enter Try.func70, Try.ntmps70
    go_wp2_with ((with_reducible apply ld); rfl; (with_reducible assumption); (simp only [List.set_cons_zero, List.set_cons_succ]; rfl))
    obtain ⟨w1, hw1⟩ : ∃ x, x = w.alloc (.cells t.cells 29) := ⟨_, rfl⟩
    rw [← hw1] at HB h0 hA hM ⊢
    have B0 : Below w.heap.size w w1 := by rw [hw1]; exact (Below.refl _ _).alloc (Nat.le_refl _) _
    clear hw1
    go_loopw [4, 17] (fun _ i wr => ∃ k : Nat, k ≤ 2 ∧ i = .int .i64 k ∧ Hid ((List.range k).any t.badRow = false) ∧ Below w1.heap.size w1 wr) (fun _ i _ => 2 - (intOf i).toNat)
    case atStart => exact ⟨0, by omega, rfl, rfl, Below.refl _ _⟩
    case round =>
      obtain ⟨k, hk, rfl, HY, HW⟩ := hrel
      by_cases hkl : k < 2
      · have hk3 : (k : Int) < (2 : Nat) := by omega
        have hk2 : decide ((k : Int) < 2) = true := by simp; omega
        go_wp2_with (first | ((with_reducible apply ixAgg); exact Try.underlying27; infer_instance; rfl; rfl; omega; omega; exact t.row_ex k; (simp only [List.set_cons_zero, List.set_cons_succ]; rfl)) | ((with_reducible apply st); rfl; rfl; exact Box.new _ _ _; rfl; exact ht.row_size hkl; exact t.row_flat k; intro w2 hb2 B2; have hq := hb2.load (off := 0) (n := 16) (by rw [ht.row_size hkl]; omega) (Array.extract_eq_self_of_le (by rw [ht.row_size hkl]; omega))) | ((with_reducible apply ld); rfl; (with_reducible assumption); (simp only [List.set_cons_zero, List.set_cons_succ]; rfl)))
        have B2' : Below w1.heap.size w1 w2 := HW.trans (((Below.refl _ wr).alloc (Nat.le_refl _) _ |>.trans (B2.mono (Nat.le_refl _))).mono HW.size)
        have hlv : w2.cell? ⟨w.heap.size, 0, none⟩ = some (.int .i64 t.lev) := (B2'.cell (lt_of_cell h0)).trans h0
        clear h0 hA hM hq hb2 B2
        obtain ⟨wo, hwo⟩ : ∃ wo : World, wo = wr := ⟨_, rfl⟩
        rw [← hwo]
        clear hwo
        go_loop [5, 6, 21] (fun _ _ i => ∃ r : Nat, r ≤ 16 ∧ i = .int .i64 r ∧ Hid ((List.range r).any (t.bad k) = false)) (fun _ _ i => 16 - (intOf i).toNat)
        case atStart => exact ⟨0, by omega, rfl, rfl⟩
        case round =>
          obtain ⟨r, hr, rfl, HZ⟩ := hrel
          by_cases hrl : r < 16
          · have hg : (t.row k)[r]? = some (.int .i64 (t.m k r)) := ht.row_get hkl hrl
            have hr3 : (r : Int) < (16 : Nat) := by omega
            have hr2 : decide ((r : Int) < 16) = true := by simp; omega
            rcases bad_cases t k r with ⟨hb, c1⟩ | ⟨hb, c1, c2⟩ | ⟨hb, c1, c2, c3, c4⟩ | ⟨hb, c1, c2, c3⟩ | ⟨hb, c1, c2, c3, c4⟩
            iterate 3
              · have HX : tabChk t = 100 := by rw [HD.out, any_range_of hkl (any_range_of hrl hb)]; rfl
                have HH := Lib.hid HX; clear HX hb
                go_wp2_with ((with_reducible apply ixCell); exact Try.underlying26; infer_instance; rfl; rfl; omega; omega; exact hg; (simp only [List.set_cons_zero, List.set_cons_succ]; rfl))
                go_ret
                exact ⟨ret_int HH.out.symm, B0.trans (B2'.mono B0.size)⟩
            all_goals
              have h2 : Hid ((List.range (r + 1)).any (t.bad k) = false) := by show _ = _; rw [any_range_succ, HZ.out, hb]; rfl
              clear hb
              go_wp2_with ((with_reducible apply ixCell); exact Try.underlying26; infer_instance; rfl; rfl; omega; omega; exact hg; (simp only [List.set_cons_zero, List.set_cons_succ]; rfl))
              go_round
              case measure => simp only [intOf]; omega
              case rel => exact ⟨r + 1, by omega, by go_num, h2⟩
          · have h2 : Hid ((List.range (k + 1)).any t.badRow = false) := by
              obtain rfl : r = 16 := by omega
              show _ = _
              rw [any_range_succ, HY.out]
              exact HZ.out
            go_wp2
            go_roundw
            case measure => simp only [intOf]; omega
            case rel => exact ⟨k + 1, by omega, by go_num, h2, B2'⟩
      · have HX : tabChk t = 0 := by
          obtain rfl : k = 2 := by omega
          rw [HD.out, HY.out]; rfl
        have HH := Lib.hid HX; clear HX
        go_wp2
        go_ret
        exact ⟨ret_int HH.out.symm, B0.trans (HW.mono B0.size)⟩
end Go.Proofs.Ytiiljecocajdpaa
/- The walk of the document's check of a table. -/
namespace Go.Proofs.Ytiiljecocajdpaa
open Go.RowKit

set_option maxRecDepth 5000 in
set_option maxHeartbeats 1000000 in
theorem ref10_Check (t : Tb) (ht : t.Ok) (w : World) : Pure Try.prog 72 #[.agg t.cells] w (.int .i64 (tabChk t)) := by
  have hb := Box.new w t.cells 29
  obtain ⟨h0, hA, hM⟩ := hb.table ht
  rcases badLev_cases t with ⟨k1, hbad⟩ | ⟨k1, k2, hbad⟩ | ⟨k1, k2, hbad⟩
  · have HF : tabChk t = 100 := by unfold tabChk; rw [hbad]; rfl
    have HH := Lib.hid HF; clear HF hbad hb
    go_enter Try.func72, Try.ntmps72
    go_wp2
    go_ret
    exact ⟨ret_int HH.out.symm, (Below.refl _ _).alloc (Nat.le_refl _) _⟩
  · have HF : tabChk t = 100 := by unfold tabChk; rw [hbad]; rfl
    have HH := Lib.hid HF; clear HF hbad hb
    go_enter Try.func72, Try.ntmps72
    go_wp2
    go_ret
    exact ⟨ret_int HH.out.symm, (Below.refl _ _).alloc (Nat.le_refl _) _⟩
  · have hbd : tabChk t = if (List.range 2).any t.badRow then 100 else 0 := by unfold tabChk; rw [hbad]; rfl
    have HD := Lib.hid hbd; clear hbd hbad
    have HB := Lib.hid hb; clear hb
    go_enter Try.func72, Try.ntmps72
    go_wp2_with fail
    obtain ⟨w1, hw1⟩ : ∃ x, x = w.alloc (.cells t.cells 29) := ⟨_, rfl⟩
    rw [← hw1] at HB h0 ⊢
    have B0 : Below w.heap.size w w1 := by rw [hw1]; exact (Below.refl _ _).alloc (Nat.le_refl _) _
    clear hw1 hA hM
    go_loop [3, 4, 5] (fun i _ _ => ∃ k : Nat, k ≤ 2 ∧ i = .int .i64 k ∧ Hid ((List.range k).any t.badRow = false)) (fun i _ _ => 2 - (intOf i).toNat)
    case atStart => exact ⟨0, by omega, rfl, rfl⟩
    case round =>
      obtain ⟨k, hk, rfl, HY⟩ := hrel
      by_cases hkl : k < 2
      · have hk3 : (k : Int) < (2 : Nat) := by omega
        have hk2 : decide ((k : Int) < 2) = true := by simp; omega
        go_wp2_with fail
        go_loop [4, 5] (fun i _ => ∃ r : Nat, r ≤ 16 ∧ i = .int .i64 r ∧ Hid ((List.range r).any (t.bad k) = false)) (fun i _ => 16 - (intOf i).toNat)
        case atStart => exact ⟨0, by omega, rfl, rfl⟩
        case round =>
          obtain ⟨r, hr, rfl, HZ⟩ := hrel
          by_cases hrl : r < 16
          · have hg : w1.cell? ⟨w.heap.size, 1 + k * 16 + r, none⟩ = some (.int .i64 (t.m k r)) := by rw [HB.out.cell, ht.cellm hkl hrl]
            have hr3 : (r : Int) < (16 : Nat) := by omega
            have hr2 : decide ((r : Int) < 16) = true := by simp; omega
            rcases bad_cases t k r with ⟨hb, c1⟩ | ⟨hb, c1, c2⟩ | ⟨hb, c1, c2, c3, c4⟩ | ⟨hb, c1, c2, c3⟩ | ⟨hb, c1, c2, c3, c4⟩
            iterate 3
              · have HX : tabChk t = 100 := by rw [HD.out, any_range_of hkl (any_range_of hrl hb)]; rfl
                have HH := Lib.hid HX; clear HX hb
                go_wp2
                go_ret
                exact ⟨ret_int HH.out.symm, B0⟩
            all_goals
              have h2 : Hid ((List.range (r + 1)).any (t.bad k) = false) := by show _ = _; rw [any_range_succ, HZ.out, hb]; rfl
              clear hb
              go_wp2
              go_round
              case measure => simp only [intOf]; omega
              case rel => exact ⟨r + 1, by omega, by go_num, h2⟩
          · have h2 : Hid ((List.range (k + 1)).any t.badRow = false) := by
              obtain rfl : r = 16 := by omega
              show _ = _
              rw [any_range_succ, HY.out]
              exact HZ.out
            go_wp2
            go_round
            case measure => simp only [intOf]; omega
            case rel => exact ⟨k + 1, by omega, by go_num, h2⟩
      · have HX : tabChk t = 0 := by
          obtain rfl : k = 2 := by omega
          rw [HD.out, HY.out]; rfl
        have HH := Lib.hid HX; clear HX
        go_wp2
        go_ret
        exact ⟨ret_int HH.out.symm, B0⟩
end Go.Proofs.Ytiiljecocajdpaa
