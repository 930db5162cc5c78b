/- The walk of the statement on the two Floors. -/
import Derived.Test.YtiiljecocajdpaaDip2
import Derived.Test.YtiiljecocajdpaaQuietG
namespace Go.Proofs.Ytiiljecocajdpaa
open Go.RowKit

def flr (a d : Int) : Int := if a.tmod d < 0 then wrap64 (a.tdiv d - 1) else a.tdiv d

theorem tdiv_bd (a d : Int) (hd : 1 ≤ d) (a0 : -9223372036854775808 ≤ a) (a1 : a ≤ 9223372036854775807) : -9223372036854775808 ≤ a.tdiv d ∧ a.tdiv d ≤ 9223372036854775807 := by
  have h1 := Int.natAbs_tdiv_le_natAbs a d
  rcases Int.le_total 0 a with h | h
  · have h2 := Int.tdiv_nonneg h (by omega : 0 ≤ d)
    omega
  · have h2 := Int.tdiv_nonneg (by omega : 0 ≤ -a) (by omega : 0 ≤ d)
    rw [Int.neg_tdiv] at h2
    omega

def flrCell (a d : Int) : Value := .tuple #[.int .i64 (if d < 1 then 0 else flr a d), .int .i64 (if d < 1 then 140 else 0)]

theorem flrCell_neg {a d : Int} (hd : 1 ≤ d) (h : a.tmod d < 0) : flrCell a d = .tuple #[.int .i64 (wrap64 (a.tdiv d - 1)), .int .i64 0] := by
  unfold flrCell flr
  rw [if_neg (show ¬d < 1 by omega), if_neg (show ¬d < 1 by omega), if_pos h]
theorem flrCell_pos {a d : Int} (hd : 1 ≤ d) (h : 0 ≤ a.tmod d) : flrCell a d = .tuple #[.int .i64 (a.tdiv d), .int .i64 0] := by
  unfold flrCell flr
  rw [if_neg (show ¬d < 1 by omega), if_neg (show ¬d < 1 by omega), if_neg (show ¬a.tmod d < 0 by omega)]
theorem flrCell_bad {a d : Int} (hd : d < 1) : flrCell a d = .tuple #[.int .i64 0, .int .i64 140] := by
  unfold flrCell
  rw [if_pos hd, if_pos hd]
theorem score_Floor (a d : Int) (a0 : -9223372036854775808 ≤ a) (a1 : a ≤ 9223372036854775807) (w : World) : Pure Try.prog 42 #[.int .i64 a, .int .i64 d] w (flrCell a d) := by
  go_enter Try.func42, Try.ntmps42
  by_cases h : d < 1
  · go_wp2
    go_ret2
    exact ⟨by rw [flrCell_bad h]; rfl, Below.refl _ _⟩
  · have hd : d ≠ 0 := by omega
    have hb := tdiv_bd a d (by omega) a0 a1
    by_cases h2 : a.tmod d < 0
    · go_wp2
      go_ret2
      exact ⟨by rw [flrCell_neg (by omega) h2]; rfl, Below.refl _ _⟩
    · go_wp2
      go_ret2
      exact ⟨by rw [flrCell_pos (by omega) (by omega)]; rfl, Below.refl _ _⟩
theorem ref11_Floor (a d : Int) (a0 : -9223372036854775808 ≤ a) (a1 : a ≤ 9223372036854775807) (w : World) : Pure Try.prog 43 #[.int .i64 a, .int .i64 d] w (flrCell a d) := by
  go_enter Try.func43, Try.ntmps43
  by_cases h : d < 1
  · go_wp2
    go_ret2
    exact ⟨by rw [flrCell_bad h]; rfl, Below.refl _ _⟩
  · have hd : d ≠ 0 := by omega
    have hb := tdiv_bd a d (by omega) a0 a1
    by_cases h2 : a.tmod d < 0
    · go_wp2
      go_ret2
      exact ⟨by rw [flrCell_neg (by omega) h2]; rfl, Below.refl _ _⟩
    · go_wp2
      go_ret2
      exact ⟨by rw [flrCell_pos (by omega) (by omega)]; rfl, Below.refl _ _⟩
set_option maxRecDepth 5000 in
set_option maxHeartbeats 1000000 in
theorem law11_ScoreFloors (a : Int) (a0 : -9223372036854775808 ≤ a) (a1 : a ≤ 9223372036854775807) (d : Int) (_d0 : -9223372036854775808 ≤ d) (_d1 : d ≤ 9223372036854775807) (w : World) : Pure Try.prog 7 #[.int .i64 a, .int .i64 d] w (.bool true) := by
  go_enter Try.func7, Try.ntmps7
  go_wp2_with (fail)
  refine (score_Floor a d a0 a1 _).mono ?_
  rintro e w1 ⟨rfl, B1⟩
  by_cases h : d < 1
  · rw [flrCell_bad h]
    go_wp2_with (fail)
    refine (ref11_Floor a d a0 a1 _).mono ?_
    rintro e w2 ⟨rfl, B2⟩
    rw [flrCell_bad h]
    go_wp2_with (fail)
    refine (law11_num _ _).mono ?_
    rintro e w3 ⟨rfl, B3⟩
    go_wp2_with (fail)
    refine (law11_knows _).mono ?_
    rintro e w4 ⟨rfl, B4⟩
    have B40 := bOn (bOn (bOn B1 B2) B3) B4
    go_upto_region 5 with (fail)
    (refine wp_region_kept_tail 31 (by kernel_rfl) (by kernel_rfl) ?_; simp only [List.take_succ_cons, List.take_zero, List.drop_succ_cons, List.drop_zero])
    repeat first
      | go_big_quiet_skip
      | ((with_reducible apply q_ldG); rfl; rfl; (with_reducible assumption); (simp only [List.set_cons_zero, List.set_cons_succ]; rfl))
      | go_big_quiet_step (exact Calls.kept (law11_num _ _))
    refine wpQuiet_nil ?_
    intro w9 B9
    go_wp2
    go_ret
    exact ⟨rfl, bOn B40 B9⟩
  · have hd : d ≠ 0 := by omega
    have hb := tdiv_bd a d (by omega) a0 a1
    obtain ⟨q, hq⟩ : ∃ q, q = flr a d := ⟨_, rfl⟩
    have hc : flrCell a d = .tuple #[.int .i64 q, .int .i64 0] := by
      rw [hq]; unfold flrCell; rw [if_neg h, if_neg h]
    have f1 : wrap64 (a.tdiv d - q) = if a.tmod d < 0 then 1 else 0 := by
      rw [hq]; unfold flr wrap64; split <;> omega
    have f2 : (a.tdiv d == q) = decide (0 ≤ a.tmod d) := by
      rw [hq, Bool.eq_iff_iff]; unfold flr wrap64; simp only [beq_iff_eq, decide_eq_true_eq]; split <;> omega
    rw [hc]
    clear hq
    go_wp2_with (fail)
    refine (ref11_Floor a d a0 a1 _).mono ?_
    rintro e w2 ⟨rfl, B2⟩
    rw [hc]
    clear hc
    go_wp2_with (fail)
    refine (law11_num _ _).mono ?_
    rintro e w3 ⟨rfl, B3⟩
    go_wp2_with (fail)
    refine (law11_knows _).mono ?_
    rintro e w4 ⟨rfl, B4⟩
    have B40 := bOn (bOn (bOn B1 B2) B3) B4
    go_upto_region 5 with (fail)
    by_cases h2 : a.tmod d < 0
    · have h3 : decide (0 ≤ a.tmod d) = false := by simp; omega
      rw [if_pos h2] at f1
      rw [h3] at f2
      (refine wp_region_kept_tail 31 (by kernel_rfl) (by kernel_rfl) ?_; simp only [List.take_succ_cons, List.take_zero, List.drop_succ_cons, List.drop_zero])
      repeat first
        | go_big_quiet_skip
        | ((with_reducible apply q_ldG); rfl; rfl; (with_reducible assumption); (simp only [List.set_cons_zero, List.set_cons_succ]; rfl))
        | go_big_quiet_step (exact Calls.kept (law11_num _ _))
      refine wpQuiet_nil ?_
      intro w9 B9
      go_wp2
      go_ret
      exact ⟨rfl, bOn B40 B9⟩
    · have h3 : decide (0 ≤ a.tmod d) = true := by simp; omega
      rw [if_neg h2] at f1
      rw [h3] at f2
      (refine wp_region_kept_tail 31 (by kernel_rfl) (by kernel_rfl) ?_; simp only [List.take_succ_cons, List.take_zero, List.drop_succ_cons, List.drop_zero])
      repeat first
        | go_big_quiet_skip
        | ((with_reducible apply q_ldG); rfl; rfl; (with_reducible assumption); (simp only [List.set_cons_zero, List.set_cons_succ]; rfl))
        | go_big_quiet_step (exact Calls.kept (law11_num _ _))
      refine wpQuiet_nil ?_
      intro w9 B9
      go_wp2
      go_ret
      exact ⟨rfl, bOn B40 B9⟩
end Go.Proofs.Ytiiljecocajdpaa
