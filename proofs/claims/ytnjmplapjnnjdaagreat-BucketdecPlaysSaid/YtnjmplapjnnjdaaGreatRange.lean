import Derived.Test.YtnjmplapjnnjdaaGreatProb
import Derived.Test.YtnjmplapjnnjdaaGreatTrel3
set_option linter.unusedSimpArgs false
set_option linter.unusedVariables false
set_option linter.unnecessarySimpa false
/- The walks of the checks of a table: the program's and the document's. -/
namespace Go.Proofs.YtnjmplapjnnjdaaGreat
open Go.RowKit

theorem badLev_cases (t : Tb) : (t.lev < 2 ∧ t.badLev = true) ∨ (¬ t.lev < 2 ∧ 16 < t.lev ∧ t.badLev = true) ∨ (2 ≤ t.lev ∧ t.lev ≤ 16 ∧ t.badLev = false) := by
  unfold Tb.badLev
  by_cases h1 : t.lev < 2
  · left; simp [h1]
  by_cases h2 : 16 < t.lev
  · right; left; simp [h1, h2]
  · right; right; simp [h1, h2]; omega
theorem any_range_succ (p : Nat → Bool) (k : Nat) : (List.range (k + 1)).any p = ((List.range k).any p || p k) := by
  rw [List.range_succ, List.any_append]
  simp
theorem any_range_of {p : Nat → Bool} {k n : Nat} (h : k < n) (hp : p k = true) : (List.range n).any p = true := List.any_eq_true.2 ⟨k, by simpa using h, hp⟩
/-- The ways through the test of one entry. -/
theorem bad_cases (t : Tb) (b r : Nat) : (t.bad b r = true ∧ t.m b r < -4096) ∨ (t.bad b r = true ∧ -4096 ≤ t.m b r ∧ 4096 < t.m b r) ∨ (t.bad b r = true ∧ -4096 ≤ t.m b r ∧ t.m b r ≤ 4096 ∧ t.lev ≤ (r : Int) ∧ (t.m b r != 0) = true) ∨
    (t.bad b r = false ∧ -4096 ≤ t.m b r ∧ t.m b r ≤ 4096 ∧ ¬ t.lev ≤ (r : Int)) ∨ (t.bad b r = false ∧ -4096 ≤ t.m b r ∧ t.m b r ≤ 4096 ∧ t.lev ≤ (r : Int) ∧ (t.m b r != 0) = false) := by
  unfold Tb.bad
  by_cases h1 : t.m b r < -4096
  · left; simp [h1]
  by_cases h2 : 4096 < t.m b r
  · right; left; simp [h1, h2]; omega
  by_cases h3 : t.lev ≤ (r : Int)
  · cases h4 : (t.m b r != 0)
    · right; right; right; right; refine ⟨by simp [h1, h2, h3, h4], by omega, by omega, h3, rfl⟩
    · right; right; left; refine ⟨by simp [h1, h2, h3, h4], by omega, by omega, h3, rfl⟩
  · right; right; right; left; refine ⟨by simp [h1, h2, h3], by omega, by omega, h3⟩

set_option maxRecDepth 5000 in
set_option maxHeartbeats 1000000 in
theorem metric_Check (t : Tb) (ht : t.Ok) (w : World) : Pure Tryz.prog 58 #[.agg t.cells] w (.int .i64 (tabChk t)) := by
  have hb := Box.new w t.cells 29
  obtain ⟨h0, hA, hM⟩ := hb.table ht
  rcases badLev_cases t with ⟨k1, hbad⟩ | ⟨k1, k2, hbad⟩ | ⟨k1, k2, hbad⟩
  · have HF : tabChk t = 100 := by unfold tabChk; rw [hbad]; rfl
    have HH := Lib.hid HF; clear HF hbad hb
    go_enter Tryz.func58, Tryz.ntmps58
    go_wp2
    go_ret
    exact ⟨ret_int HH.out.symm, (Below.refl _ _).alloc (Nat.le_refl _) _⟩
  · have HF : tabChk t = 100 := by unfold tabChk; rw [hbad]; rfl
    have HH := Lib.hid HF; clear HF hbad hb
    go_enter Tryz.func58, Tryz.ntmps58
    go_wp2
    go_ret
    exact ⟨ret_int HH.out.symm, (Below.refl _ _).alloc (Nat.le_refl _) _⟩
  · have hbd : tabChk t = if (List.range 2).any t.badRow then 100 else 0 := by unfold tabChk; rw [hbad]; rfl
    have HD := Lib.hid hbd; clear hbd hbad
    have HB := Lib.hid hb; clear hb
    go_enter Tryz.func58, Tryz.ntmps58
    go_wp2_with ((with_reducible apply ld); rfl; (with_reducible assumption); (simp only [List.set_cons_zero, List.set_cons_succ]; rfl))
    obtain ⟨w1, hw1⟩ : ∃ x, x = w.alloc (.cells t.cells 29) := ⟨_, rfl⟩
    rw [← hw1] at HB h0 hA hM ⊢
    have B0 : Below w.heap.size w w1 := by rw [hw1]; exact (Below.refl _ _).alloc (Nat.le_refl _) _
    clear hw1
    go_loopw [4, 17] (fun _ i wr => ∃ k : Nat, k ≤ 2 ∧ i = .int .i64 k ∧ Hid ((List.range k).any t.badRow = false) ∧ Below w1.heap.size w1 wr) (fun _ i _ => 2 - (intOf i).toNat)
    case atStart => exact ⟨0, by omega, rfl, rfl, Below.refl _ _⟩
    case round =>
      obtain ⟨k, hk, rfl, HY, HW⟩ := hrel
      by_cases hkl : k < 2
      · have hk3 : (k : Int) < (2 : Nat) := by omega
        have hk2 : decide ((k : Int) < 2) = true := by simp; omega
        go_wp2_with (first | ((with_reducible apply ixAgg); exact Tryz.underlying27; infer_instance; rfl; rfl; omega; omega; exact t.row_ex k; (simp only [List.set_cons_zero, List.set_cons_succ]; rfl)) | ((with_reducible apply st); rfl; rfl; exact Box.new _ _ _; rfl; exact ht.row_size hkl; exact t.row_flat k; intro w2 hb2 B2; have hq := hb2.load (off := 0) (n := 16) (by rw [ht.row_size hkl]; omega) (Array.extract_eq_self_of_le (by rw [ht.row_size hkl]; omega))) | ((with_reducible apply ld); rfl; (with_reducible assumption); (simp only [List.set_cons_zero, List.set_cons_succ]; rfl)))
        have B2' : Below w1.heap.size w1 w2 := HW.trans (((Below.refl _ wr).alloc (Nat.le_refl _) _ |>.trans (B2.mono (Nat.le_refl _))).mono HW.size)
        have hlv : w2.cell? ⟨w.heap.size, 0, none⟩ = some (.int .i64 t.lev) := (B2'.cell (lt_of_cell h0)).trans h0
        clear h0 hA hM hq hb2 B2
        obtain ⟨wo, hwo⟩ : ∃ wo : World, wo = wr := ⟨_, rfl⟩
        rw [← hwo]
        clear hwo
        go_loop [5, 6, 21] (fun _ _ i => ∃ r : Nat, r ≤ 16 ∧ i = .int .i64 r ∧ Hid ((List.range r).any (t.bad k) = false)) (fun _ _ i => 16 - (intOf i).toNat)
        case atStart => exact ⟨0, by omega, rfl, rfl⟩
        case round =>
          obtain ⟨r, hr, rfl, HZ⟩ := hrel
          by_cases hrl : r < 16
          · have hg : (t.row k)[r]? = some (.int .i64 (t.m k r)) := ht.row_get hkl hrl
            have hr3 : (r : Int) < (16 : Nat) := by omega
            have hr2 : decide ((r : Int) < 16) = true := by simp; omega
            rcases bad_cases t k r with ⟨hb, c1⟩ | ⟨hb, c1, c2⟩ | ⟨hb, c1, c2, c3, c4⟩ | ⟨hb, c1, c2, c3⟩ | ⟨hb, c1, c2, c3, c4⟩
            iterate 3
              · have HX : tabChk t = 100 := by rw [HD.out, any_range_of hkl (any_range_of hrl hb)]; rfl
                have HH := Lib.hid HX; clear HX hb
                go_wp2_with ((with_reducible apply ixCell); exact Tryz.underlying26; infer_instance; rfl; rfl; omega; omega; exact hg; (simp only [List.set_cons_zero, List.set_cons_succ]; rfl))
                go_ret
                exact ⟨ret_int HH.out.symm, B0.trans (B2'.mono B0.size)⟩
            all_goals
              have h2 : Hid ((List.range (r + 1)).any (t.bad k) = false) := by show _ = _; rw [any_range_succ, HZ.out, hb]; rfl
              clear hb
              go_wp2_with ((with_reducible apply ixCell); exact Tryz.underlying26; infer_instance; rfl; rfl; omega; omega; exact hg; (simp only [List.set_cons_zero, List.set_cons_succ]; rfl))
              go_round
              case measure => simp only [intOf]; omega
              case rel => exact ⟨r + 1, by omega, by go_num, h2⟩
          · have h2 : Hid ((List.range (k + 1)).any t.badRow = false) := by
              obtain rfl : r = 16 := by omega
              show _ = _
              rw [any_range_succ, HY.out]
              exact HZ.out
            go_wp2
            go_roundw
            case measure => simp only [intOf]; omega
            case rel => exact ⟨k + 1, by omega, by go_num, h2, B2'⟩
      · have HX : tabChk t = 0 := by
          obtain rfl : k = 2 := by omega
          rw [HD.out, HY.out]; rfl
        have HH := Lib.hid HX; clear HX
        go_wp2
        go_ret
        exact ⟨ret_int HH.out.symm, B0.trans (HW.mono B0.size)⟩
end Go.Proofs.YtnjmplapjnnjdaaGreat
/- The walk of the document's check of a table. -/
namespace Go.Proofs.YtnjmplapjnnjdaaGreat
open Go.RowKit

set_option maxRecDepth 5000 in
set_option maxHeartbeats 1000000 in
theorem ref10_Check (t : Tb) (ht : t.Ok) (w : World) : Pure Tryz.prog 66 #[.agg t.cells] w (.int .i64 (tabChk t)) := by
  have hb := Box.new w t.cells 29
  obtain ⟨h0, hA, hM⟩ := hb.table ht
  rcases badLev_cases t with ⟨k1, hbad⟩ | ⟨k1, k2, hbad⟩ | ⟨k1, k2, hbad⟩
  · have HF : tabChk t = 100 := by unfold tabChk; rw [hbad]; rfl
    have HH := Lib.hid HF; clear HF hbad hb
    go_enter Tryz.func66, Tryz.ntmps66
    go_wp2
    go_ret
    exact ⟨ret_int HH.out.symm, (Below.refl _ _).alloc (Nat.le_refl _) _⟩
  · have HF : tabChk t = 100 := by unfold tabChk; rw [hbad]; rfl
    have HH := Lib.hid HF; clear HF hbad hb
    go_enter Tryz.func66, Tryz.ntmps66
    go_wp2
    go_ret
    exact ⟨ret_int HH.out.symm, (Below.refl _ _).alloc (Nat.le_refl _) _⟩
  · have hbd : tabChk t = if (List.range 2).any t.badRow then 100 else 0 := by unfold tabChk; rw [hbad]; rfl
    have HD := Lib.hid hbd; clear hbd hbad
    have HB := Lib.hid hb; clear hb
    go_enter Tryz.func66, Tryz.ntmps66
    go_wp2_with fail
    obtain ⟨w1, hw1⟩ : ∃ x, x = w.alloc (.cells t.cells 29) := ⟨_, rfl⟩
    rw [← hw1] at HB h0 ⊢
    have B0 : Below w.heap.size w w1 := by rw [hw1]; exact (Below.refl _ _).alloc (Nat.le_refl _) _
    clear hw1 hA hM
    go_loop [3, 4, 5] (fun i _ _ => ∃ k : Nat, k ≤ 2 ∧ i = .int .i64 k ∧ Hid ((List.range k).any t.badRow = false)) (fun i _ _ => 2 - (intOf i).toNat)
    case atStart => exact ⟨0, by omega, rfl, rfl⟩
    case round =>
      obtain ⟨k, hk, rfl, HY⟩ := hrel
      by_cases hkl : k < 2
      · have hk3 : (k : Int) < (2 : Nat) := by omega
        have hk2 : decide ((k : Int) < 2) = true := by simp; omega
        go_wp2_with fail
        go_loop [4, 5] (fun i _ => ∃ r : Nat, r ≤ 16 ∧ i = .int .i64 r ∧ Hid ((List.range r).any (t.bad k) = false)) (fun i _ => 16 - (intOf i).toNat)
        case atStart => exact ⟨0, by omega, rfl, rfl⟩
        case round =>
          obtain ⟨r, hr, rfl, HZ⟩ := hrel
          by_cases hrl : r < 16
          · have hg : w1.cell? ⟨w.heap.size, 1 + k * 16 + r, none⟩ = some (.int .i64 (t.m k r)) := by rw [HB.out.cell, ht.cellm hkl hrl]
            have hr3 : (r : Int) < (16 : Nat) := by omega
            have hr2 : decide ((r : Int) < 16) = true := by simp; omega
            rcases bad_cases t k r with ⟨hb, c1⟩ | ⟨hb, c1, c2⟩ | ⟨hb, c1, c2, c3, c4⟩ | ⟨hb, c1, c2, c3⟩ | ⟨hb, c1, c2, c3, c4⟩
            iterate 3
              · have HX : tabChk t = 100 := by rw [HD.out, any_range_of hkl (any_range_of hrl hb)]; rfl
                have HH := Lib.hid HX; clear HX hb
                go_wp2
                go_ret
                exact ⟨ret_int HH.out.symm, B0⟩
            all_goals
              have h2 : Hid ((List.range (r + 1)).any (t.bad k) = false) := by show _ = _; rw [any_range_succ, HZ.out, hb]; rfl
              clear hb
              go_wp2
              go_round
              case measure => simp only [intOf]; omega
              case rel => exact ⟨r + 1, by omega, by go_num, h2⟩
          · have h2 : Hid ((List.range (k + 1)).any t.badRow = false) := by
              obtain rfl : r = 16 := by omega
              show _ = _
              rw [any_range_succ, HY.out]
              exact HZ.out
            go_wp2
            go_round
            case measure => simp only [intOf]; omega
            case rel => exact ⟨k + 1, by omega, by go_num, h2⟩
      · have HX : tabChk t = 0 := by
          obtain rfl : k = 2 := by omega
          rw [HD.out, HY.out]; rfl
        have HH := Lib.hid HX; clear HX
        go_wp2
        go_ret
        exact ⟨ret_int HH.out.symm, B0⟩
end Go.Proofs.YtnjmplapjnnjdaaGreat

/- The walks of a step's metric: the program's. -/
namespace Go.Proofs.YtnjmplapjnnjdaaGreat
open Go.RowKit

/-- Three symbols. -/
def ya (y : Nat → Nat) : Array Value := #[.int .u8 ((y 0 : Nat) : Int), .int .u8 ((y 1 : Nat) : Int), .int .u8 ((y 2 : Nat) : Int)]
theorem ya_get (y : Nat → Nat) {j : Nat} (h : j < 3) : (ya y)[j]? = some (.int .u8 ((y j : Nat) : Int)) := by
  match j, h with
  | 0, _ => rfl
  | 1, _ => rfl
  | 2, _ => rfl
theorem ya_size (y : Nat → Nat) : (ya y).size = 3 := rfl
/-- The symbols of a register as a function. -/
def Cd.y (c : Cd) (v : Nat) (j : Nat) : Nat := if j < c.R.toNat then c.sy v j else 0
theorem Cd.y_lt (c : Cd) (v j : Nat) : c.y v j < 2 := by
  unfold Cd.y
  split
  · exact par_lt _
  · decide
/-- The metric of the first k symbols of a step. -/
def brS (t : Tb) (y : Nat → Nat) (ls : List Nat) : Nat → Int
  | 0 => 0
  | k + 1 => brS t y ls k + t.m (y k) (ls.getD k 0)
theorem tabChk_m {t : Tb} (h : tabChk t = 0) {b r : Nat} (hb : b < 2) (hr : r < 16) : -4096 ≤ t.m b r ∧ t.m b r ≤ 4096 := by
  unfold tabChk at h
  cases h1 : t.badLev
  · rw [h1] at h
    cases h2 : (List.range 2).any t.badRow
    · have h3 := List.any_eq_false.1 h2 b (by simpa using hb)
      unfold Tb.badRow at h3
      simp at h3
      have h4 := h3 r hr
      simp [Tb.bad] at h4
      omega
    · rw [h2] at h; simp at h
  · rw [h1] at h; simp at h
theorem brS_bd {t : Tb} (h : tabChk t = 0) {y : Nat → Nat} {ls : List Nat} (hy : ∀ j, y j < 2) (hl : ∀ x ∈ ls, x < 16) : ∀ k : Nat, -4096 * (k : Int) ≤ brS t y ls k ∧ brS t y ls k ≤ 4096 * (k : Int)
  | 0 => by simp [brS]
  | k + 1 => by
    have ih := brS_bd h hy hl k
    have h16 : ls.getD k 0 < 16 := by
      by_cases hk : k < ls.length
      · simp [List.getD, List.getElem?_eq_getElem hk]; exact hl _ (List.getElem_mem hk)
      · simp [List.getD, List.getElem?_eq_none (Nat.le_of_not_lt hk)]
    have := tabChk_m h (hy k) h16
    simp only [brS]
    omega

set_option maxRecDepth 5000 in
theorem metric_fault (t : Tb) (ht : t.Ok) (h0 : tabChk t = 0) (ls : List Nat) (a : Option Addr) (cap : Nat) (y : Nat → Nat) (hy : ∀ j, y j < 2) (hl : ls.length ≤ 3) (hlev : ∀ x ∈ ls, (x : Int) < t.lev) (w : World) (hb : Bytes w a ls) :
    Pure Tryz.prog 62 #[.agg t.cells, .slice a ls.length cap, .agg (ya y)] w (.int .i64 2) := by
  go_enter Tryz.func62, Tryz.ntmps62
  go_upto_region 1 with (fail)
  refine name2 ?_
  intro w0 b3 b5 B0
  obtain ⟨g0, gA, gM⟩ := b3.table ht
  have hb0 := hb.kept B0
  go_wp2_with fail
  go_loop [8, 12] (fun _ i => ∃ k : Nat, k ≤ ls.length ∧ i = .int .i64 k) (fun _ i => ls.length - (intOf i).toNat)
  case atStart => exact ⟨0, by omega, rfl⟩
  case round =>
    obtain ⟨k, hk, rfl⟩ := hrel
    by_cases hkl : k < ls.length
    · obtain ⟨b, o, rfl, hcell⟩ := hb0.cell k hkl
      have hk3 : decide ((k : Int) < (ls.length : Int)) = true := by simp; omega
      have hx0 := hb.lt _ (List.getElem_mem hkl)
      have hkk : (k : Int) < (ls.length : Int) := by omega
      have hge : decide ((ls[k] : Int) ≥ t.lev) = false := by have := hlev _ (List.getElem_mem hkl); simp; omega
      go_wp2
      go_round
      case measure => simp only [intOf]; omega
      case rel => exact ⟨k + 1, by omega, by go_num⟩
    · go_wp2_with fail
      go_loop [9, 24] (fun _ i => ∃ k : Nat, k ≤ ls.length ∧ i = .int .i64 k) (fun _ i => ls.length - (intOf i).toNat)
      case atStart => exact ⟨0, by omega, rfl⟩
      case round =>
        obtain ⟨k, hk, rfl⟩ := hrel
        by_cases hkl : k < ls.length
        · have hk3 : decide ((k : Int) < (ls.length : Int)) = true := by simp; omega
          have hkk : (k : Int) < (ls.length : Int) := by omega
          have hyc := b5.cell k
          rw [ya_get y (by omega)] at hyc
          have hk4 : (k : Int) < 3 := by omega
          have hy1 : decide ((1 : Int) < (y k : Nat)) = false := by have := hy k; simp; omega
          go_wp2
          go_round
          case measure => simp only [intOf]; omega
          case rel => exact ⟨k + 1, by omega, by go_num⟩
        · go_wp2
          go_ret
          exact ⟨rfl, B0⟩
set_option maxRecDepth 5000 in
set_option maxHeartbeats 400000 in
theorem metric_Branch (t : Tb) (ht : t.Ok) (h0 : tabChk t = 0) (R : Int) (hR : R = 2 ∨ R = 3) (ls : List Nat) (a : Option Addr) (cap : Nat) (y : Nat → Nat) (hy : ∀ j, y j < 2) (hl : (ls.length : Int) = R) (hlev : ∀ x ∈ ls, (x : Int) < t.lev) (w : World) (hb : Bytes w a ls) :
    Pure Tryz.prog 38 #[.agg t.cells, .int .i64 R, .slice a ls.length cap, .agg (ya y)] w (.tuple #[.int .i64 (brS t y ls ls.length), .int .i64 0]) := by
  obtain ⟨l1, l2⟩ := tabChk_ok h0
  have hl16 : ∀ x ∈ ls, x < 16 := fun x hx => by have := hlev x hx; omega
  go_enter Tryz.func38, Tryz.ntmps38
  go_upto_region 1 with (fail)
  refine name2 ?_
  intro w0 b4 b7 B0
  obtain ⟨g0, gA, gM⟩ := b4.table ht
  go_wp2_with ((with_reducible apply ld); rfl; (with_reducible assumption); (simp only [List.set_cons_zero, List.set_cons_succ]; rfl))
  refine (metric_Check t ht _).mono ?_
  rintro e w1 ⟨rfl, B1⟩
  rw [h0]
  clear g0 gA gM
  have b41 := b4.kept B1
  have b71 := b7.kept B1
  have B10 := B0.trans (B1.mono B0.size)
  obtain ⟨g0, gA, gM⟩ := b41.table ht
  have gY := b71.load (off := 0) (n := 3) (cs' := ya y) (by rw [ya_size]; omega) (Array.extract_eq_self_of_le (by rw [ya_size]; omega))
  have hr1 : ((R != 2) && (R != 3)) = false := by rcases hR with h | h <;> simp [h]
  have hr2 : ((ls.length : Int) != R) = false := by simp [hl]
  have hr3 : R ≤ 3 := by omega
  have HL := Lib.hid hl; clear hl
  have HR := Lib.hid hR
  rcases hR with hR | hR
  all_goals
    subst hR
    go_wp2_with ((with_reducible apply ld); rfl; (with_reducible assumption); (simp only [List.set_cons_zero, List.set_cons_succ]; rfl))
    have hl := HL.out
    refine (metric_fault t ht h0 ls a cap y hy (by omega) hlev _ (hb.kept (B10))).mono ?_
    rintro e w2 ⟨rfl, B2⟩
    clear g0 gA gM gY hl
    have b42 := b41.kept B2
    have b72 := b71.kept B2
    have B20 := B10.trans (B2.mono B10.size)
    have hb2 := hb.kept B20
    go_wp2_with fail
    go_loop [11, 12, 13, 42] (fun m _ _ i => ∃ k : Nat, k ≤ ls.length ∧ i = .int .i64 k ∧ m = .int .i64 (brS t y ls k)) (fun _ _ _ i => ls.length - (intOf i).toNat)
    case atStart => exact ⟨0, by omega, rfl, rfl⟩
    case round =>
      obtain ⟨k, hk, rfl, rfl⟩ := hrel
      have hll := HL.out
      by_cases hkl : k < ls.length
      · obtain ⟨b, o, rfl, hcell⟩ := hb2.cell k hkl
        have hk3 : decide ((k : Int) < (ls.length : Int)) = true := by simp; omega
        have hx0 := hl16 _ (List.getElem_mem hkl)
        have hkk : (k : Int) < (ls.length : Int) := by omega
        have hyc := b72.cell k
        rw [ya_get y (by omega)] at hyc
        have hk4 : (k : Int) < 3 := by omega
        have hyk := hy k
        have hyk2 : ((y k : Nat) : Int) < 2 := by omega
        have hx2 : ((ls[k] : Nat) : Int) < 16 := by omega
        have hm := b42.cell (1 + y k * 16 + ls[k])
        rw [ht.cellm hyk hx0] at hm
        have hbd := brS_bd h0 hy hl16 k
        have hbd2 := tabChk_m h0 hyk hx0
        have HW : Hid (brS t y ls k + t.m (y k) ls[k] = brS t y ls (k + 1)) := by
          show _ = _
          simp only [brS, List.getD, List.getElem?_eq_getElem hkl, Option.getD_some]
        clear hll
        go_wp2
        go_round
        case measure => simp only [intOf]; omega
        case rel => exact ⟨k + 1, by omega, by go_num, by rw [HW.out]⟩
      · have HK : Hid (k = ls.length) := by show _ = _; omega
        clear hll
        go_wp2
        go_ret2
        refine ⟨?_, B20⟩
        rw [HK.out]
        rfl
end Go.Proofs.YtnjmplapjnnjdaaGreat

/- The walk of the least and the greatest metric of a table: the program's. -/
namespace Go.Proofs.YtnjmplapjnnjdaaGreat
open Go.RowKit

/-- THE ARM for a slice of the first n elements of an array in a variable. -/
theorem slArr {P : Program} {ops : Array Oper} {rest : List Oper} {l l' : List Value} {ds : List Deferred} {w : World} {Q : Exit → Act → World → Prop} {t e len d b n : Nat} {x y : Operand} {k : IntKind} {ty : TypeId} {ps : String} {af : Array Edge}
    (hu : P.underlying t = some (.array len e)) (T : CellTy P e) (hx : (Act.mk l.toArray ds).eval x = .pointer (some ⟨b, 0, none⟩)) (hy : (Act.mk l.toArray ds).eval y = .int k (n : Int)) (hi : n ≤ len) (hs : l.set d (.slice (some ⟨b, 0, none⟩) n len) = l')
    (h : wpList P ops Q rest ⟨l'.toArray, ds⟩ w) : wpList P ops Q (⟨some d, .slice t x none (some y) none, ty, ps, af, none⟩ :: rest) ⟨l.toArray, ds⟩ w := by
  refine wpList_plain rfl fun K hK => ?_
  unfold Oper.wp execOp
  have hr : (Instr.sliceAt t (.pointer (some ⟨b, 0, none⟩)) none (some (.int k (n : Int))) none).run P w = .ok (.slice (some ⟨b, 0, none⟩) n len) w := by
    have hi' : (n : Int) ≤ len := by omega
    have hi2 : ¬ len < n := by omega
    simp [Instr.sliceAt, Sem.run_bind, run_underlying hu, Instr.sureAddr, Instr.sliceBounds, Instr.sliceBound, asIntOf, Sem.run_pure, hi', hi2, hi, run_sizeCell T, Addr.add]
  simp only [hx, hy, Option.map_none, Option.map_some, Sem.run_bind, hr, Result.andThen_ok, Sem.run_pure]
  rw [Oper.upon_value, put_list, hs]
  exact hK _ _ h

theorem results_tmp3 {P : Program} {fn : Func} {t0 t1 t2 : Nat} {tmps : Array Value} {w : World} {v0 v1 v2 : Value} (h : fn.results = #[.tmp t0, .tmp t1, .tmp t2]) (h0 : tmps.getD t0 undef = v0) (h1 : tmps.getD t1 undef = v1) (h2 : tmps.getD t2 undef = v2) :
    (results fn tmps).run P w = .ok (.tuple #[v0, v1, v2]) w := by
  simp only [Array.getD_eq_getD_getElem?] at h0 h1 h2
  simp [results, h, h0, h1, h2]
theorem mul_bd {n m : Int} (n0 : 0 ≤ n) (n1 : n ≤ 1055) (m0 : -4096 ≤ m) (m1 : m ≤ 4096) : -4321280 ≤ n * m ∧ n * m ≤ 4321280 := by
  have h1 := Int.mul_le_mul_of_nonneg_left m1 n0
  have h2 := Int.mul_le_mul_of_nonneg_left m0 n0
  omega
def Tb.loRow (t : Tb) (k : Nat) (a : Int) : Nat → Int
  | 0 => a
  | r + 1 => min (t.loRow k a r) (t.m k r)
def Tb.hiRow (t : Tb) (k : Nat) (a : Int) : Nat → Int
  | 0 => a
  | r + 1 => max (t.hiRow k a r) (t.m k r)
/-- The least metric of the first k rows. -/
def Tb.loK (t : Tb) : Nat → Int
  | 0 => t.m 0 0
  | k + 1 => t.loRow k (t.loK k) t.lev.toNat
def Tb.hiK (t : Tb) : Nat → Int
  | 0 => t.m 0 0
  | k + 1 => t.hiRow k (t.hiK k) t.lev.toNat
def Tb.lo (t : Tb) : Int := t.loK 2
def Tb.hi (t : Tb) : Int := t.hiK 2
theorem Tb.loRow_bd (t : Tb) {k : Nat} {a : Int} (h : tabChk t = 0) (hk : k < 2) (a0 : -4096 ≤ a) (a1 : a ≤ 4096) : ∀ r, r ≤ 16 → -4096 ≤ t.loRow k a r ∧ t.loRow k a r ≤ 4096
  | 0, _ => ⟨a0, a1⟩
  | r + 1, hr => by
    have ih := t.loRow_bd h hk a0 a1 r (by omega)
    have := tabChk_m h hk (show r < 16 by omega)
    simp only [Tb.loRow]
    omega
theorem Tb.hiRow_bd (t : Tb) {k : Nat} {a : Int} (h : tabChk t = 0) (hk : k < 2) (a0 : -4096 ≤ a) (a1 : a ≤ 4096) : ∀ r, r ≤ 16 → -4096 ≤ t.hiRow k a r ∧ t.hiRow k a r ≤ 4096
  | 0, _ => ⟨a0, a1⟩
  | r + 1, hr => by
    have ih := t.hiRow_bd h hk a0 a1 r (by omega)
    have := tabChk_m h hk (show r < 16 by omega)
    simp only [Tb.hiRow]
    omega
theorem Tb.loK_bd (t : Tb) (h : tabChk t = 0) : ∀ k, k ≤ 2 → -4096 ≤ t.loK k ∧ t.loK k ≤ 4096
  | 0, _ => tabChk_m h (by omega) (by omega)
  | k + 1, hk => by
    have ih := t.loK_bd h k (by omega)
    have := (tabChk_ok h)
    exact t.loRow_bd h (by omega) ih.1 ih.2 _ (by omega)
theorem Tb.hiK_bd (t : Tb) (h : tabChk t = 0) : ∀ k, k ≤ 2 → -4096 ≤ t.hiK k ∧ t.hiK k ≤ 4096
  | 0, _ => tabChk_m h (by omega) (by omega)
  | k + 1, hk => by
    have ih := t.hiK_bd h k (by omega)
    have := (tabChk_ok h)
    exact t.hiRow_bd h (by omega) ih.1 ih.2 _ (by omega)

set_option maxRecDepth 5000 in
set_option maxHeartbeats 1000000 in
theorem metric_Range (t : Tb) (ht : t.Ok) (h0 : tabChk t = 0) (R : Int) (hR : R = 2 ∨ R = 3) (n : Int) (n0 : 0 ≤ n) (n1 : n ≤ 1055) (w : World) :
    Pure Tryz.prog 35 #[.agg t.cells, .int .i64 R, .int .i64 n] w (.tuple #[.int .i64 (R * n * t.lo), .int .i64 (R * n * t.hi), .int .i64 0]) := by
  obtain ⟨l1, l2⟩ := tabChk_ok h0
  obtain ⟨L, hL⟩ : ∃ L : Nat, t.lev = L := ⟨t.lev.toNat, by omega⟩
  have hLt : t.lev.toNat = L := by omega
  have HL := Lib.hid hL
  have HLt := Lib.hid hLt
  clear hLt
  go_enter Tryz.func35, Tryz.ntmps35
  go_upto_region 1 with (fail)
  refine name1 ?_
  intro w0 b3 B0
  obtain ⟨g0, gA, gM⟩ := b3.table ht
  go_wp2_with ((with_reducible apply ld); rfl; (with_reducible assumption); (simp only [List.set_cons_zero, List.set_cons_succ]; rfl))
  refine (metric_Check t ht _).mono ?_
  rintro e w1 ⟨rfl, B1⟩
  rw [h0]
  clear g0 gA gM
  have b31 := b3.kept B1
  have B10 := B0.trans (B1.mono B0.size)
  obtain ⟨g0, gA, gM⟩ := b31.table ht
  have g00 : w1.cell? ⟨w.heap.size, 1, none⟩ = some (.int .i64 (t.m 0 0)) := by rw [b31.cell, show 1 = 1 + 0 * 16 + 0 from rfl, ht.cellm (by omega) (by omega)]
  have hr1 : (((R != 2) && (R != 3)) || decide (n < 0) || decide (1055 < n)) = false := by rcases hR with h | h <;> simp [h] <;> omega
  have hr2 : (((R != 2) && (R != 3)) || decide (n < 0)) = false := by rcases hR with h | h <;> simp [h] <;> omega
  have hr3 : ((R != 2) && (R != 3)) = false := by rcases hR with h | h <;> simp [h]
  have hwr : ∀ m : Int, -4096 ≤ m → m ≤ 4096 → wrap64 (R * n * m) = R * n * m := by
    intro m m0 m1
    have := mul_bd n0 n1 m0 m1
    rw [Int.mul_assoc]
    rcases hR with h | h <;> rw [h] <;> unfold wrap64 <;> omega
  have HR := Lib.hid hR
  rcases hR with hR | hR
  all_goals
    subst hR
    go_wp2_with ((with_reducible apply ld); rfl; (with_reducible assumption); (simp only [List.set_cons_zero, List.set_cons_succ]; rfl))
    refine wp_region_kept (by kernel_rfl) (by kernel_rfl) ?_
    have q0 := KeptW.cell g00
    repeat first
      | ((with_reducible apply q_ld); rfl; (with_reducible assumption); (simp only [List.set_cons_zero, List.set_cons_succ]; rfl))
      | go_big_quiet_step (fail)
    refine wpQuiet_nil ?_
    intro w2 B2
    clear q0 g0 gA gM g00
    have b32 := b31.kept B2
    have B20 := B10.trans (B2.mono B10.size)
    obtain ⟨g0, gA, gM⟩ := b32.table ht
    go_wp2_with ((with_reducible apply ld); rfl; (with_reducible assumption); (simp only [List.set_cons_zero, List.set_cons_succ]; rfl))
    clear g0 gA gM
    go_loopw [6, 7, 11, 13, 43] (fun lo hi _ _ i wr => ∃ k : Nat, k ≤ 2 ∧ i = .int .i64 k ∧ lo = .int .i64 (t.loK k) ∧ hi = .int .i64 (t.hiK k) ∧ Below w2.heap.size w2 wr) (fun _ _ _ _ i _ => 2 - (intOf i).toNat)
    case atStart => exact ⟨0, by omega, rfl, rfl, rfl, Below.refl _ _⟩
    case round =>
      obtain ⟨k, hk, rfl, rfl, rfl, HW⟩ := hrel
      have hlb := t.loK_bd h0 k hk
      have hhb := t.hiK_bd h0 k hk
      have hlo := hwr _ hlb.1 hlb.2
      have hhi := hwr _ hhb.1 hhb.2
      by_cases hkl : k < 2
      · have hk3 : (k : Int) < (2 : Nat) := by omega
        have hk2 : decide ((k : Int) < 2) = true := by simp; omega
        have b33 := b32.kept HW
        obtain ⟨g0, gA, gM⟩ := b33.table ht
        have g0a : (wr.alloc (.cells #[.int .i64 0, .int .i64 0, .int .i64 0, .int .i64 0, .int .i64 0, .int .i64 0, .int .i64 0, .int .i64 0, .int .i64 0, .int .i64 0, .int .i64 0, .int .i64 0, .int .i64 0, .int .i64 0, .int .i64 0, .int .i64 0] 26)).cell? ⟨w.heap.size, 0, none⟩ = some (.int .i64 (L : Int)) := by rw [← HL.out]; exact ((Below.refl _ wr).alloc (Nat.le_refl _) _ |>.cell (lt_of_cell g0)).trans g0
        go_wp2_with (first | ((with_reducible apply ixAgg); exact Tryz.underlying27; infer_instance; rfl; rfl; omega; omega; exact t.row_ex k; (simp only [List.set_cons_zero, List.set_cons_succ]; rfl)) | ((with_reducible apply st); rfl; rfl; exact Box.new _ _ _; rfl; exact ht.row_size hkl; exact t.row_flat k; intro w4 hb4 B4; have g04 := (B4.cell (p := ⟨w.heap.size, 0, none⟩) b33.lt).trans g0a; clear g0 gA gM g0a) | ((with_reducible apply slArr); exact Tryz.underlying26; infer_instance; rfl; rfl; omega; (simp only [List.set_cons_zero, List.set_cons_succ]; rfl)))
        have B5 : Below w2.heap.size w2 w4 := HW.trans (((Below.refl _ wr).alloc (Nat.le_refl _) _ |>.trans B4).mono HW.size)
        clear g04
        obtain ⟨wo, hwo⟩ : ∃ wo : World, wo = wr := ⟨_, rfl⟩
        rw [← hwo] at hb4 ⊢
        clear hwo
        go_loop [6, 7, 13, 50] (fun lo hi _ i => ∃ r : Nat, r ≤ L ∧ i = .int .i64 r ∧ lo = .int .i64 (t.loRow k (t.loK k) r) ∧ hi = .int .i64 (t.hiRow k (t.hiK k) r)) (fun _ _ _ i => L - (intOf i).toNat)
        case atStart => exact ⟨0, by omega, rfl, rfl, rfl⟩
        case round =>
          obtain ⟨r, hr, rfl, rfl, rfl⟩ := hrel
          by_cases hrl : r < L
          · have hg := hb4.cell r
            rw [ht.row_get hkl (by omega)] at hg
            have hr3 : (r : Int) < (L : Nat) := by omega
            have hr2 : decide ((r : Int) < (L : Nat)) = true := by simp; omega
            go_wp2
            go_round
            case measure => simp only [intOf]; omega
            case rel => exact ⟨r + 1, by omega, by go_num, by first | rfl | (congr 1; simp only [Tb.loRow]; split <;> omega), by first | rfl | (congr 1; simp only [Tb.hiRow]; split <;> omega)⟩
          · have H1 : Hid (t.loRow k (t.loK k) r = t.loK (k + 1)) := by
              obtain rfl : r = L := by omega
              show _ = _
              simp only [Tb.loK, HLt.out]
            have H2 : Hid (t.hiRow k (t.hiK k) r = t.hiK (k + 1)) := by
              obtain rfl : r = L := by omega
              show _ = _
              simp only [Tb.hiK, HLt.out]
            go_wp2
            go_roundw
            case measure => simp only [intOf]; omega
            case rel => exact ⟨k + 1, by omega, by go_num, by rw [H1.out], by rw [H2.out], B5⟩
      · have HK : Hid (k = 2) := by show _ = _; omega
        go_wp2
        refine bodyPost_ret (results_tmp3 rfl rfl rfl rfl) rfl ?_
        refine ⟨?_, B20.trans (HW.mono B20.size)⟩
        have e := HK.out
        subst e
        rw [hlo, hhi]; rfl
end Go.Proofs.YtnjmplapjnnjdaaGreat
