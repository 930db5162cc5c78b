/- The walks of a step's metric: the program's. -/
import Derived.Test.YtiiljecocajdpaaTrel3
import Derived.Test.YtiiljecocajdpaaMetric2
namespace Go.Proofs.Ytiiljecocajdpaa
open Go.RowKit

/-- Three symbols. -/
def ya (y : Nat → Nat) : Array Value := #[.int .u8 ((y 0 : Nat) : Int), .int .u8 ((y 1 : Nat) : Int), .int .u8 ((y 2 : Nat) : Int)]
theorem ya_get (y : Nat → Nat) {j : Nat} (h : j < 3) : (ya y)[j]? = some (.int .u8 ((y j : Nat) : Int)) := by
  match j, h with
  | 0, _ => rfl
  | 1, _ => rfl
  | 2, _ => rfl
theorem ya_size (y : Nat → Nat) : (ya y).size = 3 := rfl
theorem ya_flat (y : Nat → Nat) : Flat (ya y) := by
  intro u hu
  simp [ya] at hu
  rcases hu with rfl | rfl | rfl <;> exact ⟨fun _ h => (by cases h), fun _ h => (by cases h)⟩
/-- The symbols of a register as a function. -/
def Cd.y (c : Cd) (v : Nat) (j : Nat) : Nat := if j < c.R.toNat then c.sy v j else 0
theorem Cd.yv_ya (c : Cd) (v : Nat) : c.yv v = ya (c.y v) := rfl
theorem Cd.y_lt (c : Cd) (v j : Nat) : c.y v j < 2 := by
  unfold Cd.y
  split
  · exact par_lt _
  · decide
/-- The metric of the first k symbols of a step. -/
def brS (t : Tb) (y : Nat → Nat) (ls : List Nat) : Nat → Int
  | 0 => 0
  | k + 1 => brS t y ls k + t.m (y k) (ls.getD k 0)
theorem tabChk_m {t : Tb} (h : tabChk t = 0) {b r : Nat} (hb : b < 2) (hr : r < 16) : -4096 ≤ t.m b r ∧ t.m b r ≤ 4096 := by
  unfold tabChk at h
  cases h1 : t.badLev
  · rw [h1] at h
    cases h2 : (List.range 2).any t.badRow
    · have h3 := List.any_eq_false.1 h2 b (by simpa using hb)
      unfold Tb.badRow at h3
      simp at h3
      have h4 := h3 r hr
      simp [Tb.bad] at h4
      omega
    · rw [h2] at h; simp at h
  · rw [h1] at h; simp at h
theorem brS_bd {t : Tb} (h : tabChk t = 0) {y : Nat → Nat} {ls : List Nat} (hy : ∀ j, y j < 2) (hl : ∀ x ∈ ls, x < 16) : ∀ k : Nat, -4096 * (k : Int) ≤ brS t y ls k ∧ brS t y ls k ≤ 4096 * (k : Int)
  | 0 => by simp [brS]
  | k + 1 => by
    have ih := brS_bd h hy hl k
    have h16 : ls.getD k 0 < 16 := by
      by_cases hk : k < ls.length
      · simp [List.getD, List.getElem?_eq_getElem hk]; exact hl _ (List.getElem_mem hk)
      · simp [List.getD, List.getElem?_eq_none (Nat.le_of_not_lt hk)]
    have := tabChk_m h (hy k) h16
    simp only [brS]
    omega

set_option maxRecDepth 5000 in
theorem metric_fault (t : Tb) (ht : t.Ok) (h0 : tabChk t = 0) (ls : List Nat) (a : Option Addr) (cap : Nat) (y : Nat → Nat) (hy : ∀ j, y j < 2) (hl : ls.length ≤ 3) (hlev : ∀ x ∈ ls, (x : Int) < t.lev) (w : World) (hb : Bytes w a ls) :
    Pure Try.prog 89 #[.agg t.cells, .slice a ls.length cap, .agg (ya y)] w (.int .i64 2) := by
  go_enter Try.func89, Try.ntmps89
  go_upto_region 1 with (fail)
  refine name2 ?_
  intro w0 b3 b5 B0
  obtain ⟨g0, gA, gM⟩ := b3.table ht
  have hb0 := hb.kept B0
  go_wp2_with fail
  go_loop [8, 12] (fun _ i => ∃ k : Nat, k ≤ ls.length ∧ i = .int .i64 k) (fun _ i => ls.length - (intOf i).toNat)
  case atStart => exact ⟨0, by omega, rfl⟩
  case round =>
    obtain ⟨k, hk, rfl⟩ := hrel
    by_cases hkl : k < ls.length
    · obtain ⟨b, o, rfl, hcell⟩ := hb0.cell k hkl
      have hk3 : decide ((k : Int) < (ls.length : Int)) = true := by simp; omega
      have hx0 := hb.lt _ (List.getElem_mem hkl)
      have hkk : (k : Int) < (ls.length : Int) := by omega
      have hge : decide ((ls[k] : Int) ≥ t.lev) = false := by have := hlev _ (List.getElem_mem hkl); simp; omega
      go_wp2
      go_round
      case measure => simp only [intOf]; omega
      case rel => exact ⟨k + 1, by omega, by go_num⟩
    · go_wp2_with fail
      go_loop [9, 24] (fun _ i => ∃ k : Nat, k ≤ ls.length ∧ i = .int .i64 k) (fun _ i => ls.length - (intOf i).toNat)
      case atStart => exact ⟨0, by omega, rfl⟩
      case round =>
        obtain ⟨k, hk, rfl⟩ := hrel
        by_cases hkl : k < ls.length
        · have hk3 : decide ((k : Int) < (ls.length : Int)) = true := by simp; omega
          have hkk : (k : Int) < (ls.length : Int) := by omega
          have hyc := b5.cell k
          rw [ya_get y (by omega)] at hyc
          have hk4 : (k : Int) < 3 := by omega
          have hy1 : decide ((1 : Int) < (y k : Nat)) = false := by have := hy k; simp; omega
          go_wp2
          go_round
          case measure => simp only [intOf]; omega
          case rel => exact ⟨k + 1, by omega, by go_num⟩
        · go_wp2
          go_ret
          exact ⟨rfl, B0⟩
set_option maxRecDepth 5000 in
set_option maxHeartbeats 400000 in
theorem metric_Branch (t : Tb) (ht : t.Ok) (h0 : tabChk t = 0) (R : Int) (hR : R = 2 ∨ R = 3) (ls : List Nat) (a : Option Addr) (cap : Nat) (y : Nat → Nat) (hy : ∀ j, y j < 2) (hl : (ls.length : Int) = R) (hlev : ∀ x ∈ ls, (x : Int) < t.lev) (w : World) (hb : Bytes w a ls) :
    Pure Try.prog 60 #[.agg t.cells, .int .i64 R, .slice a ls.length cap, .agg (ya y)] w (.tuple #[.int .i64 (brS t y ls ls.length), .int .i64 0]) := by
  obtain ⟨l1, l2⟩ := tabChk_ok h0
  have hl16 : ∀ x ∈ ls, x < 16 := fun x hx => by have := hlev x hx; omega
  go_enter Try.func60, Try.ntmps60
  go_upto_region 1 with (fail)
  refine name2 ?_
  intro w0 b4 b7 B0
  obtain ⟨g0, gA, gM⟩ := b4.table ht
  go_wp2_with ((with_reducible apply ld); rfl; (with_reducible assumption); (simp only [List.set_cons_zero, List.set_cons_succ]; rfl))
  refine (metric_Check t ht _).mono ?_
  rintro e w1 ⟨rfl, B1⟩
  rw [h0]
  clear g0 gA gM
  have b41 := b4.kept B1
  have b71 := b7.kept B1
  have B10 := B0.trans (B1.mono B0.size)
  obtain ⟨g0, gA, gM⟩ := b41.table ht
  have gY := b71.load (off := 0) (n := 3) (cs' := ya y) (by rw [ya_size]; omega) (Array.extract_eq_self_of_le (by rw [ya_size]; omega))
  have hr1 : ((R != 2) && (R != 3)) = false := by rcases hR with h | h <;> simp [h]
  have hr2 : ((ls.length : Int) != R) = false := by simp [hl]
  have hr3 : R ≤ 3 := by omega
  have HL := Lib.hid hl; clear hl
  have HR := Lib.hid hR
  rcases hR with hR | hR
  all_goals
    subst hR
    go_wp2_with ((with_reducible apply ld); rfl; (with_reducible assumption); (simp only [List.set_cons_zero, List.set_cons_succ]; rfl))
    have hl := HL.out
    refine (metric_fault t ht h0 ls a cap y hy (by omega) hlev _ (hb.kept (B10))).mono ?_
    rintro e w2 ⟨rfl, B2⟩
    clear g0 gA gM gY hl
    have b42 := b41.kept B2
    have b72 := b71.kept B2
    have B20 := B10.trans (B2.mono B10.size)
    have hb2 := hb.kept B20
    go_wp2_with fail
    go_loop [11, 12, 13, 42] (fun m _ _ i => ∃ k : Nat, k ≤ ls.length ∧ i = .int .i64 k ∧ m = .int .i64 (brS t y ls k)) (fun _ _ _ i => ls.length - (intOf i).toNat)
    case atStart => exact ⟨0, by omega, rfl, rfl⟩
    case round =>
      obtain ⟨k, hk, rfl, rfl⟩ := hrel
      have hll := HL.out
      by_cases hkl : k < ls.length
      · obtain ⟨b, o, rfl, hcell⟩ := hb2.cell k hkl
        have hk3 : decide ((k : Int) < (ls.length : Int)) = true := by simp; omega
        have hx0 := hl16 _ (List.getElem_mem hkl)
        have hkk : (k : Int) < (ls.length : Int) := by omega
        have hyc := b72.cell k
        rw [ya_get y (by omega)] at hyc
        have hk4 : (k : Int) < 3 := by omega
        have hyk := hy k
        have hyk2 : ((y k : Nat) : Int) < 2 := by omega
        have hx2 : ((ls[k] : Nat) : Int) < 16 := by omega
        have hm := b42.cell (1 + y k * 16 + ls[k])
        rw [ht.cellm hyk hx0] at hm
        have hbd := brS_bd h0 hy hl16 k
        have hbd2 := tabChk_m h0 hyk hx0
        have HW : Hid (brS t y ls k + t.m (y k) ls[k] = brS t y ls (k + 1)) := by
          show _ = _
          simp only [brS, List.getD, List.getElem?_eq_getElem hkl, Option.getD_some]
        clear hll
        go_wp2
        go_round
        case measure => simp only [intOf]; omega
        case rel => exact ⟨k + 1, by omega, by go_num, by rw [HW.out]⟩
      · have HK : Hid (k = ls.length) := by show _ = _; omega
        clear hll
        go_wp2
        go_ret2
        refine ⟨?_, B20⟩
        rw [HK.out]
        rfl
end Go.Proofs.Ytiiljecocajdpaa
