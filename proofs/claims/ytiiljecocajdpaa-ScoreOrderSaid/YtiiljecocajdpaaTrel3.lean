/- The walks of a step of the trellis: the document's. -/
import Derived.Test.YtiiljecocajdpaaTrel2
namespace Go.Proofs.Ytiiljecocajdpaa
open Go.RowKit

set_option maxRecDepth 5000 in
theorem ref07_Out (c : Cd) (hc : c.Ok) (k1 : 3 ≤ c.K) (k2 : c.K ≤ 32) (cr : c.R = 2 ∨ c.R = 3) (v : Int) (v0 : 0 ≤ v) (v1 : v < 4294967296) (w : World) :
    Pure Try.prog 99 #[.agg c.cells, .int .u32 v] w (.agg (c.yv v.toNat)) := by
  go_enter Try.func99, Try.ntmps99
  go_upto_region 2 with (fail)
  refine name3 ?_
  intro w0 b3 b7 b9 B0
  have hR : c.R.toNat ≤ 3 := by omega
  go_wp2_with fail
  go_loopw [6] (fun i wr => ∃ k : Nat, k ≤ c.R.toNat ∧ i = .int .i64 k ∧ Box wr w.heap.size c.cells ∧ Box wr (w.heap.size + 1) (c.ys 0 0) ∧ Box wr (w.heap.size + 1 + 1) (c.ys v.toNat k) ∧ Below w.heap.size w wr) (fun i _ => 3 - (intOf i).toNat)
  case atStart => exact ⟨0, by omega, rfl, b3, b7, b9, B0⟩
  case round =>
    clear b3 b7 b9 B0
    obtain ⟨k, hk, rfl, b3, b7, b9, B0⟩ := hrel
    have hgk := hc.g0 k
    have hgk1 := hc.g1 k
    obtain ⟨h0, h1, h2, hA⟩ := b3.code
    by_cases hkl : k < c.R.toNat
    · have hcell := b3.cell (2 + k)
      rw [c.cellg (by omega)] at hcell
      have hk1 : (k : Int) < c.R := by omega
      have hk2 : decide ((k : Int) < c.R) = true := by simp; omega
      have hk3 : (k : Int) < 3 := by omega
      have hand := and32 (x := v) (y := c.g k) v0 v1 hgk hgk1
      have hy := b9.cell k
      rw [c.ys_get _ _ (by omega)] at hy
      have hpl : ((v.toNat &&& (c.g k).toNat : Nat) : Int) < 4294967296 := by have := @Nat.and_le_left v.toNat (c.g k).toNat; omega
      go_wp2_with fail
      refine (ref_parity _ (by omega) hpl _).mono ?_
      rintro e w1 ⟨rfl, B1⟩
      rw [Int.toNat_natCast]
      have hsy : par (v.toNat &&& (c.g k).toNat) = c.sy v.toNat k := rfl
      rw [hsy]
      have hy1 := (B1.cell (lt_of_cell hy)).trans hy
      have hyf1 := (b9.kept B1).frozen k
      have N3 := ((b3.kept B1).setOther (p := ⟨w.heap.size + 1 + 1, k, none⟩) (by simp; omega) (.int .u8 ((c.sy v.toNat k : Nat) : Int)))
      have N7 := ((b7.kept B1).setOther (p := ⟨w.heap.size + 1 + 1, k, none⟩) (by simp) (.int .u8 ((c.sy v.toNat k : Nat) : Int)))
      have N9 := ((b9.kept B1).setCell (i := k) (.int .u8 ((c.sy v.toNat k : Nat) : Int)))
      rw [c.ys_set _ (by omega)] at N9
      have NB := (B0.trans (B1.mono B0.size)).trans ((Below.refl w.heap.size w1).setCell (p := ⟨w.heap.size + 1 + 1, k, none⟩) (by simp; omega) (.int .u8 ((c.sy v.toNat k : Nat) : Int)))
      clear hsy hy h0 h1 h2 hA hcell
      go_wp2
      go_roundw
      case measure => simp only [intOf]; omega
      case rel => exact ⟨k + 1, by omega, by go_num, N3, N7, N9, NB⟩
    · have hkR : k = c.R.toNat := by omega
      have hl9 := b9.load (off := 0) (n := 3) (cs' := c.ys v.toNat k) (by rw [c.ys_size]; omega) (Array.extract_eq_self_of_le (by rw [c.ys_size]; omega))
      have hfl := c.ys_flat v.toNat k
      clear hkR
      go_wp2_with (first | ((with_reducible apply ld); rfl; (with_reducible assumption); (simp only [List.set_cons_zero, List.set_cons_succ]; rfl)) | ((with_reducible apply st); rfl; rfl; exact b7; rfl; rfl; exact hfl; intro w5 N5 B5))
      have hkR : k = c.R.toNat := by omega
      refine bodyPost_ret (results_cellAgg rfl rfl (N5.load (n := 3) (by rw [c.ys_size]; omega) (Array.extract_eq_self_of_le (by rw [c.ys_size]; omega)))) rfl ?_
      refine ⟨?_, B0.trans (B5.mono (by omega))⟩
      subst hkR
      rfl

theorem one_shl64 {K : Int} (h3 : 3 ≤ K) (h4 : K ≤ 32) : IntKind.u64.wrap (1 * 2 ^ (K.toNat - 1)) = 2 ^ (K.toNat - 1) := by
  have := pow31 (n := K.toNat - 1) (by omega)
  have h0 : (0 : Int) < 2 ^ (K.toNat - 1) := Int.pow_pos (by decide)
  rw [Int.one_mul]
  simp only [IntKind.wrap, IntKind.bits, IntKind.signed]
  simp
  omega
set_option maxRecDepth 5000 in
theorem ref07_Next (c : Cd) (hc : c.Ok) (k1 : 3 ≤ c.K) (k2 : c.K ≤ 32) (cr : c.R = 2 ∨ c.R = 3) (s b : Int) (s0 : 0 ≤ s) (s1 : s < 2 ^ (c.K.toNat - 1)) (b0 : 0 ≤ b) (b1 : b < 2) (w : World) :
    Pure Try.prog 85 #[.agg c.cells, .int .u32 s, .int .u8 b] w (.tuple #[.int .u32 ((2 * s + b) % 2 ^ (c.K.toNat - 1)), .agg (c.yv (2 * s + b).toNat)]) := by
  have hp31 : (2 : Int) ^ (c.K.toNat - 1) ≤ 2147483648 := pow31 (by omega)
  have hp0 : (0 : Int) < 2 ^ (c.K.toNat - 1) := Int.pow_pos (by decide)
  have hsz := c.ys_size (2 * s + b).toNat c.R.toNat
  have hfl := c.ys_flat (2 * s + b).toNat c.R.toNat
  go_enter Try.func85, Try.ntmps85
  go_upto_region 1 with (fail)
  refine name2 ?_
  intro w0 b3 b7 B0
  obtain ⟨h0, h1, h2, hA⟩ := b3.code
  have hshl := one_shl64 k1 k2
  have hm0 := Int.emod_nonneg (2 * s + b) (b := 2 ^ (c.K.toNat - 1)) (by omega)
  have hm1 := Int.emod_lt_of_pos (2 * s + b) hp0
  have hnz : ((2 : Int) ^ (c.K.toNat - 1) == 0) = false := by simp; omega
  have htm : (2 * s + b).tmod (2 ^ (c.K.toNat - 1)) = (2 * s + b) % 2 ^ (c.K.toNat - 1) := Int.tmod_eq_emod_of_nonneg (by omega)
  go_wp2_with fail
  (refine wp_region_kept_tail 13 (by kernel_rfl) (by kernel_rfl) ?_; simp only [List.take_succ_cons, List.take_zero, List.drop_succ_cons, List.drop_zero])
  have q0 := KeptW.cell h0
  have qA := hA
  clear h0 h1 h2
  repeat first
    | ((with_reducible apply q_ld); rfl; (with_reducible assumption); (simp only [List.set_cons_zero, List.set_cons_succ]; rfl))
    | go_big_quiet_step (exact Calls.kept (ref07_Out c hc k1 k2 cr (2 * s + b) (by omega) (by omega) _))
  refine wpQuiet_nil ?_
  intro w2 B2
  have N7 := b7.kept B2
  go_wp2_with ((with_reducible apply st); rfl; rfl; exact N7; rfl; exact hsz; exact hfl; intro w3 N8 B3)
  refine bodyPost_ret (results_tmpCell rfl rfl rfl (N8.load (n := 3) (by unfold Cd.yv; rw [c.ys_size]; omega) (Array.extract_eq_self_of_le (by unfold Cd.yv; rw [c.ys_size]; omega)))) rfl ?_
  exact ⟨rfl, (B0.trans (B2.mono B0.size)).trans (B3.mono (by omega))⟩
end Go.Proofs.Ytiiljecocajdpaa
