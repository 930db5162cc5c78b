/- The walks of a step of the trellis: the program's own door, and the document's. -/
import Derived.Test.YtiiljecocajdpaaTrel
namespace Go.Proofs.Ytiiljecocajdpaa
open Go.RowKit

theorem rightChk_ok {c : Cd} {s b : Int} (hk : codeChk c = 0) (s0 : 0 ≤ s) (s1 : s < 2 ^ (c.K.toNat - 1)) (b1 : b < 2) : rightChk c s b = 0 := by
  unfold rightChk
  have : s / 2 ^ (c.K.toNat - 1) = 0 := Int.ediv_eq_zero_of_lt s0 s1
  rw [if_neg (by simp [hk]), if_neg (by simp [this]), if_neg (by simp; omega)]

set_option maxRecDepth 5000 in
theorem trellis_Step (c : Cd) (hc : c.Ok) (hk : codeChk c = 0) (s b : Int) (s0 : 0 ≤ s) (s1 : s < 2 ^ (c.K.toNat - 1)) (b0 : 0 ≤ b) (b1 : b < 2) (w : World) :
    Pure Try.prog 59 #[.agg c.cells, .int .u32 s, .int .u8 b] w (.tuple #[.int .u32 ((2 * s + b) % 2 ^ (c.K.toNat - 1)), .agg (c.yv (2 * s + b).toNat), .int .i64 0]) := by
  have hb := Box.new w c.cells 25
  obtain ⟨h0, h1, h2, hA⟩ := hb.code
  obtain ⟨k1, k2, cr⟩ := codeChk_ok hk
  have hp31 : (2 : Int) ^ (c.K.toNat - 1) ≤ 2147483648 := pow31 (by omega)
  have hsz := c.ys_size (2 * s + b).toNat c.R.toNat
  have hfl := c.ys_flat (2 * s + b).toNat c.R.toNat
  have HB := Lib.hid hb; clear hb
  go_enter Try.func59, Try.ntmps59
  go_upto_region 1 with (fail)
  refine name2 ?_
  intro w0 b3 b7 B0
  clear h0 h1 h2 hA HB
  obtain ⟨h0, h1, h2, hA⟩ := b3.code
  go_wp2_with ((with_reducible apply ld); rfl; (with_reducible assumption); (simp only [List.set_cons_zero, List.set_cons_succ]; rfl))
  refine (trellis_right c hc s b s0 (by omega) b0 (by omega) _).mono ?_
  rintro e w1 ⟨rfl, B1⟩
  rw [rightChk_ok hk s0 s1 b1]
  clear h0 h1 h2 hA
  have b31 := b3.kept B1
  have b71 := b7.kept B1
  obtain ⟨h0, h1, h2, hA⟩ := b31.code
  have B10 := B0.trans (B1.mono B0.size)
  go_wp2_with ((with_reducible apply ld); rfl; (with_reducible assumption); (simp only [List.set_cons_zero, List.set_cons_succ]; rfl))
  refine (trellis_step c hc hk s b s0 s1 b0 b1 _).mono ?_
  rintro e w2 ⟨rfl, B2⟩
  clear h0 h1 h2 hA
  have b72 := (b71.kept B2).alloc (.cells #[.int .u8 0, .int .u8 0, .int .u8 0] 97)
  have b11 := Box.new w2 #[.int .u8 0, .int .u8 0, .int .u8 0] 97
  have B20 := (B10.trans (B2.mono B10.size))
  have hsz2 := B20.size
  go_wp2_with ((with_reducible apply st); rfl; rfl; exact b11; rfl; exact hsz; exact hfl; intro w3 N11 B3)
  have b7lt := (b71.kept B2).lt
  have b73 := b72.below B3 b7lt
  have hl11 := N11.load (off := 0) (n := 3) (cs' := c.yv (2 * s + b).toNat) (by unfold Cd.yv; rw [c.ys_size]; omega) (Array.extract_eq_self_of_le (by unfold Cd.yv; rw [c.ys_size]; omega))
  have B30 := B20.trans (((Below.refl _ _).alloc B20.size _).trans (B3.mono B20.size))
  (refine wp_region_kept_tail 3 (by kernel_rfl) (by kernel_rfl) ?_; simp only [List.take_succ_cons, List.take_zero, List.drop_succ_cons, List.drop_zero])
  repeat first
    | ((with_reducible apply q_ld); rfl; (with_reducible assumption); (simp only [List.set_cons_zero, List.set_cons_succ]; rfl))
    | go_big_quiet_step (fail)
  refine wpQuiet_nil ?_
  intro w4 B4
  have b74 := b73.kept B4
  go_wp2_with ((with_reducible apply st); rfl; rfl; exact b74; rfl; exact hsz; exact hfl; intro w5 N5 B5)
  refine bodyPost_ret (results_tmpCellTmp rfl rfl rfl rfl (N5.load (n := 3) (by unfold Cd.yv; rw [c.ys_size]; omega) (Array.extract_eq_self_of_le (by unfold Cd.yv; rw [c.ys_size]; omega)))) rfl ?_
  exact ⟨rfl, (B30.trans (B4.mono B30.size)).trans (B5.mono (by omega))⟩
end Go.Proofs.Ytiiljecocajdpaa
