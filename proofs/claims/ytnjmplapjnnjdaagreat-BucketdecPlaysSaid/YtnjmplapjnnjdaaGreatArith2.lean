/- The walks of the functions that only reckon: lengths in bits, ones, remainders and common divisors of polynomials. -/
import Derived.Test.YtnjmplapjnnjdaaGreatBits
set_option linter.unusedSimpArgs false
set_option linter.unusedVariables false
set_option linter.unnecessarySimpa false
namespace Go.Proofs.YtnjmplapjnnjdaaGreat
open Go.RowKit

theorem bl8 : ∀ n, n < 256 → bl n < 256 := by decide +kernel
set_option maxHeartbeats 400000 in
theorem bits_Len64 (x : Int) (h0 : 0 ≤ x) (hx : x < W64) (w : World) : Pure Tryz.prog 103 #[.int .u64 x] w (.int .i64 (bl x.toNat)) := by
  have hx' : x / 4294967296 < 4294967296 := by unfold W64 at hx; omega
  go_enter Tryz.func103, Tryz.ntmps103
  go_wp2_with ((with_reducible apply w_strtab bl); exact Tryz.underlying9; kernel_rfl; rfl; omega; omega; (exact bl8 _ (by omega)); (simp only [List.set_cons_zero, List.set_cons_succ]; rfl))
  all_goals
    go_ret
    refine ⟨ret_int ?_, Below.refl _ _⟩
    have hb : (bl x.toNat : Int) ≤ 64 := by have := bl_le64 (a := x.toNat) (by omega); omega
    have a1 := bl_int32 x
    have a2 := bl_int16 x
    have a3 := bl_int16 (x / 4294967296)
    have a4 := bl_int8 x
    have a5 := bl_int8 (x / 4294967296)
    have a6 := bl_int8 (x / 65536)
    have a7 := bl_int8 (x / 4294967296 / 65536)
    unfold wrap64
    omega

theorem poly_Degree (x : Int) (h0 : 0 ≤ x) (hx : x < W64) (w : World) : Pure Tryz.prog 102 #[.int .u64 x] w (.int .i64 ((bl x.toNat : Int) - 1)) := by
  have hb : (bl x.toNat : Int) ≤ 64 := by have := bl_le64 (a := x.toNat) (by omega); omega
  go_enter Tryz.func102, Tryz.ntmps102
  go_wp2_with (go_at_call 103; refine (bits_Len64 x h0 hx _).mono ?_; rintro e w1 ⟨rfl, B1⟩)
  go_ret
  exact ⟨rfl, B1⟩

theorem pop8b : ∀ n, n < 256 → pop8 n < 256 := by decide +kernel
set_option maxHeartbeats 800000 in
theorem bits_OnesCount32 (x : Int) (h0 : 0 ≤ x) (hx : x < 4294967296) (w : World) : Pure Tryz.prog 81 #[.int .u32 x] w (.int .i64 (pop8 (x.toNat / 16777216) + pop8 (x.toNat / 65536 % 256) + pop8 (x.toNat / 256 % 256) + pop8 (x.toNat % 256) : Nat)) := by
  have b1 : bits .and .u32 (x / 65536) 255 = x / 65536 % 256 := mask32 8 (by decide) (by omega) (by omega)
  have b2 : bits .and .u32 (x / 256) 255 = x / 256 % 256 := mask32 8 (by decide) (by omega) (by omega)
  have b3 : bits .and .u32 x 255 = x % 256 := mask32 8 (by decide) h0 hx
  go_enter Tryz.func81, Tryz.ntmps81
  go_wp2_with fail
  refine wp_region_kept (by kernel_rfl) (by kernel_rfl) ?_
  repeat first
    | ((with_reducible apply q_strtab pop8); exact Tryz.underlying9; kernel_rfl; rfl; omega; omega; (exact pop8b _ (by omega)); (simp only [List.set_cons_zero, List.set_cons_succ]; rfl))
    | go_big_quiet_step (fail)
  refine wpQuiet_nil ?_
  intro w1 B1
  go_wp2
  go_ret
  refine ⟨ret_int ?_, B1⟩
  clear b1 b2 b3
  obtain ⟨n, rfl⟩ := Int.eq_ofNat_of_zero_le h0
  have e1 : ((n : Int) / 16777216).toNat = n / 16777216 := by omega
  have e2 : ((n : Int) / 65536 % 256).toNat = n / 65536 % 256 := by omega
  have e3 : ((n : Int) / 256 % 256).toNat = n / 256 % 256 := by omega
  have e4 : ((n : Int) % 256).toNat = n % 256 := by omega
  rw [e1, e2, e3, e4, Int.toNat_natCast]
  have p1 := pop8_le (n / 16777216) (by omega)
  have p2 := pop8_le (n / 65536 % 256) (by omega)
  have p3 := pop8_le (n / 256 % 256) (by omega)
  have p4 := pop8_le (n % 256) (by omega)
  omega

/-- What 'long' hands back: some quotient, and that remainder. -/
def LongPost (r : Int) (w : World) (e : Ending) (w' : World) : Prop := ∃ q : Int, e = .returned (.tuple #[.int .u64 q, .int .u64 r]) ∧ Below w.heap.size w w'
set_option maxHeartbeats 800000 in
theorem poly_long0 (a b : Int) (a0 : 0 ≤ a) (ha : a < W64) (b0 : 0 ≤ b) (hb : b < W64) (hb0 : b ≠ 0) (w : World) :
    Calls Tryz.prog 98 #[.int .u64 0, .int .u64 a, .int .u64 b] w (LongPost (pmod a.toNat b.toNat) w) := by
  have hd : (bl b.toNat : Int) ≤ 64 := by have := bl_le64 (a := b.toNat) (by omega); omega
  have hd0 : 1 ≤ (bl b.toNat : Int) := by unfold bl; split <;> omega
  have hda : (bl a.toNat : Int) ≤ 64 := by have := bl_le64 (a := a.toNat) (by omega); omega
  have hz : bl 0 = 0 := rfl
  go_enter Tryz.func98, Tryz.ntmps98
  go_wp2_with fail
  refine (poly_Degree b b0 hb _).mono ?_
  rintro e w1 ⟨rfl, B1⟩
  go_wp2_with fail
  refine (poly_Degree 0 (by omega) (by decide) _).mono ?_
  rintro e w2 ⟨rfl, B2⟩
  go_wp2_with fail
  refine wp_loop_once ?_
  go_wp2_with fail
  refine (poly_Degree a a0 ha _).mono ?_
  rintro e w3 ⟨rfl, B3⟩
  go_wp2_with fail
  obtain ⟨d, hdd⟩ : ∃ d : Nat, d = b.toNat.log2 := ⟨_, rfl⟩
  have hbl : (bl b.toNat : Int) = d + 1 := by unfold bl; rw [if_neg (by omega), hdd]; simp
  have HD := Lib.hid hdd; clear hdd
  rw [hbl] at hd hd0 ⊢
  clear hbl
  go_loop [1, 6, 11] (fun lo q i => ∃ (x y j : Int), lo = .int .u64 x ∧ q = .int .u64 y ∧ i = .int .i64 j ∧ 0 ≤ x ∧ x < W64 ∧ -1 ≤ j ∧ j < 64 ∧ Hid (pred b.toNat d (j - d + 1).toNat x.toNat = pmod a.toNat b.toNat)) (fun _ _ i => (intOf i + 1).toNat)
  case atStart =>
    refine ⟨_, _, _, rfl, rfl, rfl, a0, ha, by omega, by omega, ?_⟩
    show _ = _
    unfold pmod
    rw [← HD.out]
    congr 1
    omega
  case round =>
    obtain ⟨x, y, j, rfl, rfl, rfl, x0, hx, j0, hj, HR⟩ := hrel
    by_cases hc : (d : Int) ≤ j
    · obtain ⟨n, rfl⟩ : ∃ n : Nat, j = d + n := ⟨(j - d).toNat, by omega⟩
      have hj' : 0 ≤ (d : Int) + n := by omega
      have ht := bit64_ne x0 hx ((d : Int) + n).toNat
      rw [show ((d : Int) + n).toNat = d + n by omega] at ht
      have hn : b.toNat.log2 + n < 64 := by rw [← HD.out]; omega
      obtain ⟨e1, e2⟩ := long_round x0 hx b0 n hb0 hn
      have E1 := Lib.hid e1; clear e1
      have e3 : ((d : Int) + n - d + 1).toNat = n + 1 := by omega
      have hr := HR.out
      rw [e3] at hr
      have HR' := Lib.hid hr; clear hr HR e3
      cases hb : x.toNat.testBit (d + n)
      all_goals
        rw [hb] at ht
        have hb' := Lib.hid hb; clear hb
        go_wp2
        go_round
        case measure => simp [intOf]; omega
      · refine ⟨x, _, _, rfl, rfl, rfl, x0, hx, by omega, by omega, ?_⟩
        show _ = _
        rw [← HR'.out, pred_no hb'.out]
        congr 1
        omega
      · refine ⟨_, _, _, rfl, rfl, rfl, ?_, ?_, by omega, by omega, ?_⟩
        · rw [E1.out]; omega
        · rw [E1.out]; omega
        · show _ = _
          rw [E1.out, ← HR'.out, pred_yes hb'.out, Int.toNat_natCast]
          congr 1
          omega
    · have hr := HR.out
      rw [show (j - (d : Int) + 1).toNat = 0 by omega, pred_zero] at hr
      have HR' := Lib.hid hr; clear hr HR
      go_wp2
      go_ret2
      refine ⟨y, ?_, B1.trans ((B2.trans (B3.mono B2.size)).mono B1.size)⟩
      rw [← HR'.out, show ((x.toNat : Nat) : Int) = x by omega]
      rfl

theorem poly_rest (a b : Int) (a0 : 0 ≤ a) (ha : a < W64) (b0 : 0 ≤ b) (hb : b < W64) (hb0 : b ≠ 0) (w : World) :
    Pure Tryz.prog 95 #[.int .u64 a, .int .u64 b] w (.int .u64 (pmod a.toNat b.toNat)) := by
  go_enter Tryz.func95, Tryz.ntmps95
  go_wp2_with fail
  refine (poly_long0 a b a0 ha b0 hb hb0 _).mono ?_
  rintro e w1 ⟨q, rfl, B1⟩
  go_wp2
  go_ret
  exact ⟨rfl, B1⟩

theorem pmod_W64 {a b : Int} (hb : b < W64) (b0 : 0 ≤ b) (hb0 : b ≠ 0) : ((pmod a.toNat b.toNat : Nat) : Int) < W64 := by
  have := pmod_lt_self a.toNat (m := b.toNat) (by omega)
  omega
set_option maxHeartbeats 400000 in
theorem poly_Gcd (a b : Int) (a0 : 0 ≤ a) (ha : a < W64) (b0 : 0 ≤ b) (hb : b < W64) (w : World) :
    Pure Tryz.prog 89 #[.int .u64 a, .int .u64 b] w (.int .u64 (pgcd a.toNat b.toNat)) := by
  go_enter Tryz.func89, Tryz.ntmps89
  go_wp2_with fail
  go_loopw [0, 1] (fun x y wr => ∃ p q : Int, x = .int .u64 p ∧ y = .int .u64 q ∧ 0 ≤ p ∧ p < W64 ∧ 0 ≤ q ∧ q < W64 ∧ Hid (pgcd p.toNat q.toNat = pgcd a.toNat b.toNat) ∧ Below w.heap.size w wr) (fun _ y _ => (intOf y).toNat)
  case atStart => exact ⟨a, b, rfl, rfl, a0, ha, b0, hb, rfl, Below.refl _ _⟩
  case round =>
    obtain ⟨p, q, rfl, rfl, p0, hp, q0, hq, HG, HB⟩ := hrel
    by_cases hz : q = 0
    · have hzb : (q != 0) = false := by simp [hz]
      have HZ := Lib.hid hz; clear hz
      go_wp2
      go_ret
      refine ⟨ret_int ?_, HB⟩
      have := HG.out
      rw [HZ.out] at this
      rw [← this]
      show p = (pgcd p.toNat 0 : Nat)
      rw [pgcd_zero]
      omega
    · have hzb : (q != 0) = true := by simp [hz]
      have hlt := pmod_lt_self p.toNat (m := q.toNat) (by omega)
      have hw := pmod_W64 (a := p) hq q0 hz
      have hg := pgcd_step p.toNat (b := q.toNat) (by omega)
      have HH := Lib.hid hg; clear hg
      go_wp2_with fail
      refine (poly_rest p q p0 hp q0 hq hz _).mono ?_
      rintro e w1 ⟨rfl, B1⟩
      go_wp2
      go_roundw
      case rel =>
        refine ⟨q, _, rfl, rfl, q0, hq, by omega, hw, ?_, HB.trans (B1.mono HB.size)⟩
        show _ = _
        rw [Int.toNat_natCast, ← HH.out]
        exact HG.out
      case measure => simp [intOf]; omega

/-! ### The same by the document -/
set_option maxHeartbeats 400000 in
theorem ref_Degree (x : Int) (h0 : 0 ≤ x) (hx : x < W64) (w : World) : Pure Tryz.prog 99 #[.int .u64 x] w (.int .i64 ((bl x.toNat : Int) - 1)) := by
  go_enter Tryz.func99, Tryz.ntmps99
  go_wp2_with fail
  go_loop [0, 3] (fun a n => ∃ y j : Int, a = .int .u64 y ∧ n = .int .i64 j ∧ 0 ≤ y ∧ y < W64 ∧ -1 ≤ j ∧ j + (bl y.toNat : Int) ≤ 63 ∧ Hid (j + (bl y.toNat : Int) = (bl x.toNat : Int) - 1)) (fun a _ => (intOf a).toNat)
  case atStart =>
    have := bl_le64 (a := x.toNat) (by omega)
    exact ⟨x, _, rfl, rfl, h0, hx, by omega, by omega, by show _ = _; omega⟩
  case round =>
    obtain ⟨y, j, rfl, rfl, y0, hy, j0, hj, HJ⟩ := hrel
    by_cases hz : y = 0
    · have hzb : (y != 0) = false := by simp [hz]
      have HZ := Lib.hid hz; clear hz
      go_wp2
      go_ret
      refine ⟨ret_int ?_, Below.refl _ _⟩
      have := HJ.out
      rw [HZ.out, show bl (0 : Int).toNat = 0 from rfl] at this
      omega
    · have hzb : (y != 0) = true := by simp [hz]
      have hs : (bl y.toNat : Int) = 1 + bl (y / 2).toNat := bl_half (by omega)
      have HS := Lib.hid hs
      have hj' : j ≤ 62 := by omega
      clear hs
      go_wp2
      go_round
      case rel =>
        have := HS.out
        have := HJ.out
        exact ⟨y / 2, j + 1, rfl, rfl, by omega, by omega, by omega, by omega, by show _ = _; omega⟩
      case measure => simp [intOf]; omega

theorem ref_Bit (x i : Int) (h0 : 0 ≤ x) (hx : x < W64) (i0 : 0 ≤ i) (hi : i < 64) (w : World) : Pure Tryz.prog 100 #[.int .u64 x, .int .i64 i] w (.int .u64 (bitN x.toNat i.toNat)) := by
  have hb := bit64N h0 hx i.toNat
  go_enter Tryz.func100, Tryz.ntmps100
  go_wp2
  go_ret
  exact ⟨rfl, Below.refl _ _⟩
end Go.Proofs.YtnjmplapjnnjdaaGreat
/- The walks of the document's own reckoning: long division, common divisors, parities. -/
namespace Go.Proofs.YtnjmplapjnnjdaaGreat
open Go.RowKit

/-- What holds ahead of each place of the document's long division. -/
structure WInv (a b d : Nat) (j r : Int) : Prop where
  r0 : 0 ≤ r
  rl : r.toNat < 2 ^ d
  hi : 64 ≤ j → r = 0
  z : d = 0 → r = 0
  f : 0 < d → wfold b d a (min (j + 1) 64).toNat r.toNat = pmod a b
set_option maxHeartbeats 1000000 in
theorem ref_Whole0 (a b : Int) (a0 : 0 ≤ a) (ha : a < W64) (b0 : 0 ≤ b) (hb : b < W64) (hb0 : b ≠ 0) (w : World) :
    Calls Tryz.prog 96 #[.int .u64 0, .int .u64 a, .int .u64 b] w (LongPost (pmod a.toNat b.toNat) w) := by
  obtain ⟨d, hdd⟩ : ∃ d : Nat, d = b.toNat.log2 := ⟨_, rfl⟩
  have hd : (d : Int) ≤ 63 := by have := bl_le64 (a := b.toNat) (by omega); unfold bl at this; rw [if_neg (by omega)] at this; omega
  have hbl : (bl b.toNat : Int) - 1 = d := by unfold bl; rw [if_neg (by omega), hdd]; simp
  have HD := Lib.hid hdd; clear hdd
  have hdeg := ref_Degree b b0 hb w
  rw [hbl] at hdeg
  have HDEG := Lib.hid hdeg; clear hdeg hbl
  go_enter Tryz.func96, Tryz.ntmps96
  go_wp2_with fail
  refine HDEG.out.mono ?_
  rintro e w1 ⟨rfl, B1⟩
  go_wp2_with fail
  go_loopw [8, 9, 11, 12] (fun q r i n wr => ∃ (y x j : Int), q = .int .u64 y ∧ r = .int .u64 x ∧ i = .int .i64 j ∧ -1 ≤ j ∧ j ≤ 127 ∧ WInv a.toNat b.toNat d j x ∧ Below w.heap.size w wr) (fun _ _ i _ _ => (intOf i + 1).toNat)
  case atStart =>
    refine ⟨0, 0, 127, rfl, rfl, rfl, by omega, by omega, ⟨by omega, Nat.pow_pos (by decide), fun _ => rfl, fun _ => rfl, fun h => ?_⟩, B1⟩
    rw [HD.out] at h ⊢
    exact wfold_pmod (by omega) 64 (by have : a.toNat < W64 := by omega
                                       exact this)
  case round =>
    obtain ⟨y, x, j, rfl, rfl, rfl, j0, hj, HI, HB⟩ := hrel
    have hx0 := HI.r0
    have hxl : x < 9223372036854775808 := by
      have h1 := HI.rl
      have h2 : 2 ^ d ≤ 2 ^ 63 := Nat.pow_le_pow_right (by decide) (by omega)
      omega
    have HXL := Lib.hid hxl; clear hxl
    by_cases hc : 0 ≤ j
    · by_cases hd0 : d = 0
      · obtain rfl : x = 0 := HI.z hd0
        have hd1 : ((d : Int) == 0) = true := by simp [hd0]
        have HD0 := Lib.hid hd0; clear hd0
        have hrel' : WInv a.toNat b.toNat d (j - 1) 0 := ⟨by omega, Nat.pow_pos (by decide), fun _ => rfl, fun _ => rfl, fun h => absurd h (by rw [HD0.out]; decide)⟩
        by_cases h64 : 64 ≤ j
        · go_wp2_with fail
          refine (ref_Bit 0 (j - 64) (by omega) (by decide) (by omega) (by omega) _).mono ?_
          rintro e w2 ⟨rfl, B2⟩
          go_wp2
          go_roundw
          case measure => simp only [intOf]; omega
          case rel => exact ⟨_, 0, _, rfl, rfl, rfl, by omega, by omega, hrel', HB.trans (B2.mono HB.size)⟩
        · go_wp2_with fail
          refine (ref_Bit a j a0 ha (by omega) (by omega) _).mono ?_
          rintro e w2 ⟨rfl, B2⟩
          go_wp2
          go_roundw
          case measure => simp only [intOf]; omega
          case rel => exact ⟨_, 0, _, rfl, rfl, rfl, by omega, by omega, hrel', HB.trans (B2.mono HB.size)⟩
      · have hd1 : ((d : Int) == 0) = false := by simp; omega
        by_cases h64 : 64 ≤ j
        · obtain rfl : x = 0 := HI.hi h64
          have hw0 : bits .or .u64 0 0 = 0 := by decide
          have hb0' : bitN 0 (j - 64).toNat = 0 := by simp [bitN]
          have hb1' : bitN 0 d = 0 := by simp [bitN]
          have hrel' : WInv a.toNat b.toNat d (j - 1) 0 := by
            refine ⟨by omega, Nat.pow_pos (by decide), fun _ => rfl, fun _ => rfl, fun h => ?_⟩
            have := HI.f h
            rw [show (min (j + 1) 64).toNat = 64 by omega] at this
            rw [show (min (j - 1 + 1) 64).toNat = 64 by omega]
            exact this
          go_wp2_with fail
          refine (ref_Bit 0 (j - 64) (by omega) (by decide) (by omega) (by omega) _).mono ?_
          rintro e w2 ⟨rfl, B2⟩
          go_wp2_with fail
          refine (ref_Bit 0 d (by omega) (by decide) (by omega) (by omega) _).mono ?_
          rintro e w3 ⟨rfl, B3⟩
          go_wp2
          go_roundw
          case measure => simp only [intOf]; omega
          case rel => exact ⟨_, 0, _, rfl, rfl, rfl, by omega, by omega, hrel', HB.trans ((B2.trans (B3.mono B2.size)).mono HB.size)⟩
        · obtain ⟨n, rfl⟩ := Int.eq_ofNat_of_zero_le hc
          have hbl := bitN_lt a.toNat n
          have hor := or_shl1 hx0 HXL.out hbl
          have hm : b.toNat < 2 ^ (d + 1) := by rw [HD.out]; exact Nat.lt_log2_self
          have ht : b.toNat.testBit d = true := by rw [HD.out]; exact testBit_top (by omega)
          have hwl := wstep_lt hm ht HI.rl hbl
          have hwf : wfold b.toNat d a.toNat n (wstep b.toNat d x.toNat (bitN a.toNat n)) = pmod a.toNat b.toNat := by
            have := HI.f (by omega)
            rw [show (min ((n : Int) + 1) 64).toNat = n + 1 by omega, wfold, ← bitN_div] at this
            exact this
          have hlt : 2 * x.toNat + bitN a.toNat n < W64 := by have := HXL.out; unfold W64; omega
          have hgr0 : wstep b.toNat d x.toNat (bitN a.toNat n) = if (2 * x.toNat + bitN a.toNat n).testBit d then (2 * x.toNat + bitN a.toNat n) ^^^ b.toNat else 2 * x.toNat + bitN a.toNat n := rfl
          generalize 2 * x.toNat + bitN a.toNat n = s at *
          have HOR := Lib.hid hor
          have HHM := Lib.hid hm; clear hm
          have HT := Lib.hid ht; clear ht
          have HWF := Lib.hid hwf; clear hwf
          generalize wstep b.toNat d x.toNat (bitN a.toNat n) = r at *
          have HGR := Lib.hid hgr0; clear hgr0
          have hrel' : WInv a.toNat b.toNat d ((n : Int) - 1) r := by
            refine ⟨by omega, by simpa using hwl, fun _ => by omega, fun h => absurd h hd0, fun h => ?_⟩
            rw [show (min ((n : Int) - 1 + 1) 64).toNat = n by omega, Int.toNat_natCast]
            exact HWF.out
          have HWL := Lib.hid hwl; clear hwl
          clear hd0
          go_wp2_with fail
          refine (ref_Bit a n a0 ha (by omega) (by omega) _).mono ?_
          rintro e w2 ⟨rfl, B2⟩
          go_wp2_with fail
          refine (ref_Bit _ d (by omega) (by omega) (by omega) (by omega) _).mono ?_
          rintro e w3 ⟨rfl, B3⟩
          cases hbt : s.testBit d
          · have hbn := bitN_no hbt
            have hr : r = s := by rw [HGR.out, hbt]; rfl
            clear hbt
            have HR := Lib.hid hr; clear hr
            go_wp2
            go_roundw
            case measure => simp only [intOf]; omega
            case rel => exact ⟨_, _, _, rfl, by rw [HR.out], rfl, by omega, by omega, hrel', HB.trans ((B2.trans (B3.mono B2.size)).mono HB.size)⟩
          · have hbn := bitN_yes hbt
            have hr : r = s ^^^ b.toNat := by rw [HGR.out, hbt]; rfl
            have hx : bits .xor .u64 (s : Int) b = (r : Int) := by
              rw [xor64 (by omega) (by omega) b0 hb, Int.toNat_natCast, hr]
            clear hbt hr
            go_wp2
            go_roundw
            case measure => simp only [intOf]; omega
            case rel => exact ⟨_, _, _, rfl, rfl, rfl, by omega, by omega, hrel', HB.trans ((B2.trans (B3.mono B2.size)).mono HB.size)⟩
    · have hj1 : j = -1 := by omega
      have hr : (x : Int) = pmod a.toNat b.toNat := by
        by_cases hd0 : d = 0
        · rw [HI.z hd0]
          have := pmod_lt a.toNat (m := b.toNat) (by omega)
          rw [← HD.out, hd0] at this
          omega
        · have := HI.f (by omega)
          rw [hj1, show (min ((-1 : Int) + 1) 64).toNat = 0 by decide, wfold] at this
          omega
      have HR := Lib.hid hr
      clear hr hj1
      go_wp2
      go_ret2
      refine ⟨y, ?_, HB⟩
      rw [← HR.out]
      rfl

set_option maxHeartbeats 400000 in
theorem ref_Gcd (a b : Int) (a0 : 0 ≤ a) (ha : a < W64) (b0 : 0 ≤ b) (hb : b < W64) (w : World) :
    Pure Tryz.prog 91 #[.int .u64 a, .int .u64 b] w (.int .u64 (pgcd a.toNat b.toNat)) := by
  go_enter Tryz.func91, Tryz.ntmps91
  go_wp2_with fail
  go_loopw [0, 1, 5, 6] (fun x y _ _ wr => ∃ p q : Int, x = .int .u64 p ∧ y = .int .u64 q ∧ 0 ≤ p ∧ p < W64 ∧ 0 ≤ q ∧ q < W64 ∧ Hid (pgcd p.toNat q.toNat = pgcd a.toNat b.toNat) ∧ Below w.heap.size w wr) (fun _ y _ _ _ => (intOf y).toNat)
  case atStart => exact ⟨a, b, rfl, rfl, a0, ha, b0, hb, rfl, Below.refl _ _⟩
  case round =>
    obtain ⟨p, q, rfl, rfl, p0, hp, q0, hq, HG, HB⟩ := hrel
    by_cases hz : q = 0
    · have hzb : (q != 0) = false := by simp [hz]
      have HZ := Lib.hid hz; clear hz
      go_wp2
      go_ret
      refine ⟨ret_int ?_, HB⟩
      have := HG.out
      rw [HZ.out] at this
      rw [← this]
      show p = (pgcd p.toNat 0 : Nat)
      rw [pgcd_zero]
      omega
    · have hzb : (q != 0) = true := by simp [hz]
      have hlt := pmod_lt_self p.toNat (m := q.toNat) (by omega)
      have hw := pmod_W64 (a := p) hq q0 hz
      have hg := pgcd_step p.toNat (b := q.toNat) (by omega)
      have HH := Lib.hid hg; clear hg
      go_wp2_with fail
      refine (ref_Whole0 p q p0 hp q0 hq hz _).mono ?_
      rintro e w1 ⟨k, rfl, B1⟩
      go_wp2
      go_roundw
      case rel =>
        refine ⟨q, _, rfl, rfl, q0, hq, by omega, hw, ?_, HB.trans (B1.mono HB.size)⟩
        show _ = _
        rw [Int.toNat_natCast, ← HH.out]
        exact HG.out
      case measure => simp only [intOf]; omega

theorem parF_zero : ∀ k, parF k 0 = 0
  | 0 => rfl
  | k + 1 => by simp [parF, parF_zero k]
theorem parF_more : ∀ (k v : Nat), v < 2 ^ k → ∀ j, k ≤ j → parF j v = parF k v
  | 0, v, h, j, _ => by
    obtain rfl : v = 0 := by simpa using h
    simp [parF_zero]
  | k + 1, v, h, j, hj => by
    obtain ⟨i, rfl⟩ : ∃ i, j = i + 1 := ⟨j - 1, by omega⟩
    unfold parF
    rw [parF_more k (v / 2) (by rw [Nat.pow_succ] at h; omega) i (by omega)]
theorem par_half (v : Nat) (h : v < 4294967296) : par v = (v % 2 + par (v / 2)) % 2 := by
  show parF 32 v = (v % 2 + parF 32 (v / 2)) % 2
  rw [parF_more 31 (v / 2) (by omega) 32 (by omega)]
  rfl
theorem par_lt (v : Nat) : par v < 2 := parF_lt 32 v
theorem xor_u8_bit : ∀ a b : Nat, a < 2 → b < 2 → bits .xor .u8 (a : Int) (b : Int) = (((a + b) % 2 : Nat) : Int) := by
  intro a b ha hb
  have h1 : a = 0 ∨ a = 1 := by omega
  have h2 : b = 0 ∨ b = 1 := by omega
  rcases h1 with rfl | rfl <;> rcases h2 with rfl | rfl <;> decide
set_option maxHeartbeats 400000 in
theorem ref_parity (x : Int) (h0 : 0 ≤ x) (hx : x < 4294967296) (w : World) : Pure Tryz.prog 101 #[.int .u32 x] w (.int .u8 (par x.toNat)) := by
  go_enter Tryz.func101, Tryz.ntmps101
  go_wp2_with fail
  go_loop [0, 3] (fun v p => ∃ (y : Int) (a : Nat), v = .int .u32 y ∧ p = .int .u8 a ∧ 0 ≤ y ∧ y < 4294967296 ∧ a < 2 ∧ Hid ((a + par y.toNat) % 2 = par x.toNat)) (fun v _ => (intOf v).toNat)
  case atStart => exact ⟨x, 0, rfl, rfl, h0, hx, by omega, by show _ = _; have := par_lt x.toNat; omega⟩
  case round =>
    obtain ⟨y, a, rfl, rfl, y0, hy, ha, HP⟩ := hrel
    by_cases hz : y = 0
    · have hzb : (y != 0) = false := by simp [hz]
      have HZ := Lib.hid hz; clear hz
      go_wp2
      go_ret
      refine ⟨ret_int ?_, Below.refl _ _⟩
      have := HP.out
      rw [HZ.out, show par (0 : Int).toNat = 0 from by decide] at this
      omega
    · have hzb : (y != 0) = true := by simp [hz]
      have hb := xor_u8_bit a (y.toNat % 2) ha (by omega)
      rw [show ((y.toNat % 2 : Nat) : Int) = y % 2 by omega] at hb
      have hp := par_half y.toNat (by omega)
      have HH := Lib.hid hp; clear hp
      have HB := Lib.hid hb; clear hb
      go_wp2
      go_round
      case rel =>
        refine ⟨y / 2, (a + y.toNat % 2) % 2, rfl, by rw [HB.out], by omega, by omega, by omega, ?_⟩
        show _ = _
        have h1 := HP.out
        have h2 := HH.out
        rw [show (y / 2).toNat = y.toNat / 2 by omega]
        omega
      case measure => simp only [intOf]; omega
end Go.Proofs.YtnjmplapjnnjdaaGreat
