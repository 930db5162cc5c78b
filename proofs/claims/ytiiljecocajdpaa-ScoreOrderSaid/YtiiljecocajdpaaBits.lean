/- Bit operations on unsigned numbers, as operations on natural numbers. -/
import Derived.Test.YtiiljecocajdpaaTypes
import Derived.Test.YtiiljecocajdpaaMath
namespace Go.Proofs.Ytiiljecocajdpaa
open Go.RowKit

theorem toNat_int {x : Int} (h : 0 ≤ x) : ∃ n : Nat, x = n ∧ x.toNat = n := ⟨x.toNat, by omega, rfl⟩
theorem bits_u (k : IntKind) (hs : k.signed = false) (a b : Nat) (ha : a < 2 ^ k.bits) (hb : b < 2 ^ k.bits) :
    bits .and k a b = ((a &&& b : Nat) : Int) ∧ bits .or k a b = ((a ||| b : Nat) : Int) ∧ bits .xor k a b = ((a ^^^ b : Nat) : Int) := by
  have hw : ∀ n : Nat, n < 2 ^ k.bits → k.wrap n = n := fun n hn => by
    unfold IntKind.wrap
    simp only [hs, Bool.false_eq_true, false_and, if_false, Bool.false_and]
    exact_mod_cast Nat.mod_eq_of_lt hn
  have ha' : a % 2 ^ k.bits = a := Nat.mod_eq_of_lt ha
  have hb' : b % 2 ^ k.bits = b := Nat.mod_eq_of_lt hb
  refine ⟨?_, ?_, ?_⟩
  · simp only [bits, BitVec.ofInt_natCast, BitVec.toNat_and, BitVec.toNat_ofNat, ha', hb']
    exact hw _ (Nat.and_lt_two_pow _ hb)
  · simp only [bits, BitVec.ofInt_natCast, BitVec.toNat_or, BitVec.toNat_ofNat, ha', hb']
    exact hw _ (Nat.or_lt_two_pow ha hb)
  · simp only [bits, BitVec.ofInt_natCast, BitVec.toNat_xor, BitVec.toNat_ofNat, ha', hb']
    exact hw _ (Nat.xor_lt_two_pow ha hb)
/-- for numbers of 32 bits -/
theorem and32 {x y : Int} (h0 : 0 ≤ x) (h1 : x < 4294967296) (g0 : 0 ≤ y) (g1 : y < 4294967296) : bits .and .u32 x y = ((x.toNat &&& y.toNat : Nat) : Int) := by
  obtain ⟨a, rfl, e⟩ := toNat_int h0; obtain ⟨b, rfl, f⟩ := toNat_int g0
  rw [e, f]; exact (bits_u .u32 rfl a b (by simp only [IntKind.bits]; omega) (by simp only [IntKind.bits]; omega)).1
theorem or32 {x y : Int} (h0 : 0 ≤ x) (h1 : x < 4294967296) (g0 : 0 ≤ y) (g1 : y < 4294967296) : bits .or .u32 x y = ((x.toNat ||| y.toNat : Nat) : Int) := by
  obtain ⟨a, rfl, e⟩ := toNat_int h0; obtain ⟨b, rfl, f⟩ := toNat_int g0
  rw [e, f]; exact (bits_u .u32 rfl a b (by simp only [IntKind.bits]; omega) (by simp only [IntKind.bits]; omega)).2.1
theorem xor32 {x y : Int} (h0 : 0 ≤ x) (h1 : x < 4294967296) (g0 : 0 ≤ y) (g1 : y < 4294967296) : bits .xor .u32 x y = ((x.toNat ^^^ y.toNat : Nat) : Int) := by
  obtain ⟨a, rfl, e⟩ := toNat_int h0; obtain ⟨b, rfl, f⟩ := toNat_int g0
  rw [e, f]; exact (bits_u .u32 rfl a b (by simp only [IntKind.bits]; omega) (by simp only [IntKind.bits]; omega)).2.2
theorem and64 {x y : Int} (h0 : 0 ≤ x) (h1 : x < W64) (g0 : 0 ≤ y) (g1 : y < W64) : bits .and .u64 x y = ((x.toNat &&& y.toNat : Nat) : Int) := by
  obtain ⟨a, rfl, e⟩ := toNat_int h0; obtain ⟨b, rfl, f⟩ := toNat_int g0
  unfold W64 at h1 g1
  rw [e, f]; exact (bits_u .u64 rfl a b (by simp only [IntKind.bits]; omega) (by simp only [IntKind.bits]; omega)).1
theorem or64 {x y : Int} (h0 : 0 ≤ x) (h1 : x < W64) (g0 : 0 ≤ y) (g1 : y < W64) : bits .or .u64 x y = ((x.toNat ||| y.toNat : Nat) : Int) := by
  obtain ⟨a, rfl, e⟩ := toNat_int h0; obtain ⟨b, rfl, f⟩ := toNat_int g0
  unfold W64 at h1 g1
  rw [e, f]; exact (bits_u .u64 rfl a b (by simp only [IntKind.bits]; omega) (by simp only [IntKind.bits]; omega)).2.1
theorem xor64 {x y : Int} (h0 : 0 ≤ x) (h1 : x < W64) (g0 : 0 ≤ y) (g1 : y < W64) : bits .xor .u64 x y = ((x.toNat ^^^ y.toNat : Nat) : Int) := by
  obtain ⟨a, rfl, e⟩ := toNat_int h0; obtain ⟨b, rfl, f⟩ := toNat_int g0
  unfold W64 at h1 g1
  rw [e, f]; exact (bits_u .u64 rfl a b (by simp only [IntKind.bits]; omega) (by simp only [IntKind.bits]; omega)).2.2
theorem or_lt32 {a b : Nat} (ha : a < 4294967296) (hb : b < 4294967296) : a ||| b < 4294967296 := Nat.or_lt_two_pow (n := 32) ha hb
theorem mask32 {x : Int} (i : Nat) (hi : i ≤ 32) (h0 : 0 ≤ x) (h1 : x < 4294967296) : bits .and .u32 x (2 ^ i - 1) = x % 2 ^ i :=
  bits_mask .u32 32 (by decide) (fun n h0 h1 => by rw [IntKind.wrap_u32]; omega) i hi x h0 h1
theorem mask64 {x : Int} (i : Nat) (hi : i ≤ 64) (h0 : 0 ≤ x) (h1 : x < W64) : bits .and .u64 x (2 ^ i - 1) = x % 2 ^ i :=
  bits_mask .u64 64 (by decide) (fun n h0 h1 => by simp [IntKind.wrap, IntKind.bits, IntKind.signed]; omega) i hi x h0 (by unfold W64 at h1; omega)

theorem divpow_nat (n j : Nat) : (n : Int) / 2 ^ j = ((n / 2 ^ j : Nat) : Int) := by
  rw [Int.natCast_ediv]; simp
theorem divpow_lt {x : Int} (h0 : 0 ≤ x) (h1 : x < W64) (j : Nat) : 0 ≤ x / 2 ^ j ∧ x / 2 ^ j < W64 := by
  obtain ⟨n, rfl⟩ := Int.eq_ofNat_of_zero_le h0
  rw [divpow_nat]
  have := Nat.div_le_self n (2 ^ j)
  generalize n / 2 ^ j = q at *
  omega
/-- 'x >> j & 1' -/
theorem bit64 {x : Int} (h0 : 0 ≤ x) (h1 : x < W64) (j : Nat) : bits .and .u64 (x / 2 ^ j) 1 = if x.toNat.testBit j then 1 else 0 := by
  obtain ⟨g0, g1⟩ := divpow_lt h0 h1 j
  have h := mask64 1 (by decide) g0 g1
  rw [show (2 : Int) ^ 1 - 1 = 1 from rfl] at h
  rw [h]
  obtain ⟨n, rfl⟩ := Int.eq_ofNat_of_zero_le h0
  rw [divpow_nat, Int.toNat_natCast, Nat.testBit_eq_decide_div_mod_eq]
  simp only [Int.pow_succ, Int.pow_zero, Int.one_mul, decide_eq_true_eq]
  split <;> omega
theorem bit64N {x : Int} (h0 : 0 ≤ x) (h1 : x < W64) (j : Nat) : bits .and .u64 (x / 2 ^ j) 1 = (bitN x.toNat j : Nat) := by
  rw [bit64 h0 h1]
  unfold bitN
  split <;> rfl
theorem bit64_ne {x : Int} (h0 : 0 ≤ x) (h1 : x < W64) (j : Nat) : (bits .and .u64 (x / 2 ^ j) 1 != 0) = x.toNat.testBit j := by
  rw [bit64 h0 h1]
  cases x.toNat.testBit j <;> rfl
/-- 'b << n', where nothing is lost -/
theorem shl64 {b : Int} (h0 : 0 ≤ b) (n : Nat) (h : b.toNat * 2 ^ n < W64) : IntKind.u64.wrap (b * 2 ^ n) = ((b.toNat <<< n : Nat) : Int) := by
  obtain ⟨m, rfl⟩ := Int.eq_ofNat_of_zero_le h0
  rw [Int.toNat_natCast] at h ⊢
  have e : (m : Int) * 2 ^ n = ((m * 2 ^ n : Nat) : Int) := by simp
  rw [e, Nat.shiftLeft_eq]
  unfold IntKind.wrap
  simp only [IntKind.signed, Bool.false_and, Bool.false_eq_true, if_false, IntKind.bits]
  exact_mod_cast Nat.mod_eq_of_lt h
theorem pow_le_W64 {n : Nat} (h : n ≤ 64) : 2 ^ n ≤ W64 := by
  have := Nat.pow_le_pow_right (n := 2) (by decide) h
  exact this
/-- 'r << 1 | b' -/
theorem or_shl1 {x : Int} {b : Nat} (h0 : 0 ≤ x) (h1 : x < 9223372036854775808) (hb : b < 2) : bits .or .u64 (IntKind.u64.wrap (x * 2)) b = ((2 * x.toNat + b : Nat) : Int) := by
  have hw : IntKind.u64.wrap (x * 2) = x * 2 := by
    simp [IntKind.wrap, IntKind.bits, IntKind.signed]
    omega
  rw [hw, or64 (by omega) (by unfold W64; omega) (by omega) (by unfold W64; omega)]
  congr 1
  rw [Int.toNat_natCast, show (x * 2).toNat = 2 ^ 1 * x.toNat by omega, ← Nat.two_pow_add_eq_or_of_lt (by omega)]
/-- One place of a long division. -/
theorem long_round {x b : Int} (h0 : 0 ≤ x) (h1 : x < W64) (b0 : 0 ≤ b) (n : Nat) (hb0 : b ≠ 0) (hn : b.toNat.log2 + n < 64) :
    bits .xor .u64 x (IntKind.u64.wrap (b * 2 ^ n)) = ((x.toNat ^^^ (b.toNat <<< n) : Nat) : Int) ∧ x.toNat ^^^ (b.toNat <<< n) < W64 := by
  have hl : b.toNat * 2 ^ n < 2 ^ 64 := by
    have h2 : b.toNat < 2 ^ (b.toNat.log2 + 1) := Nat.lt_log2_self
    calc b.toNat * 2 ^ n < 2 ^ (b.toNat.log2 + 1) * 2 ^ n := (Nat.mul_lt_mul_right (Nat.pow_pos (by decide))).2 h2
      _ = 2 ^ (b.toNat.log2 + 1 + n) := (Nat.pow_add ..).symm
      _ ≤ 2 ^ 64 := Nat.pow_le_pow_right (by decide) (by omega)
  have hs := shl64 b0 n hl
  have hx : x.toNat < 2 ^ 64 := by have : x.toNat < W64 := by omega
                                   exact this
  have hk : b.toNat <<< n < 2 ^ 64 := by rw [Nat.shiftLeft_eq]; exact hl
  have hk' : b.toNat <<< n < W64 := hk
  constructor
  · rw [hs, xor64 h0 h1 (by omega) (by omega)]
    rw [Int.toNat_natCast]
  · exact Nat.xor_lt_two_pow hx hk
end Go.Proofs.Ytiiljecocajdpaa
