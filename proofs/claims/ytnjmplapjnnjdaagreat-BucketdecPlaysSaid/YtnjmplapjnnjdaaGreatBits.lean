/- Plain laws of numbers: lengths in bits, remainders and common divisors of polynomials over the field of two elements, parities. No program in sight. -/
import Derived.Test.YtnjmplapjnnjdaaGreatTypes
set_option linter.unusedSimpArgs false
set_option linter.unusedVariables false
set_option linter.unnecessarySimpa false
namespace Go.Proofs.YtnjmplapjnnjdaaGreat

/-- The numbers of 64 bits, kept behind a name. -/
def W64 : Nat := 18446744073709551616
/-- How many bits a number has. -/
def bl (a : Nat) : Nat := if a = 0 then 0 else a.log2 + 1
theorem bl_pos {a : Nat} (h : a ≠ 0) : bl a = a.log2 + 1 := by simp [bl, h]
theorem lt_bl (a : Nat) : a < 2 ^ bl a := by
  unfold bl
  split
  · omega
  · exact Nat.lt_log2_self
theorem bl_le {a n : Nat} (h : a < 2 ^ n) : bl a ≤ n := by
  unfold bl
  split
  · omega
  · rename_i h0
    exact (Nat.log2_lt h0).2 h
theorem le_of_lt_bl {a n : Nat} (h : n < bl a) : 2 ^ n ≤ a := by
  apply Nat.le_of_not_lt
  intro hlt
  have := bl_le hlt
  omega
theorem bl_div (a k : Nat) (h : 2 ^ k ≤ a) : bl a = k + bl (a / 2 ^ k) := by
  have hp : 0 < 2 ^ k := Nat.pow_pos (by decide)
  have h0 : a ≠ 0 := by omega
  have h1 : a / 2 ^ k ≠ 0 := by
    have := Nat.div_pos h hp
    omega
  have hl := lt_bl (a / 2 ^ k)
  have hle := le_of_lt_bl (a := a / 2 ^ k) (n := bl (a / 2 ^ k) - 1) (by unfold bl; simp [h1])
  have e1 : a < 2 ^ (k + bl (a / 2 ^ k)) := by
    rw [Nat.pow_add]
    have := Nat.lt_mul_div_succ a hp
    calc a < 2 ^ k * (a / 2 ^ k + 1) := this
      _ ≤ 2 ^ k * 2 ^ bl (a / 2 ^ k) := Nat.mul_le_mul_left _ hl
  have e2 : bl a ≤ k + bl (a / 2 ^ k) := bl_le e1
  have e3 : 2 ^ (k + (bl (a / 2 ^ k) - 1)) ≤ a := by
    rw [Nat.pow_add]
    calc 2 ^ k * 2 ^ (bl (a / 2 ^ k) - 1) ≤ 2 ^ k * (a / 2 ^ k) := Nat.mul_le_mul_left _ hle
      _ ≤ a := Nat.mul_div_le a _
  have hb : 0 < bl (a / 2 ^ k) := by unfold bl; simp [h1]
  apply Nat.le_antisymm e2
  apply Nat.le_of_not_lt
  intro hlt
  have := lt_bl a
  have : 2 ^ bl a ≤ 2 ^ (k + (bl (a / 2 ^ k) - 1)) := Nat.pow_le_pow_right (by decide) (by omega)
  omega

theorem bl_int (k : Nat) (y : Int) (h : (2 : Int) ^ k ≤ y) : (bl y.toNat : Int) = k + bl (y / 2 ^ k).toNat := by
  have h0 : 0 ≤ y := Int.le_trans (Int.le_of_lt (Int.pow_pos (by decide))) h
  obtain ⟨n, rfl⟩ := Int.eq_ofNat_of_zero_le h0
  have h' : 2 ^ k ≤ n := by exact_mod_cast h
  have e : ((n : Int) / 2 ^ k).toNat = n / 2 ^ k := by
    rw [show ((2 : Int) ^ k) = ((2 ^ k : Nat) : Int) by simp, ← Int.natCast_ediv, Int.toNat_natCast]
  rw [Int.toNat_natCast, e, bl_div n k h']
  simp
theorem bl_half {y : Int} (h : 1 ≤ y) : (bl y.toNat : Int) = 1 + bl (y / 2).toNat := by
  by_cases h1 : 2 ≤ y
  · exact bl_int 1 y h1
  · obtain rfl : y = 1 := by omega
    decide
/-- A bit as a number. -/
def bitN (x j : Nat) : Nat := if x.testBit j then 1 else 0
theorem bitN_lt (x j : Nat) : bitN x j < 2 := by unfold bitN; split <;> decide
def wstep (m d : Nat) (r b : Nat) : Nat :=
  let r' := 2 * r + b
  if r'.testBit d then r' ^^^ m else r'
theorem bitN_no {x j : Nat} (h : x.testBit j = false) : bitN x j = 0 := by simp [bitN, h]
theorem bitN_yes {x j : Nat} (h : x.testBit j = true) : bitN x j = 1 := by simp [bitN, h]
theorem bitN_div (x j : Nat) : bitN x j = x / 2 ^ j % 2 := by
  unfold bitN
  rw [Nat.testBit_eq_decide_div_mod_eq]
  have := Nat.mod_lt (x / 2 ^ j) (show 0 < 2 by decide)
  by_cases h : x / 2 ^ j % 2 = 1 <;> simp [h]
  omega
theorem bl_int32 (y : Int) (h : 4294967296 ≤ y) : (bl y.toNat : Int) = 32 + bl (y / 4294967296).toNat := bl_int 32 y h
theorem bl_int16 (y : Int) (h : 65536 ≤ y) : (bl y.toNat : Int) = 16 + bl (y / 65536).toNat := bl_int 16 y h
theorem bl_int8 (y : Int) (h : 256 ≤ y) : (bl y.toNat : Int) = 8 + bl (y / 256).toNat := bl_int 8 y h
theorem bl_le64 {a : Nat} (h : a < W64) : bl a ≤ 64 := bl_le h

/-- So many steps of a long division: places d + n - 1 down to d. -/
def pred (m d : Nat) : Nat → Nat → Nat
  | 0, lo => lo
  | n + 1, lo => pred m d n (if lo.testBit (d + n) then lo ^^^ (m <<< n) else lo)
/-- The remainder of a by m, as polynomials over the field of two elements. -/
def pmod (a m : Nat) : Nat := pred m m.log2 (bl a - m.log2) a

theorem xor_lt {a b n : Nat} (ha : a < 2 ^ n) (hb : b < 2 ^ n) : a ^^^ b < 2 ^ n := Nat.xor_lt_two_pow ha hb
theorem testBit_top {m : Nat} (h : m ≠ 0) : m.testBit m.log2 = true := by
  have h1 := Nat.log2_self_le h
  have h2 := @Nat.lt_log2_self m
  rw [Nat.testBit_eq_decide_div_mod_eq]
  have : m / 2 ^ m.log2 = 1 := by
    apply Nat.div_eq_of_lt_le
    · omega
    · rw [Nat.pow_succ] at h2; omega
  simp [this]
theorem lt_of_testBit_false {a n : Nat} (h : a < 2 ^ (n + 1)) (hb : a.testBit n = false) : a < 2 ^ n := by
  rw [Nat.testBit_eq_decide_div_mod_eq] at hb
  have hp : 0 < 2 ^ n := Nat.pow_pos (by decide)
  rw [Nat.pow_succ] at h
  have h2 : a / 2 ^ n < 2 := Nat.div_lt_of_lt_mul h
  have h3 : a / 2 ^ n = 0 := by
    have hb' : ¬ a / 2 ^ n % 2 = 1 := by simpa using hb
    generalize a / 2 ^ n = q at *
    omega
  exact (Nat.div_eq_zero_iff_lt hp).1 h3

theorem pred_lt (m : Nat) (hm : m ≠ 0) : ∀ (n lo : Nat), lo < 2 ^ (m.log2 + n) → pred m m.log2 n lo < 2 ^ m.log2
  | 0, lo, h => h
  | n + 1, lo, h => by
    unfold pred
    apply pred_lt m hm n
    split
    · rename_i hb
      have hs : m <<< n < 2 ^ (m.log2 + n + 1) := by
        rw [Nat.shiftLeft_eq, show m.log2 + n + 1 = (m.log2 + 1) + n by omega, Nat.pow_add]
        exact (Nat.mul_lt_mul_right (Nat.pow_pos (by decide))).2 Nat.lt_log2_self
      refine lt_of_testBit_false (xor_lt (by rw [show m.log2 + n + 1 = m.log2 + (n + 1) by omega]; exact h) hs) ?_
      rw [Nat.testBit_xor, hb, Nat.testBit_shiftLeft]
      simp [testBit_top hm]
    · rename_i hb
      exact lt_of_testBit_false h (by simpa using hb)

theorem pmod_lt (a : Nat) {m : Nat} (hm : m ≠ 0) : pmod a m < 2 ^ m.log2 := by
  unfold pmod
  by_cases h : bl a ≤ m.log2
  · rw [Nat.sub_eq_zero_of_le h]
    exact Nat.lt_of_lt_of_le (lt_bl a) (Nat.pow_le_pow_right (by decide) h)
  · apply pred_lt m hm
    rw [Nat.add_sub_cancel' (by omega)]
    exact lt_bl a
theorem pmod_lt_self (a : Nat) {m : Nat} (hm : m ≠ 0) : pmod a m < m := Nat.lt_of_lt_of_le (pmod_lt a hm) (Nat.log2_self_le hm)

theorem pred_zero (m d lo : Nat) : pred m d 0 lo = lo := rfl
theorem pred_yes {m d n lo : Nat} (h : lo.testBit (d + n) = true) : pred m d (n + 1) lo = pred m d n (lo ^^^ (m <<< n)) := by rw [pred, if_pos h]
theorem pred_no {m d n lo : Nat} (h : lo.testBit (d + n) = false) : pred m d (n + 1) lo = pred m d n lo := by rw [pred, if_neg (by simp [h])]

/-- Euclid's way, with so many rounds at most. -/
def pgcdF : Nat → Nat → Nat → Nat
  | 0, a, _ => a
  | k + 1, a, b => if b = 0 then a else pgcdF k b (pmod a b)
def pgcd (a b : Nat) : Nat := pgcdF (bl b + 1) a b
theorem bl_pmod (a : Nat) {m : Nat} (hm : m ≠ 0) : bl (pmod a m) < bl m := by
  have := bl_le (pmod_lt a hm)
  rw [bl_pos hm]
  omega
theorem pgcdF_more : ∀ (k a b : Nat), bl b < k → ∀ k', bl b < k' → pgcdF k a b = pgcdF k' a b
  | 0, _, _, h, _, _ => by omega
  | k + 1, a, b, h, k', h' => by
    obtain ⟨j, rfl⟩ : ∃ j, k' = j + 1 := ⟨k' - 1, by omega⟩
    unfold pgcdF
    split
    · rfl
    · rename_i hb
      have := bl_pmod a hb
      exact pgcdF_more k b (pmod a b) (by omega) j (by omega)
theorem pgcd_zero (a : Nat) : pgcd a 0 = a := rfl
theorem pgcd_step (a : Nat) {b : Nat} (hb : b ≠ 0) : pgcd a b = pgcd b (pmod a b) := by
  unfold pgcd
  rw [pgcdF, if_neg hb]
  have := bl_pmod a hb
  exact pgcdF_more _ _ _ (by omega) _ (by omega)
theorem pgcd_lt : ∀ (k a b n : Nat), a < 2 ^ n → b < 2 ^ n → pgcdF k a b < 2 ^ n
  | 0, _, _, _, ha, _ => ha
  | k + 1, a, b, n, ha, hb => by
    unfold pgcdF
    split
    · exact ha
    · rename_i h0
      exact pgcd_lt k b _ n hb (Nat.lt_trans (pmod_lt_self a h0) hb)

theorem pgcd_W64 {a b : Nat} (ha : a < W64) (hb : b < W64) : pgcd a b < W64 := pgcd_lt _ a b 64 ha hb

/-! ### The remainder once more: bit by bit from above -/
/-- The bits of a from place n - 1 on down to 0, taken in. -/
def wfold (m d a : Nat) : Nat → Nat → Nat
  | 0, r => r
  | n + 1, r => wfold m d a n (wstep m d r (a / 2 ^ n % 2))

/-- What a long division has left, when n steps are to come: the remainder of what lies above, and what lies below untouched. -/
theorem pred_step (m d a : Nat) (hd : 0 < d) (hm : m < 2 ^ (d + 1)) (n r : Nat) (hr : r < 2 ^ d) :
    (if (r <<< (n + 1) ||| a % 2 ^ (n + 1)).testBit (d + n) then (r <<< (n + 1) ||| a % 2 ^ (n + 1)) ^^^ (m <<< n) else r <<< (n + 1) ||| a % 2 ^ (n + 1)) =
      wstep m d r (a / 2 ^ n % 2) <<< n ||| a % 2 ^ n := by
  have hb : ∀ i, (2 * r + a / 2 ^ n % 2).testBit i = if i = 0 then a.testBit n else r.testBit (i - 1) := by
    intro i
    have h2 : a / 2 ^ n % 2 < 2 := Nat.mod_lt _ (by decide)
    cases i with
    | zero =>
      simp only [Nat.testBit_eq_decide_div_mod_eq, if_true, Nat.pow_zero, Nat.div_one]
      congr 1
      exact propext ⟨fun h => by omega, fun h => by omega⟩
    | succ i =>
      simp only [Nat.testBit_succ, Nat.add_one_ne_zero, if_false, Nat.add_one_sub_one]
      congr 1
      omega
  have hx : ∀ i, (r <<< (n + 1) ||| a % 2 ^ (n + 1)).testBit i = ((2 * r + a / 2 ^ n % 2) <<< n ||| a % 2 ^ n).testBit i := by
    intro i
    simp only [Nat.testBit_or, Nat.testBit_shiftLeft, Nat.testBit_mod_two_pow, hb]
    by_cases h1 : i < n
    · simp [show ¬ i ≥ n + 1 by omega, show ¬ i ≥ n by omega, show i < n + 1 by omega, h1]
    · by_cases h2 : i = n
      · subst h2; simp [show ¬ i + 1 ≤ i by omega]
      · simp [show i ≥ n + 1 by omega, show i ≥ n by omega, show ¬ i < n + 1 by omega, h1, show ¬ i - n = 0 by omega, show i - n - 1 = i - (n + 1) by omega]
  have ht : (r <<< (n + 1) ||| a % 2 ^ (n + 1)).testBit (d + n) = (2 * r + a / 2 ^ n % 2).testBit d := by
    rw [hx, Nat.testBit_or, Nat.testBit_shiftLeft, Nat.testBit_mod_two_pow]
    simp [show ¬ d + n < n by omega]
  have he : r <<< (n + 1) ||| a % 2 ^ (n + 1) = (2 * r + a / 2 ^ n % 2) <<< n ||| a % 2 ^ n := Nat.eq_of_testBit_eq hx
  unfold wstep
  simp only [ht]
  split
  · rw [he]
    apply Nat.eq_of_testBit_eq
    intro i
    simp only [Nat.testBit_xor, Nat.testBit_or, Nat.testBit_shiftLeft, Nat.testBit_mod_two_pow]
    by_cases h1 : i < n
    · simp [show ¬ i ≥ n by omega, h1]
    · simp [show i ≥ n by omega, h1]
  · exact he

theorem wstep_lt {m d r b : Nat} (hm : m < 2 ^ (d + 1)) (ht : m.testBit d = true) (hr : r < 2 ^ d) (hb : b < 2) : wstep m d r b < 2 ^ d := by
  have h1 : 2 * r + b < 2 ^ (d + 1) := by rw [Nat.pow_succ]; omega
  unfold wstep
  simp only
  split
  · rename_i h
    exact lt_of_testBit_false (xor_lt h1 hm) (by rw [Nat.testBit_xor, h, ht]; rfl)
  · rename_i h
    exact lt_of_testBit_false h1 (by simpa using h)

theorem pred_wfold (m d a : Nat) (hd : 0 < d) (hm : m < 2 ^ (d + 1)) (ht : m.testBit d = true) : ∀ (n r : Nat), r < 2 ^ d → pred m d n (r <<< n ||| a % 2 ^ n) = wfold m d a n r
  | 0, r, _ => by simp [pred, wfold, Nat.mod_one]
  | n + 1, r, hr => by
    unfold pred wfold
    rw [pred_step m d a hd hm n r hr]
    exact pred_wfold m d a hd hm ht n _ (wstep_lt hm ht hr (Nat.mod_lt _ (by decide)))

/-- While what was taken in stays below 2^d nothing is taken away. -/
theorem wfold_high (m d a : Nat) : ∀ (j n : Nat), a / 2 ^ n < 2 ^ d → wfold m d a (n + j) (a / 2 ^ (n + j)) = wfold m d a n (a / 2 ^ n)
  | 0, n, _ => rfl
  | j + 1, n, h => by
    have h2 : a / 2 ^ (n + j) < 2 ^ d := by
      rw [Nat.pow_add, ← Nat.div_div_eq_div_mul]
      exact Nat.lt_of_le_of_lt (Nat.div_le_self _ _) h
    rw [← wfold_high m d a j n h, show n + (j + 1) = (n + j) + 1 by omega, wfold]
    congr 1
    have e : 2 * (a / 2 ^ (n + j + 1)) + a / 2 ^ (n + j) % 2 = a / 2 ^ (n + j) := by
      rw [Nat.pow_succ, ← Nat.div_div_eq_div_mul]
      omega
    unfold wstep
    simp only [e]
    rw [if_neg]
    rw [Nat.testBit_lt_two_pow h2]
    decide

theorem wfold_pmod {a m : Nat} (hm : m.log2 ≠ 0) (k : Nat) (ha : a < 2 ^ k) : wfold m m.log2 a k 0 = pmod a m := by
  have h0 : m ≠ 0 := by intro h; subst h; exact hm rfl
  have hlt := @Nat.lt_log2_self m
  have ht := testBit_top h0
  have hd : 0 < m.log2 := by omega
  unfold pmod
  have hn : bl a - m.log2 ≤ k := by have := bl_le ha; omega
  have hq : a / 2 ^ (bl a - m.log2) < 2 ^ m.log2 := by
    apply Nat.div_lt_of_lt_mul
    rw [← Nat.pow_add]
    exact Nat.lt_of_lt_of_le (lt_bl a) (Nat.pow_le_pow_right (by decide) (by omega))
  have h1 := wfold_high m m.log2 a (k - (bl a - m.log2)) (bl a - m.log2) hq
  rw [Nat.add_sub_cancel' hn, Nat.div_eq_of_lt ha] at h1
  rw [h1, ← pred_wfold m m.log2 a hd hlt ht _ _ hq]
  congr 1
  apply Nat.eq_of_testBit_eq
  intro i
  simp only [Nat.testBit_or, Nat.testBit_shiftLeft, Nat.testBit_mod_two_pow, Nat.testBit_div_two_pow]
  by_cases h : i < bl a - m.log2
  · simp [h, show ¬ bl a - m.log2 ≤ i by omega]
  · simp [h, show i ≥ bl a - m.log2 by omega, show bl a - m.log2 + (i - (bl a - m.log2)) = i by omega]

/-! ### Parities -/
def parF : Nat → Nat → Nat
  | 0, _ => 0
  | k + 1, v => (v % 2 + parF k (v / 2)) % 2
/-- How odd the number of ones of a number of 32 bits is. -/
def par (v : Nat) : Nat := parF 32 v
theorem parF_lt : ∀ k v, parF k v < 2
  | 0, _ => by simp [parF]
  | k + 1, v => by unfold parF; omega
theorem parF_add : ∀ (j k v : Nat), parF (j + k) v = (parF j (v % 2 ^ j) + parF k (v / 2 ^ j)) % 2
  | 0, k, v => by simp [parF, Nat.mod_eq_of_lt (parF_lt k v)]
  | j + 1, k, v => by
    rw [show j + 1 + k = (j + k) + 1 by omega, parF, parF, parF_add j k (v / 2)]
    have e1 : v % 2 ^ (j + 1) % 2 = v % 2 := by
      rw [Nat.pow_succ, Nat.mul_comm]
      exact Nat.mod_mul_right_mod v 2 _
    have e2 : v % 2 ^ (j + 1) / 2 = v / 2 % 2 ^ j := by
      rw [Nat.pow_succ, Nat.mul_comm, Nat.mod_mul_right_div_self]
    have e3 : v / 2 / 2 ^ j = v / 2 ^ (j + 1) := by
      rw [Nat.div_div_eq_div_mul, Nat.pow_succ, Nat.mul_comm]
    rw [e1, e2, e3]
    omega
/-- The ones of a byte. -/
def pop8 (b : Nat) : Nat := (List.range 8).foldl (fun n i => n + b / 2 ^ i % 2) 0
theorem pop8_par : ∀ b, b < 256 → pop8 b % 2 = parF 8 b := by decide +kernel
theorem pop8_le : ∀ b, b < 256 → pop8 b ≤ 8 := by decide +kernel
theorem par_bytes (v : Nat) (hv : v < 4294967296) : (pop8 (v / 16777216) + pop8 (v / 65536 % 256) + pop8 (v / 256 % 256) + pop8 (v % 256)) % 2 = par v := by
  unfold par
  rw [show (32 : Nat) = 8 + (8 + (8 + 8)) from rfl, parF_add, parF_add 8 (8 + 8), parF_add 8 8]
  have h1 := pop8_par (v / 16777216) (by omega)
  have h2 := pop8_par (v / 65536 % 256) (by omega)
  have h3 := pop8_par (v / 256 % 256) (by omega)
  have h4 := pop8_par (v % 256) (by omega)
  have e1 : v / 2 ^ 8 % 2 ^ 8 = v / 256 % 256 := rfl
  have e2 : v / 2 ^ 8 / 2 ^ 8 % 2 ^ 8 = v / 65536 % 256 := by rw [Nat.div_div_eq_div_mul]
  have e3 : v / 2 ^ 8 / 2 ^ 8 / 2 ^ 8 = v / 16777216 := by rw [Nat.div_div_eq_div_mul, Nat.div_div_eq_div_mul]
  have e4 : v % 2 ^ 8 = v % 256 := rfl
  rw [e1, e2, e3, e4, ← h1, ← h2, ← h3, ← h4]
  omega

end Go.Proofs.YtnjmplapjnnjdaaGreat
/- Bit operations on unsigned numbers, as operations on natural numbers. -/
namespace Go.Proofs.YtnjmplapjnnjdaaGreat
open Go.RowKit

theorem toNat_int {x : Int} (h : 0 ≤ x) : ∃ n : Nat, x = n ∧ x.toNat = n := ⟨x.toNat, by omega, rfl⟩
theorem bits_u (k : IntKind) (hs : k.signed = false) (a b : Nat) (ha : a < 2 ^ k.bits) (hb : b < 2 ^ k.bits) :
    bits .and k a b = ((a &&& b : Nat) : Int) ∧ bits .or k a b = ((a ||| b : Nat) : Int) ∧ bits .xor k a b = ((a ^^^ b : Nat) : Int) := by
  have hw : ∀ n : Nat, n < 2 ^ k.bits → k.wrap n = n := fun n hn => by
    unfold IntKind.wrap
    simp only [hs, Bool.false_eq_true, false_and, if_false, Bool.false_and]
    exact_mod_cast Nat.mod_eq_of_lt hn
  have ha' : a % 2 ^ k.bits = a := Nat.mod_eq_of_lt ha
  have hb' : b % 2 ^ k.bits = b := Nat.mod_eq_of_lt hb
  refine ⟨?_, ?_, ?_⟩
  · simp only [bits, BitVec.ofInt_natCast, BitVec.toNat_and, BitVec.toNat_ofNat, ha', hb']
    exact hw _ (Nat.and_lt_two_pow _ hb)
  · simp only [bits, BitVec.ofInt_natCast, BitVec.toNat_or, BitVec.toNat_ofNat, ha', hb']
    exact hw _ (Nat.or_lt_two_pow ha hb)
  · simp only [bits, BitVec.ofInt_natCast, BitVec.toNat_xor, BitVec.toNat_ofNat, ha', hb']
    exact hw _ (Nat.xor_lt_two_pow ha hb)
/-- for numbers of 32 bits -/
theorem and32 {x y : Int} (h0 : 0 ≤ x) (h1 : x < 4294967296) (g0 : 0 ≤ y) (g1 : y < 4294967296) : bits .and .u32 x y = ((x.toNat &&& y.toNat : Nat) : Int) := by
  obtain ⟨a, rfl, e⟩ := toNat_int h0; obtain ⟨b, rfl, f⟩ := toNat_int g0
  rw [e, f]; exact (bits_u .u32 rfl a b (by simp only [IntKind.bits]; omega) (by simp only [IntKind.bits]; omega)).1
theorem or32 {x y : Int} (h0 : 0 ≤ x) (h1 : x < 4294967296) (g0 : 0 ≤ y) (g1 : y < 4294967296) : bits .or .u32 x y = ((x.toNat ||| y.toNat : Nat) : Int) := by
  obtain ⟨a, rfl, e⟩ := toNat_int h0; obtain ⟨b, rfl, f⟩ := toNat_int g0
  rw [e, f]; exact (bits_u .u32 rfl a b (by simp only [IntKind.bits]; omega) (by simp only [IntKind.bits]; omega)).2.1
theorem or64 {x y : Int} (h0 : 0 ≤ x) (h1 : x < W64) (g0 : 0 ≤ y) (g1 : y < W64) : bits .or .u64 x y = ((x.toNat ||| y.toNat : Nat) : Int) := by
  obtain ⟨a, rfl, e⟩ := toNat_int h0; obtain ⟨b, rfl, f⟩ := toNat_int g0
  unfold W64 at h1 g1
  rw [e, f]; exact (bits_u .u64 rfl a b (by simp only [IntKind.bits]; omega) (by simp only [IntKind.bits]; omega)).2.1
theorem xor64 {x y : Int} (h0 : 0 ≤ x) (h1 : x < W64) (g0 : 0 ≤ y) (g1 : y < W64) : bits .xor .u64 x y = ((x.toNat ^^^ y.toNat : Nat) : Int) := by
  obtain ⟨a, rfl, e⟩ := toNat_int h0; obtain ⟨b, rfl, f⟩ := toNat_int g0
  unfold W64 at h1 g1
  rw [e, f]; exact (bits_u .u64 rfl a b (by simp only [IntKind.bits]; omega) (by simp only [IntKind.bits]; omega)).2.2
theorem or_lt32 {a b : Nat} (ha : a < 4294967296) (hb : b < 4294967296) : a ||| b < 4294967296 := Nat.or_lt_two_pow (n := 32) ha hb
theorem mask32 {x : Int} (i : Nat) (hi : i ≤ 32) (h0 : 0 ≤ x) (h1 : x < 4294967296) : bits .and .u32 x (2 ^ i - 1) = x % 2 ^ i :=
  bits_mask .u32 32 (by decide) (fun n h0 h1 => by rw [IntKind.wrap_u32]; omega) i hi x h0 h1
theorem mask64 {x : Int} (i : Nat) (hi : i ≤ 64) (h0 : 0 ≤ x) (h1 : x < W64) : bits .and .u64 x (2 ^ i - 1) = x % 2 ^ i :=
  bits_mask .u64 64 (by decide) (fun n h0 h1 => by simp [IntKind.wrap, IntKind.bits, IntKind.signed]; omega) i hi x h0 (by unfold W64 at h1; omega)

theorem divpow_nat (n j : Nat) : (n : Int) / 2 ^ j = ((n / 2 ^ j : Nat) : Int) := by
  rw [Int.natCast_ediv]; simp
theorem divpow_lt {x : Int} (h0 : 0 ≤ x) (h1 : x < W64) (j : Nat) : 0 ≤ x / 2 ^ j ∧ x / 2 ^ j < W64 := by
  obtain ⟨n, rfl⟩ := Int.eq_ofNat_of_zero_le h0
  rw [divpow_nat]
  have := Nat.div_le_self n (2 ^ j)
  generalize n / 2 ^ j = q at *
  omega
/-- 'x >> j & 1' -/
theorem bit64 {x : Int} (h0 : 0 ≤ x) (h1 : x < W64) (j : Nat) : bits .and .u64 (x / 2 ^ j) 1 = if x.toNat.testBit j then 1 else 0 := by
  obtain ⟨g0, g1⟩ := divpow_lt h0 h1 j
  have h := mask64 1 (by decide) g0 g1
  rw [show (2 : Int) ^ 1 - 1 = 1 from rfl] at h
  rw [h]
  obtain ⟨n, rfl⟩ := Int.eq_ofNat_of_zero_le h0
  rw [divpow_nat, Int.toNat_natCast, Nat.testBit_eq_decide_div_mod_eq]
  simp only [Int.pow_succ, Int.pow_zero, Int.one_mul, decide_eq_true_eq]
  split <;> omega
theorem bit64N {x : Int} (h0 : 0 ≤ x) (h1 : x < W64) (j : Nat) : bits .and .u64 (x / 2 ^ j) 1 = (bitN x.toNat j : Nat) := by
  rw [bit64 h0 h1]
  unfold bitN
  split <;> rfl
theorem bit64_ne {x : Int} (h0 : 0 ≤ x) (h1 : x < W64) (j : Nat) : (bits .and .u64 (x / 2 ^ j) 1 != 0) = x.toNat.testBit j := by
  rw [bit64 h0 h1]
  cases x.toNat.testBit j <;> rfl
/-- 'b << n', where nothing is lost -/
theorem shl64 {b : Int} (h0 : 0 ≤ b) (n : Nat) (h : b.toNat * 2 ^ n < W64) : IntKind.u64.wrap (b * 2 ^ n) = ((b.toNat <<< n : Nat) : Int) := by
  obtain ⟨m, rfl⟩ := Int.eq_ofNat_of_zero_le h0
  rw [Int.toNat_natCast] at h ⊢
  have e : (m : Int) * 2 ^ n = ((m * 2 ^ n : Nat) : Int) := by simp
  rw [e, Nat.shiftLeft_eq]
  unfold IntKind.wrap
  simp only [IntKind.signed, Bool.false_and, Bool.false_eq_true, if_false, IntKind.bits]
  exact_mod_cast Nat.mod_eq_of_lt h
/-- 'r << 1 | b' -/
theorem or_shl1 {x : Int} {b : Nat} (h0 : 0 ≤ x) (h1 : x < 9223372036854775808) (hb : b < 2) : bits .or .u64 (IntKind.u64.wrap (x * 2)) b = ((2 * x.toNat + b : Nat) : Int) := by
  have hw : IntKind.u64.wrap (x * 2) = x * 2 := by
    simp [IntKind.wrap, IntKind.bits, IntKind.signed]
    omega
  rw [hw, or64 (by omega) (by unfold W64; omega) (by omega) (by unfold W64; omega)]
  congr 1
  rw [Int.toNat_natCast, show (x * 2).toNat = 2 ^ 1 * x.toNat by omega, ← Nat.two_pow_add_eq_or_of_lt (by omega)]
/-- One place of a long division. -/
theorem long_round {x b : Int} (h0 : 0 ≤ x) (h1 : x < W64) (b0 : 0 ≤ b) (n : Nat) (hb0 : b ≠ 0) (hn : b.toNat.log2 + n < 64) :
    bits .xor .u64 x (IntKind.u64.wrap (b * 2 ^ n)) = ((x.toNat ^^^ (b.toNat <<< n) : Nat) : Int) ∧ x.toNat ^^^ (b.toNat <<< n) < W64 := by
  have hl : b.toNat * 2 ^ n < 2 ^ 64 := by
    have h2 : b.toNat < 2 ^ (b.toNat.log2 + 1) := Nat.lt_log2_self
    calc b.toNat * 2 ^ n < 2 ^ (b.toNat.log2 + 1) * 2 ^ n := (Nat.mul_lt_mul_right (Nat.pow_pos (by decide))).2 h2
      _ = 2 ^ (b.toNat.log2 + 1 + n) := (Nat.pow_add ..).symm
      _ ≤ 2 ^ 64 := Nat.pow_le_pow_right (by decide) (by omega)
  have hs := shl64 b0 n hl
  have hx : x.toNat < 2 ^ 64 := by have : x.toNat < W64 := by omega
                                   exact this
  have hk : b.toNat <<< n < 2 ^ 64 := by rw [Nat.shiftLeft_eq]; exact hl
  have hk' : b.toNat <<< n < W64 := hk
  constructor
  · rw [hs, xor64 h0 h1 (by omega) (by omega)]
    rw [Int.toNat_natCast]
  · exact Nat.xor_lt_two_pow hx hk
end Go.Proofs.YtnjmplapjnnjdaaGreat
