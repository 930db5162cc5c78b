/- Laws: a complete path is a way of the tree. No walk. -/
import Derived.Test.YtiiljecocajdpaaPrefs
import Derived.Test.YtiiljecocajdpaaLRises
namespace Go.Proofs.Ytiiljecocajdpaa
open Go.RowKit

/-- The node of a path, so many steps from the root. -/
def Pb.nd (p : Pb) (bs : List Nat) (i : Nat) : Nd := ⟨p.st bs i, i, p.psum ((p.pathL bs).take i)⟩
theorem Pb.nd_zero (p : Pb) (bs : List Nat) : p.nd bs 0 = ⟨0, 0, 0⟩ := rfl
theorem Pb.N_le {p : Pb} (h : probChk p = 0) : 3 ≤ p.N ∧ p.N ≤ 1055 := by
  obtain ⟨⟨k1, k2⟩, l1, l2, _⟩ := probChk_ok h
  unfold Pb.N; omega
theorem Pb.nd_bd {p : Pb} (h : probChk p = 0) (bs : List Nat) (i : Nat) : -12288 * 1055 ≤ (p.nd bs i).m ∧ (p.nd bs i).m ≤ 12288 * 1055 := by
  have h1 := p.psum_bd h ((p.pathL bs).take i)
  have h2 : ((p.pathL bs).take i).length ≤ 1055 := by
    have := p.pathL_len bs
    have := Pb.N_le h
    rw [List.length_take]; omega
  show -12288 * 1055 ≤ p.psum ((p.pathL bs).take i) ∧ p.psum ((p.pathL bs).take i) ≤ 12288 * 1055
  omega
theorem Pb.nd_succ {p : Pb} (h : probChk p = 0) (bs : List Nat) {i : Nat} (hi : i < p.N.toNat) : p.kid (p.nd bs i) (p.bit bs i) = p.nd bs (i + 1) := by
  have h1 := p.nd_bd h bs (i + 1)
  have e1 : p.psum ((p.pathL bs).take (i + 1)) = p.psum ((p.pathL bs).take i) + p.br i (p.reg bs i) := by
    rw [Pb.pathL_take hi, p.psum_snoc]
  have e2 : (p.nd bs (i + 1)).m = p.psum ((p.pathL bs).take i) + p.br i (p.reg bs i) := e1
  rw [e2] at h1
  unfold Pb.kid Pb.nd
  congr 1
  rw [e1]
  show wrap64 (p.psum ((p.pathL bs).take i) + p.br (i : Int).toNat (p.reg bs i)) = _
  rw [Int.toNat_natCast]
  unfold wrap64; omega
theorem Pb.nd_in {p : Pb} (bs : List Nat) {i : Nat} (hi : (i : Int) < p.N) : p.In (p.nd bs i) := by
  obtain ⟨h1, h2⟩ := p.st_in bs i
  exact ⟨h1, h2, Int.natCast_nonneg _, hi⟩
/-- Behind the information the bit is 0; ahead of it both may come. -/
theorem Pb.nd_mem {p : Pb} (h : probChk p = 0) {bs : List Nat} (hb : p.Path bs) {i : Nat} (hi : i < p.N.toNat) : p.nd bs (i + 1) ∈ p.kids (p.nd bs i) := by
  rw [← Pb.nd_succ h bs hi]
  unfold Pb.kids
  by_cases hL : p.L ≤ (p.nd bs i).d
  · rw [if_pos hL]
    have hz : p.bit bs i = 0 := if_neg (by show ¬ (i : Int) < p.L; have : (p.nd bs i).d = i := rfl; omega)
    rw [hz]
    exact List.mem_singleton.2 rfl
  · rw [if_neg hL]
    have hb2 := Pb.bit_lt hb i
    unfold Pb.twoK
    rcases (by omega : p.bit bs i = 0 ∨ p.bit bs i = 1) with e | e <;> rw [e] <;> split <;> simp
theorem foldl_mem {α : Type} {F : α → Int} : ∀ (l : List α) (v : Int) (a : α), (∀ k ∈ l, 0 ≤ F k) → a ∈ l → v + F a ≤ l.foldl (fun c k => c + F k) v
  | x :: l, v, a, h, ha => by
    have hx := h x (by simp)
    simp only [List.foldl_cons]
    rcases List.mem_cons.1 ha with rfl | ha
    · exact foldl_ge l _ (fun k hk => h k (by simp [hk]))
    · have := foldl_mem l (v + F x) a (fun k hk => h k (by simp [hk])) ha
      omega
theorem Pb.ways_path {p : Pb} (h : probChk p = 0) {bs : List Nat} (hb : p.Path bs) {dip : Int} (hd : ∀ i, i ≤ p.N.toNat → dip ≤ (p.nd bs i).m) : ∀ (f i : Nat), i + f = p.N.toNat → (f : Int) + 1 ≤ p.ways dip f (p.nd bs i)
  | 0, i, hi => by
    have := hd i (by omega)
    unfold Pb.ways
    rw [if_neg (by omega)]
    omega
  | f + 1, i, hi => by
    have h0 := hd i (by omega)
    have ih := p.ways_path h hb hd f (i + 1) (by omega)
    have hm := foldl_mem (p.kids (p.nd bs i)) (F := p.ways dip f) 1 _ (fun k _ => p.ways_nonneg dip f k) (Pb.nd_mem h hb (i := i) (by omega))
    unfold Pb.ways
    rw [if_neg (by omega)]
    omega
theorem Pb.count_path {p : Pb} (h : probChk p = 0) {bs : List Nat} (hb : p.Path bs) : p.count (dipOf (p.pm bs)) (p.N + 1) = p.N + 1 := by
  obtain ⟨h3, hN⟩ := Pb.N_le h
  obtain ⟨_, hd, _⟩ := p.pm_dip bs
  have h1 := p.ways_path h hb (dip := dipOf (p.pm bs)) (fun i hi => hd i _ (p.pm_get bs hi)) p.N.toNat 0 (by omega)
  rw [p.nd_zero] at h1
  rw [p.count_eq, if_neg (by omega)]
  omega
/-- The path ends in the state 0. -/
theorem Pb.st_tail (p : Pb) (bs : List Nat) : ∀ j : Nat, p.st bs (p.L.toNat + j) = (2 ^ j * p.st bs p.L.toNat) % 2 ^ (p.C.K.toNat - 1)
  | 0 => by
    have := p.st_in bs p.L.toNat
    rw [Nat.add_zero, Int.pow_zero, Int.one_mul, Int.emod_eq_of_lt this.1 this.2]
  | j + 1 => by
    have hz : p.bit bs (p.L.toNat + j) = 0 := if_neg (by omega)
    show (2 * p.st bs (p.L.toNat + j) + p.bit bs (p.L.toNat + j)) % 2 ^ (p.C.K.toNat - 1) = _
    rw [hz, p.st_tail bs j, Int.natCast_zero, Int.add_zero, Int.mul_emod, Int.emod_emod_of_dvd _ (Int.dvd_refl _), ← Int.mul_emod, Int.pow_succ, ← Int.mul_assoc, Int.mul_comm 2 (2 ^ j)]
theorem Pb.st_end {p : Pb} (h : probChk p = 0) (bs : List Nat) : p.st bs p.N.toNat = 0 := by
  obtain ⟨⟨k1, k2⟩, l1, l2, _⟩ := probChk_ok h
  have e : p.N.toNat = p.L.toNat + (p.C.K.toNat - 1) := by unfold Pb.N; omega
  rw [e, p.st_tail bs, Int.mul_emod_right]
/-! ### The range of a tree's metrics -/
theorem Tb.loRow_le (t : Tb) (k : Nat) (a : Int) : ∀ r, t.loRow k a r ≤ a ∧ ∀ j, j < r → t.loRow k a r ≤ t.m k j
  | 0 => ⟨Int.le_refl _, fun j hj => by omega⟩
  | r + 1 => by
    obtain ⟨h1, h2⟩ := t.loRow_le k a r
    simp only [Tb.loRow]
    refine ⟨by omega, fun j hj => ?_⟩
    rcases Nat.lt_succ_iff_lt_or_eq.1 hj with h | rfl
    · have := h2 j h; omega
    · omega
theorem Tb.hiRow_ge (t : Tb) (k : Nat) (a : Int) : ∀ r, a ≤ t.hiRow k a r ∧ ∀ j, j < r → t.m k j ≤ t.hiRow k a r
  | 0 => ⟨Int.le_refl _, fun j hj => by omega⟩
  | r + 1 => by
    obtain ⟨h1, h2⟩ := t.hiRow_ge k a r
    simp only [Tb.hiRow]
    refine ⟨by omega, fun j hj => ?_⟩
    rcases Nat.lt_succ_iff_lt_or_eq.1 hj with h | rfl
    · have := h2 j h; omega
    · omega
theorem Tb.lo_le (t : Tb) {b r : Nat} (hb : b < 2) (hr : r < t.lev.toNat) : t.lo ≤ t.m b r ∧ t.m b r ≤ t.hi := by
  have a0 := (t.loRow_le 0 (t.loK 0) t.lev.toNat)
  have a1 := (t.loRow_le 1 (t.loK 1) t.lev.toNat)
  have c0 := (t.hiRow_ge 0 (t.hiK 0) t.lev.toNat)
  have c1 := (t.hiRow_ge 1 (t.hiK 1) t.lev.toNat)
  have e1 : t.lo = t.loRow 1 (t.loK 1) t.lev.toNat := rfl
  have e2 : t.loK 1 = t.loRow 0 (t.loK 0) t.lev.toNat := rfl
  have e3 : t.hi = t.hiRow 1 (t.hiK 1) t.lev.toNat := rfl
  have e4 : t.hiK 1 = t.hiRow 0 (t.hiK 0) t.lev.toNat := rfl
  rcases (by omega : b = 0 ∨ b = 1) with rfl | rfl
  · have := a0.2 r hr
    have := c0.2 r hr
    omega
  · have := a1.2 r hr
    have := c1.2 r hr
    omega
theorem brS_range {t : Tb} {y : Nat → Nat} {ls : List Nat} (hy : ∀ j, y j < 2) : ∀ k : Nat, k ≤ ls.length → (∀ x ∈ ls, x < t.lev.toNat) → (k : Int) * t.lo ≤ brS t y ls k ∧ brS t y ls k ≤ (k : Int) * t.hi
  | 0, _, _ => by simp [brS]
  | k + 1, hk, hl => by
    obtain ⟨h1, h2⟩ := brS_range hy k (by omega) hl
    have hx : ls.getD k 0 < t.lev.toNat := by
      rw [List.getD_eq_getElem?_getD, List.getElem?_eq_getElem (by omega)]
      exact hl _ (List.getElem_mem _)
    obtain ⟨h3, h4⟩ := t.lo_le (hy k) hx
    unfold brS
    have e1 : ((k + 1 : Nat) : Int) * t.lo = k * t.lo + t.lo := by push_cast; rw [Int.add_mul, Int.one_mul]
    have e2 : ((k + 1 : Nat) : Int) * t.hi = k * t.hi + t.hi := by push_cast; rw [Int.add_mul, Int.one_mul]
    omega
theorem Pb.br_range {p : Pb} (h : probChk p = 0) {d : Nat} (hd : (d : Int) < p.N) (v : Nat) : p.C.R * p.T.lo ≤ p.br d v ∧ p.br d v ≤ p.C.R * p.T.hi := by
  obtain ⟨⟨k1, k2⟩, l1, l2, cr, hwin, ⟨v1, v2⟩, hlev, hcc, htt⟩ := probChk_ok h
  have hlen := Pb.lv_len h hd
  have := brS_range (t := p.T) (ls := p.lv d) (p.C.y_lt v) p.C.R.toNat (by omega) (fun x hx => by
    have := hlev x (List.mem_of_mem_drop (List.mem_of_mem_take hx))
    omega)
  have e : ((p.C.R.toNat : Nat) : Int) = p.C.R := by omega
  rw [e] at this
  exact this
theorem Pb.nd_range0 {p : Pb} (h : probChk p = 0) (bs : List Nat) : ∀ i : Nat, i ≤ p.N.toNat → (i : Int) * (p.C.R * p.T.lo) ≤ (p.nd bs i).m ∧ (p.nd bs i).m ≤ (i : Int) * (p.C.R * p.T.hi)
  | 0, _ => by rw [p.nd_zero]; simp
  | i + 1, hi => by
    obtain ⟨h1, h2⟩ := Pb.nd_range0 h bs i (by omega)
    obtain ⟨h3, h4⟩ := Pb.br_range h (d := i) (by omega) (p.reg bs i)
    have e0 : (p.nd bs (i + 1)).m = (p.nd bs i).m + p.br i (p.reg bs i) := by
      show p.psum ((p.pathL bs).take (i + 1)) = p.psum ((p.pathL bs).take i) + _
      rw [Pb.pathL_take (by omega), p.psum_snoc]
    have e1 : ((i + 1 : Nat) : Int) * (p.C.R * p.T.lo) = i * (p.C.R * p.T.lo) + p.C.R * p.T.lo := by push_cast; rw [Int.add_mul, Int.one_mul]
    have e2 : ((i + 1 : Nat) : Int) * (p.C.R * p.T.hi) = i * (p.C.R * p.T.hi) + p.C.R * p.T.hi := by push_cast; rw [Int.add_mul, Int.one_mul]
    omega
theorem mul_le_max {i n x : Int} (h0 : 0 ≤ i) (h1 : i ≤ n) : min (n * x) 0 ≤ i * x ∧ i * x ≤ max (n * x) 0 := by
  by_cases hx : 0 ≤ x
  · have a := Int.mul_le_mul_of_nonneg_right h1 hx
    have b := Int.mul_nonneg h0 hx
    omega
  · have a := Int.mul_le_mul_of_nonpos_right h1 (by omega : x ≤ 0)
    have b := Int.mul_nonneg h0 (by omega : 0 ≤ -x)
    rw [Int.mul_neg] at b
    omega
theorem Pb.nd_range {p : Pb} (h : probChk p = 0) (bs : List Nat) {i : Nat} (hi : i ≤ p.N.toNat) : min (p.C.R * p.N * p.T.lo) 0 ≤ (p.nd bs i).m ∧ (p.nd bs i).m ≤ max (p.C.R * p.N * p.T.hi) 0 := by
  obtain ⟨h1, h2⟩ := Pb.nd_range0 h bs i hi
  obtain ⟨h3, hN⟩ := Pb.N_le h
  have a := (mul_le_max (i := i) (n := p.N) (x := p.C.R * p.T.lo) (Int.natCast_nonneg _) (by omega)).1
  have b := (mul_le_max (i := i) (n := p.N) (x := p.C.R * p.T.hi) (Int.natCast_nonneg _) (by omega)).2
  rw [Int.mul_comm p.C.R p.N, Int.mul_assoc, Int.mul_assoc]
  omega
theorem lw_bit {p : Pb} {A : List Nat} {j : Nat} (h : (j : Int) < p.L) (hl : j < A.length) : A[j] = p.bit A j := by
  unfold Pb.bit
  rw [if_pos h, List.getD_eq_getElem?_getD, List.getElem?_eq_getElem hl]
  rfl
theorem lw_but {w w' : World} {b : Nat} (hs : w'.heap.size = w.heap.size) (ho : ∀ k, k ≠ b → w'.heap[k]? = w.heap[k]?) (hB : Below b w w') : But b w w' := ⟨hB.os, hB.tape, hB.output, Nat.le_of_eq hs.symm, fun k _ hk => ho k hk⟩
end Go.Proofs.Ytiiljecocajdpaa
