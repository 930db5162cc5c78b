import Derived.Test.YtnjmplapjnnjdaaGreatDocLook
import Derived.Test.YtnjmplapjnnjdaaGreatFill
set_option linter.unusedSimpArgs false
set_option linter.unusedVariables false
set_option linter.unnecessarySimpa false
/- The walk of the statement that fewer ways stay above a higher line. -/
namespace Go.Proofs.YtnjmplapjnnjdaaGreat
open Go.RowKit

end Go.Proofs.YtnjmplapjnnjdaaGreat

/- Laws: a complete path is a way of the tree. No walk. -/
namespace Go.Proofs.YtnjmplapjnnjdaaGreat
open Go.RowKit

/-- The node of a path, so many steps from the root. -/
def Pb.nd (p : Pb) (bs : List Nat) (i : Nat) : Nd := ⟨p.st bs i, i, p.psum ((p.pathL bs).take i)⟩
theorem Pb.nd_zero (p : Pb) (bs : List Nat) : p.nd bs 0 = ⟨0, 0, 0⟩ := rfl
theorem Pb.N_le {p : Pb} (h : probChk p = 0) : 3 ≤ p.N ∧ p.N ≤ 1055 := by
  obtain ⟨⟨k1, k2⟩, l1, l2, _⟩ := probChk_ok h
  unfold Pb.N; omega
theorem Pb.nd_bd {p : Pb} (h : probChk p = 0) (bs : List Nat) (i : Nat) : -12288 * 1055 ≤ (p.nd bs i).m ∧ (p.nd bs i).m ≤ 12288 * 1055 := by
  have h1 := p.psum_bd h ((p.pathL bs).take i)
  have h2 : ((p.pathL bs).take i).length ≤ 1055 := by
    have := p.pathL_len bs
    have := Pb.N_le h
    rw [List.length_take]; omega
  show -12288 * 1055 ≤ p.psum ((p.pathL bs).take i) ∧ p.psum ((p.pathL bs).take i) ≤ 12288 * 1055
  omega
theorem Pb.nd_succ {p : Pb} (h : probChk p = 0) (bs : List Nat) {i : Nat} (hi : i < p.N.toNat) : p.kid (p.nd bs i) (p.bit bs i) = p.nd bs (i + 1) := by
  have h1 := p.nd_bd h bs (i + 1)
  have e1 : p.psum ((p.pathL bs).take (i + 1)) = p.psum ((p.pathL bs).take i) + p.br i (p.reg bs i) := by
    rw [Pb.pathL_take hi, p.psum_snoc]
  have e2 : (p.nd bs (i + 1)).m = p.psum ((p.pathL bs).take i) + p.br i (p.reg bs i) := e1
  rw [e2] at h1
  unfold Pb.kid Pb.nd
  congr 1
  rw [e1]
  show wrap64 (p.psum ((p.pathL bs).take i) + p.br (i : Int).toNat (p.reg bs i)) = _
  rw [Int.toNat_natCast]
  unfold wrap64; omega
theorem Pb.nd_in {p : Pb} (bs : List Nat) {i : Nat} (hi : (i : Int) < p.N) : p.In (p.nd bs i) := by
  obtain ⟨h1, h2⟩ := p.st_in bs i
  exact ⟨h1, h2, Int.natCast_nonneg _, hi⟩
/-- Behind the information the bit is 0; ahead of it both may come. -/
theorem Pb.nd_mem {p : Pb} (h : probChk p = 0) {bs : List Nat} (hb : p.Path bs) {i : Nat} (hi : i < p.N.toNat) : p.nd bs (i + 1) ∈ p.kids (p.nd bs i) := by
  rw [← Pb.nd_succ h bs hi]
  unfold Pb.kids
  by_cases hL : p.L ≤ (p.nd bs i).d
  · rw [if_pos hL]
    have hz : p.bit bs i = 0 := if_neg (by show ¬ (i : Int) < p.L; have : (p.nd bs i).d = i := rfl; omega)
    rw [hz]
    exact List.mem_singleton.2 rfl
  · rw [if_neg hL]
    have hb2 := Pb.bit_lt hb i
    unfold Pb.twoK
    rcases (by omega : p.bit bs i = 0 ∨ p.bit bs i = 1) with e | e <;> rw [e] <;> split <;> simp
/-! ### The range of a tree's metrics -/
theorem Tb.loRow_le (t : Tb) (k : Nat) (a : Int) : ∀ r, t.loRow k a r ≤ a ∧ ∀ j, j < r → t.loRow k a r ≤ t.m k j
  | 0 => ⟨Int.le_refl _, fun j hj => by omega⟩
  | r + 1 => by
    obtain ⟨h1, h2⟩ := t.loRow_le k a r
    simp only [Tb.loRow]
    refine ⟨by omega, fun j hj => ?_⟩
    rcases Nat.lt_succ_iff_lt_or_eq.1 hj with h | rfl
    · have := h2 j h; omega
    · omega
theorem Tb.hiRow_ge (t : Tb) (k : Nat) (a : Int) : ∀ r, a ≤ t.hiRow k a r ∧ ∀ j, j < r → t.m k j ≤ t.hiRow k a r
  | 0 => ⟨Int.le_refl _, fun j hj => by omega⟩
  | r + 1 => by
    obtain ⟨h1, h2⟩ := t.hiRow_ge k a r
    simp only [Tb.hiRow]
    refine ⟨by omega, fun j hj => ?_⟩
    rcases Nat.lt_succ_iff_lt_or_eq.1 hj with h | rfl
    · have := h2 j h; omega
    · omega
theorem Tb.lo_le (t : Tb) {b r : Nat} (hb : b < 2) (hr : r < t.lev.toNat) : t.lo ≤ t.m b r ∧ t.m b r ≤ t.hi := by
  have a0 := (t.loRow_le 0 (t.loK 0) t.lev.toNat)
  have a1 := (t.loRow_le 1 (t.loK 1) t.lev.toNat)
  have c0 := (t.hiRow_ge 0 (t.hiK 0) t.lev.toNat)
  have c1 := (t.hiRow_ge 1 (t.hiK 1) t.lev.toNat)
  have e1 : t.lo = t.loRow 1 (t.loK 1) t.lev.toNat := rfl
  have e2 : t.loK 1 = t.loRow 0 (t.loK 0) t.lev.toNat := rfl
  have e3 : t.hi = t.hiRow 1 (t.hiK 1) t.lev.toNat := rfl
  have e4 : t.hiK 1 = t.hiRow 0 (t.hiK 0) t.lev.toNat := rfl
  rcases (by omega : b = 0 ∨ b = 1) with rfl | rfl
  · have := a0.2 r hr
    have := c0.2 r hr
    omega
  · have := a1.2 r hr
    have := c1.2 r hr
    omega
theorem brS_range {t : Tb} {y : Nat → Nat} {ls : List Nat} (hy : ∀ j, y j < 2) : ∀ k : Nat, k ≤ ls.length → (∀ x ∈ ls, x < t.lev.toNat) → (k : Int) * t.lo ≤ brS t y ls k ∧ brS t y ls k ≤ (k : Int) * t.hi
  | 0, _, _ => by simp [brS]
  | k + 1, hk, hl => by
    obtain ⟨h1, h2⟩ := brS_range hy k (by omega) hl
    have hx : ls.getD k 0 < t.lev.toNat := by
      rw [List.getD_eq_getElem?_getD, List.getElem?_eq_getElem (by omega)]
      exact hl _ (List.getElem_mem _)
    obtain ⟨h3, h4⟩ := t.lo_le (hy k) hx
    unfold brS
    have e1 : ((k + 1 : Nat) : Int) * t.lo = k * t.lo + t.lo := by push_cast; rw [Int.add_mul, Int.one_mul]
    have e2 : ((k + 1 : Nat) : Int) * t.hi = k * t.hi + t.hi := by push_cast; rw [Int.add_mul, Int.one_mul]
    omega
theorem Pb.br_range {p : Pb} (h : probChk p = 0) {d : Nat} (hd : (d : Int) < p.N) (v : Nat) : p.C.R * p.T.lo ≤ p.br d v ∧ p.br d v ≤ p.C.R * p.T.hi := by
  obtain ⟨⟨k1, k2⟩, l1, l2, cr, hwin, ⟨v1, v2⟩, hlev, hcc, htt⟩ := probChk_ok h
  have hlen := Pb.lv_len h hd
  have := brS_range (t := p.T) (ls := p.lv d) (p.C.y_lt v) p.C.R.toNat (by omega) (fun x hx => by
    have := hlev x (List.mem_of_mem_drop (List.mem_of_mem_take hx))
    omega)
  have e : ((p.C.R.toNat : Nat) : Int) = p.C.R := by omega
  rw [e] at this
  exact this
theorem Pb.nd_range0 {p : Pb} (h : probChk p = 0) (bs : List Nat) : ∀ i : Nat, i ≤ p.N.toNat → (i : Int) * (p.C.R * p.T.lo) ≤ (p.nd bs i).m ∧ (p.nd bs i).m ≤ (i : Int) * (p.C.R * p.T.hi)
  | 0, _ => by rw [p.nd_zero]; simp
  | i + 1, hi => by
    obtain ⟨h1, h2⟩ := Pb.nd_range0 h bs i (by omega)
    obtain ⟨h3, h4⟩ := Pb.br_range h (d := i) (by omega) (p.reg bs i)
    have e0 : (p.nd bs (i + 1)).m = (p.nd bs i).m + p.br i (p.reg bs i) := by
      show p.psum ((p.pathL bs).take (i + 1)) = p.psum ((p.pathL bs).take i) + _
      rw [Pb.pathL_take (by omega), p.psum_snoc]
    have e1 : ((i + 1 : Nat) : Int) * (p.C.R * p.T.lo) = i * (p.C.R * p.T.lo) + p.C.R * p.T.lo := by push_cast; rw [Int.add_mul, Int.one_mul]
    have e2 : ((i + 1 : Nat) : Int) * (p.C.R * p.T.hi) = i * (p.C.R * p.T.hi) + p.C.R * p.T.hi := by push_cast; rw [Int.add_mul, Int.one_mul]
    omega
theorem mul_le_max {i n x : Int} (h0 : 0 ≤ i) (h1 : i ≤ n) : min (n * x) 0 ≤ i * x ∧ i * x ≤ max (n * x) 0 := by
  by_cases hx : 0 ≤ x
  · have a := Int.mul_le_mul_of_nonneg_right h1 hx
    have b := Int.mul_nonneg h0 hx
    omega
  · have a := Int.mul_le_mul_of_nonpos_right h1 (by omega : x ≤ 0)
    have b := Int.mul_nonneg h0 (by omega : 0 ≤ -x)
    rw [Int.mul_neg] at b
    omega
theorem Pb.nd_range {p : Pb} (h : probChk p = 0) (bs : List Nat) {i : Nat} (hi : i ≤ p.N.toNat) : min (p.C.R * p.N * p.T.lo) 0 ≤ (p.nd bs i).m ∧ (p.nd bs i).m ≤ max (p.C.R * p.N * p.T.hi) 0 := by
  obtain ⟨h1, h2⟩ := Pb.nd_range0 h bs i hi
  obtain ⟨h3, hN⟩ := Pb.N_le h
  have a := (mul_le_max (i := i) (n := p.N) (x := p.C.R * p.T.lo) (Int.natCast_nonneg _) (by omega)).1
  have b := (mul_le_max (i := i) (n := p.N) (x := p.C.R * p.T.hi) (Int.natCast_nonneg _) (by omega)).2
  rw [Int.mul_comm p.C.R p.N, Int.mul_assoc, Int.mul_assoc]
  omega
end Go.Proofs.YtnjmplapjnnjdaaGreat

/- Fano's machine without a program: its state, a look, what stays true of it. No walk. -/
namespace Go.Proofs.YtnjmplapjnnjdaaGreat
open Go.RowKit

/-- A node on the way, the bit to it, how many of its kids were tried. -/
structure Spot where
  n : Nd
  b : Nat
  t : Nat
/-- The machine: where it stands, the way to it (the parent first, the root last), the thresholds, the looks, whether it is at its end. -/
structure Fm where
  top : Spot
  up : List Spot
  thr : Int
  low : Int
  work : Int
  done : Bool
def Fm.start : Fm := ⟨⟨⟨0, 0, 0⟩, 0, 0⟩, [], 0, 0, 0, false⟩
def Pb.left (p : Pb) (x : Spot) : Bool := decide (x.t < (p.kids x.n).length)
/-- Back: is the threshold lowered, and where does it stand then? -/
def Pb.fallL (p : Pb) (thr : Int) : Spot → List Spot → Bool × Spot × List Spot
  | x, [] => (true, ⟨x.n, x.b, 0⟩, [])
  | x, y :: ys => if y.n.m < thr then (true, ⟨x.n, x.b, 0⟩, y :: ys) else if p.left y then (false, y, ys) else p.fallL thr y ys
def Pb.fall (p : Pb) (D : Int) (s : Fm) : Fm :=
  { s with top := (p.fallL s.thr s.top s.up).2.1, up := (p.fallL s.thr s.top s.up).2.2,
           thr := if (p.fallL s.thr s.top s.up).1 then s.thr - D else s.thr, low := if (p.fallL s.thr s.top s.up).1 then min s.low (s.thr - D) else s.low }
/-- The place of the next kid. -/
def Pb.at_ (p : Pb) (x : Spot) : Nat := (p.kids x.n).length - 1 - x.t
def Pb.kidAt (p : Pb) (x : Spot) : Spot := ⟨(p.kids x.n).getD (p.at_ x) ⟨0, 0, 0⟩, (p.kidBits x.n).getD (p.at_ x) 0, 0⟩
def raise (D thr m : Int) : Int := thr + D * ((m - thr) / D)
def Pb.flook (p : Pb) (D : Int) (s : Fm) : Fm :=
  if (p.kidAt s.top).n.m < s.thr then p.fall D { s with top := ⟨s.top.n, s.top.b, s.top.t + 1⟩ }
  else { s with top := p.kidAt s.top, up := ⟨s.top.n, s.top.b, s.top.t + 1⟩ :: s.up,
                thr := if s.top.n.m < s.thr + D then raise D s.thr (p.kidAt s.top).n.m else s.thr, done := (p.kidAt s.top).n.d == p.N }
def Pb.fstep (p : Pb) (D : Int) (s : Fm) : Fm := { p.flook D s with work := wrap64 (s.work + 1) }
def Pb.frun (p : Pb) (D : Int) : Nat → Fm → Fm
  | 0, s => s
  | k + 1, s => if s.done then s else p.frun D k (p.fstep D s)

/-! ### The way -/
def Pb.WayOk (p : Pb) : Spot → List Spot → Prop
  | x, [] => x.n = ⟨0, 0, 0⟩ ∧ x.b = 0
  | x, y :: ys => 1 ≤ y.t ∧ y.t ≤ (p.kids y.n).length ∧ (p.kids y.n)[(p.kids y.n).length - y.t]? = some x.n ∧ (p.kidBits y.n)[(p.kids y.n).length - y.t]? = some x.b ∧ y.n.d < p.N ∧ p.WayOk y ys
/-- The bits of a way, the root's own is none. -/
def wayBits (x : Spot) (up : List Spot) : List Nat := ((x :: up).reverse.tail).map (·.b)
theorem wayBits_nil (x : Spot) : wayBits x [] = [] := rfl
theorem wayBits_cons (x y : Spot) (ys : List Spot) : wayBits x (y :: ys) = wayBits y ys ++ [x.b] := by
  unfold wayBits
  rw [List.reverse_cons, List.tail_append_of_ne_nil (by simp), List.map_append]
  rfl
theorem wayBits_len (x : Spot) (up : List Spot) : (wayBits x up).length = up.length := by simp [wayBits]
theorem Pb.kids_get (p : Pb) (n : Nd) {i : Nat} {k : Nd} {b : Nat} (h1 : (p.kids n)[i]? = some k) (h2 : (p.kidBits n)[i]? = some b) : k = p.kid n b ∧ b < 2 ∧ (p.L ≤ n.d → b = 0) := by
  unfold Pb.kids Pb.twoK at h1
  unfold Pb.kidBits Pb.twoB at h2
  split at h1
  · rename_i hL
    rw [if_pos hL] at h2
    match i, h1, h2 with
    | 0, h1, h2 => simp at h1 h2; subst h2; exact ⟨h1.symm, by decide, fun _ => rfl⟩
    | i + 1, h1, h2 => simp at h1
  · rename_i hL
    rw [if_neg hL] at h2
    split at h1
    · rename_i hm
      rw [if_pos hm] at h2
      match i, h1, h2 with
      | 0, h1, h2 => simp at h1 h2; subst h2; exact ⟨h1.symm, by decide, fun h => absurd h hL⟩
      | 1, h1, h2 => simp at h1 h2; subst h2; exact ⟨h1.symm, by decide, fun h => absurd h hL⟩
      | i + 2, h1, h2 => simp at h1
    · rename_i hm
      rw [if_neg hm] at h2
      match i, h1, h2 with
      | 0, h1, h2 => simp at h1 h2; subst h2; exact ⟨h1.symm, by decide, fun h => absurd h hL⟩
      | 1, h1, h2 => simp at h1 h2; subst h2; exact ⟨h1.symm, by decide, fun h => absurd h hL⟩
      | i + 2, h1, h2 => simp at h1
theorem Pb.kbits_len (p : Pb) (n : Nd) : (p.kidBits n).length = (p.kids n).length := by
  unfold Pb.kids Pb.twoK Pb.kidBits Pb.twoB
  split
  · rfl
  · split <;> rfl
theorem Pb.nd_congr {p : Pb} (h : probChk p = 0) {bs cs : List Nat} : ∀ {i : Nat}, i ≤ p.N.toNat → (∀ j, j < i → p.bit bs j = p.bit cs j) → p.nd bs i = p.nd cs i
  | 0, _, _ => rfl
  | i + 1, hi, hb => by
    rw [← Pb.nd_succ h bs (by omega), ← Pb.nd_succ h cs (by omega), Pb.nd_congr h (i := i) (by omega) (fun j hj => hb j (by omega)), hb i (by omega)]
theorem Pb.bit_app (p : Pb) (bs cs : List Nat) {j : Nat} (h : j < bs.length) : p.bit (bs ++ cs) j = p.bit bs j := by
  unfold Pb.bit
  simp [List.getD_eq_getElem?_getD, List.getElem?_append_left h]
theorem Pb.WayOk.facts {p : Pb} (h : probChk p = 0) : ∀ {x : Spot} {up : List Spot}, p.WayOk x up → x.n = p.nd (wayBits x up) up.length ∧ up.length ≤ p.N.toNat ∧ (∀ b ∈ wayBits x up, b < 2) ∧ x.b < 2
  | x, [], hw => ⟨hw.1, Nat.zero_le _, by simp [wayBits_nil], by have := hw.2; omega⟩
  | x, y :: ys, hw => by
    obtain ⟨h1, h2, h3, h4, h5, h6⟩ := hw
    obtain ⟨i1, i2, i3, _⟩ := h6.facts h
    obtain ⟨e1, e2, e3⟩ := p.kids_get y.n h3 h4
    have hd : y.n.d = ys.length := by rw [i1]; rfl
    have hlt : ys.length < p.N.toNat := by omega
    have hwl := wayBits_len y ys
    refine ⟨?_, hlt, ?_, e2⟩
    · have hb : p.bit (wayBits y ys ++ [x.b]) ys.length = x.b := by
        unfold Pb.bit
        split
        · simp [List.getD_eq_getElem?_getD, ← hwl]
        · rw [e3 (by omega)]
      rw [wayBits_cons, e1]
      show _ = p.nd _ (ys.length + 1)
      rw [← Pb.nd_succ h _ hlt, hb]
      congr 1
      rw [i1]
      refine Pb.nd_congr h (by omega) fun j hj => (p.bit_app _ _ (by omega)).symm
    · intro b hb
      rw [wayBits_cons] at hb
      rcases List.mem_append.1 hb with hb | hb
      · exact i3 b hb
      · rw [List.mem_singleton.1 hb]; exact e2
theorem Pb.WayOk.depth {p : Pb} (h : probChk p = 0) {x : Spot} {up : List Spot} (hw : p.WayOk x up) : x.n.d = up.length := by rw [(hw.facts h).1]; rfl
theorem Pb.WayOk.bd {p : Pb} (h : probChk p = 0) {x : Spot} {up : List Spot} (hw : p.WayOk x up) : -12288 * 1055 ≤ x.n.m ∧ x.n.m ≤ 12288 * 1055 := by
  rw [(hw.facts h).1]; exact p.nd_bd h _ _
/-- The nodes of a way, from the root. -/
theorem Pb.WayOk.nds {p : Pb} (h : probChk p = 0) : ∀ {x : Spot} {up : List Spot}, p.WayOk x up → ((x :: up).reverse).map (·.n) = (List.range (up.length + 1)).map (p.nd (wayBits x up))
  | x, [], hw => by simp [hw.1, List.range_succ]; rfl
  | x, y :: ys, hw => by
    have hf := (hw.facts h).1
    obtain ⟨_, _, _, _, h5, h6⟩ := hw
    have ih := h6.nds h
    have hd := h6.depth h
    have hwl := wayBits_len y ys
    rw [List.reverse_cons, List.map_append, ih, List.length_cons, List.range_succ (n := ys.length + 1), List.map_append]
    congr 1
    · refine List.map_congr_left fun i hi => ?_
      rw [List.mem_range] at hi
      rw [wayBits_cons]
      exact Pb.nd_congr h (by omega) fun j hj => (p.bit_app _ _ (by omega)).symm
    · simp [hf]
theorem Pb.kids_pos (p : Pb) (n : Nd) : 1 ≤ (p.kids n).length ∧ (p.kids n).length ≤ 2 := by
  unfold Pb.kids Pb.twoK
  split
  · simp
  · split <;> simp

/-! ### What stays true -/
structure Fm.Ok (p : Pb) (D : Int) (s : Fm) : Prop where
  way : p.WayOk s.top s.up
  tries : s.done = false → s.top.t < (p.kids s.top.n).length
  dn : s.done = (s.top.n.d == p.N)
  thr_le : s.thr ≤ s.top.n.m
  thr_bd : -12288 * 1055 - D ≤ s.thr
  low_thr : s.low ≤ s.thr
  low0 : s.low ≤ 0
  low_bd : -12288 * 1055 - D ≤ s.low
  mul : ∃ k, s.thr = D * k
  lmul : ∃ k, s.low = D * k
  above : ∀ x ∈ s.up, s.low ≤ x.n.m
theorem Fm.Ok.start {p : Pb} (h : probChk p = 0) {D : Int} (hD : 1 ≤ D) : Fm.start.Ok p D := by
  have hN := Pb.N_le h
  refine ⟨⟨rfl, rfl⟩, fun _ => ?_, ?_, Int.le_refl _, ?_, Int.le_refl _, Int.le_refl _, ?_, ⟨0, by simp [Fm.start]⟩, ⟨0, by simp [Fm.start]⟩, by simp [Fm.start]⟩
  · have := (p.kids_pos ⟨0, 0, 0⟩).1; show 0 < _; exact this
  · show false = ((0 : Int) == p.N); symm; simp; omega
  · show _ ≤ (0 : Int); omega
  · show _ ≤ (0 : Int); omega
theorem Pb.kidAt_get {p : Pb} {x : Spot} (ht : x.t < (p.kids x.n).length) : (p.kids x.n)[(p.kids x.n).length - (x.t + 1)]? = some (p.kidAt x).n ∧ (p.kidBits x.n)[(p.kids x.n).length - (x.t + 1)]? = some (p.kidAt x).b := by
  have e : (p.kids x.n).length - (x.t + 1) = p.at_ x := by unfold Pb.at_; omega
  have h1 : p.at_ x < (p.kids x.n).length := by unfold Pb.at_; omega
  have h2 : p.at_ x < (p.kidBits x.n).length := by rw [p.kbits_len]; exact h1
  rw [e]
  unfold Pb.kidAt
  simp [List.getD_eq_getElem?_getD, List.getElem?_eq_getElem h1, List.getElem?_eq_getElem h2]
theorem Pb.WayOk.push {p : Pb} {x : Spot} {up : List Spot} (hw : p.WayOk x up) (ht : x.t < (p.kids x.n).length) (hd : x.n.d < p.N) : p.WayOk (p.kidAt x) (⟨x.n, x.b, x.t + 1⟩ :: up) := by
  obtain ⟨h1, h2⟩ := Pb.kidAt_get ht
  refine ⟨Nat.le_add_left _ _, ht, h1, h2, hd, ?_⟩
  cases up with
  | nil => exact hw
  | cons y ys => exact hw
theorem Pb.WayOk.tried {p : Pb} {x : Spot} {up : List Spot} (hw : p.WayOk x up) (t : Nat) : p.WayOk ⟨x.n, x.b, t⟩ up := by
  cases up with
  | nil => exact hw
  | cons y ys => exact hw
/-- Where a fall ends. -/
theorem Pb.fallL_facts {p : Pb} {thr : Int} : ∀ {x : Spot} {up : List Spot}, p.WayOk x up → x.n.d < p.N → thr ≤ x.n.m →
    p.WayOk (p.fallL thr x up).2.1 (p.fallL thr x up).2.2 ∧ (p.fallL thr x up).2.1.t < (p.kids (p.fallL thr x up).2.1.n).length ∧ (p.fallL thr x up).2.1.n.d < p.N ∧ thr ≤ (p.fallL thr x up).2.1.n.m ∧ (∀ z ∈ (p.fallL thr x up).2.2, z ∈ up) ∧
    ((p.fallL thr x up).1 = true → (∀ z, (p.fallL thr x up).2.2.head? = some z → z.n.m < thr))
  | x, [], hw, hd, hm => ⟨hw.tried 0, (p.kids_pos _).1, hd, hm, by simp [Pb.fallL], fun _ z hz => by simp [Pb.fallL] at hz⟩
  | x, y :: ys, hw, hd, hm => by
    unfold Pb.fallL
    split
    · rename_i hy
      exact ⟨hw.tried 0, (p.kids_pos _).1, hd, hm, fun z hz => hz, fun _ z hz => by simp at hz; subst hz; exact hy⟩
    · rename_i hy
      split
      · rename_i hl
        exact ⟨hw.2.2.2.2.2, by simpa [Pb.left] using hl, hw.2.2.2.2.1, (show thr ≤ y.n.m by omega), fun z hz => List.mem_cons_of_mem _ hz, fun h => by cases h⟩
      · obtain ⟨i1, i2, i3, i4, i5, i6⟩ := Pb.fallL_facts (p := p) (thr := thr) hw.2.2.2.2.2 hw.2.2.2.2.1 (by omega)
        exact ⟨i1, i2, i3, i4, fun z hz => List.mem_cons_of_mem _ (i5 z hz), i6⟩
theorem raise_facts {D thr m : Int} (hD : 1 ≤ D) (h : thr ≤ m) : raise D thr m ≤ m ∧ thr ≤ raise D thr m ∧ m < raise D thr m + D := by
  unfold raise
  have h1 := Int.emod_add_mul_ediv (m - thr) D
  have h2 := Int.emod_nonneg (m - thr) (b := D) (by omega)
  have h3 := Int.emod_lt_of_pos (m - thr) (b := D) (by omega)
  have h4 : 0 ≤ D * ((m - thr) / D) := Int.mul_nonneg (by omega) (Int.ediv_nonneg (by omega) (by omega))
  omega
theorem Fm.Ok.look {p : Pb} (h : probChk p = 0) {D : Int} (hD : 1 ≤ D) {s : Fm} (hs : s.Ok p D) (hn : s.done = false) : (p.flook D s).Ok p D := by
  have hdl : s.top.n.d < p.N := by
    have h1 := hs.dn
    rw [hn] at h1
    have h2 : s.top.n.d ≠ p.N := by simpa using h1.symm
    have h3 := (hs.way.facts h).2.1
    have h4 := hs.way.depth h
    have := Pb.N_le h
    omega
  have ht := hs.tries hn
  have hpush := hs.way.push ht hdl
  have hkbd := hpush.bd h
  unfold Pb.flook
  split
  · rename_i hk
    have hf := Pb.fallL_facts (p := p) (thr := s.thr) (hs.way.tried (s.top.t + 1)) hdl hs.thr_le
    obtain ⟨f1, f2, f3, f4, f5, f6⟩ := hf
    have hlow := hs.low_thr
    have hab := hs.above
    have hl0 := hs.low0
    have hbd := hs.thr_bd
    have hlb := hs.low_bd
    refine ⟨f1, fun _ => f2, ?_, ?_, ?_, ?_, ?_, ?_, ?_, ?_, ?_⟩
    · show s.done = _
      rw [hn]; symm
      show decide (_ = _) = false
      simp
      have : (p.fallL s.thr ⟨s.top.n, s.top.b, s.top.t + 1⟩ s.up).2.1.n.d < p.N := f3
      show ¬ (p.fallL s.thr ⟨s.top.n, s.top.b, s.top.t + 1⟩ s.up).2.1.n.d = p.N
      omega
    all_goals simp only [Pb.fall]
    · split <;> omega
    · split <;> omega
    · split <;> omega
    · split <;> omega
    · split <;> omega
    · obtain ⟨k, hk⟩ := hs.mul
      split
      · exact ⟨k - 1, by rw [hk, Int.mul_sub, Int.mul_one]⟩
      · exact ⟨k, hk⟩
    · obtain ⟨k, hk⟩ := hs.mul
      obtain ⟨k', hk'⟩ := hs.lmul
      split
      · rcases Int.le_total s.low (s.thr - D) with h | h
        · exact ⟨k', by rw [Int.min_eq_left h, hk']⟩
        · exact ⟨k - 1, by rw [Int.min_eq_right h, hk, Int.mul_sub, Int.mul_one]⟩
      · exact ⟨k', hk'⟩
    · intro x hx
      have := hab x (f5 x hx)
      split <;> omega
  · rename_i hk
    have hr := raise_facts hD (show s.thr ≤ (p.kidAt s.top).n.m by omega)
    have hlow := hs.low_thr
    have hbd := hs.thr_bd
    have htl := hs.thr_le
    refine ⟨hpush, fun hd => ?_, rfl, ?_, ?_, ?_, hs.low0, hs.low_bd, ?_, hs.lmul, ?_⟩
    · exact (p.kids_pos _).1
    · show (if s.top.n.m < s.thr + D then raise D s.thr (p.kidAt s.top).n.m else s.thr) ≤ (p.kidAt s.top).n.m
      split <;> omega
    · show _ ≤ (if s.top.n.m < s.thr + D then raise D s.thr (p.kidAt s.top).n.m else s.thr)
      split <;> omega
    · show s.low ≤ (if s.top.n.m < s.thr + D then raise D s.thr (p.kidAt s.top).n.m else s.thr)
      split <;> omega
    · obtain ⟨k, hk⟩ := hs.mul
      show ∃ k, (if s.top.n.m < s.thr + D then raise D s.thr (p.kidAt s.top).n.m else s.thr) = D * k
      split
      · exact ⟨k + ((p.kidAt s.top).n.m - s.thr) / D, by unfold raise; rw [Int.mul_add, ← hk]⟩
      · exact ⟨k, hk⟩
    · intro x hx
      rcases List.mem_cons.1 hx with rfl | hx
      · show s.low ≤ s.top.n.m; omega
      · exact hs.above x hx
theorem Fm.Ok.step {p : Pb} (h : probChk p = 0) {D : Int} (hD : 1 ≤ D) {s : Fm} (hs : s.Ok p D) (hn : s.done = false) : (p.fstep D s).Ok p D := by
  obtain ⟨a1, a2, a3, a4, a5, a6, a7, a8, a9, a10, a11⟩ := hs.look h hD hn
  exact ⟨a1, a2, a3, a4, a5, a6, a7, a8, a9, a10, a11⟩
theorem Fm.Ok.run {p : Pb} (h : probChk p = 0) {D : Int} (hD : 1 ≤ D) : ∀ (k : Nat) {s : Fm}, s.Ok p D → (p.frun D k s).Ok p D
  | 0, _, hs => hs
  | k + 1, s, hs => by
    unfold Pb.frun
    cases hd : s.done with
    | true => simpa using hs
    | false => simpa using (hs.step h hD hd).run h hD k
end Go.Proofs.YtnjmplapjnnjdaaGreat

/- The search of layer 17 without a program: a list of entries in the order in which they were put. No walk. -/
namespace Go.Proofs.YtnjmplapjnnjdaaGreat
open Go.RowKit

/-! ### The last of the greatest, the first of the least -/
def lastMax (l : List Int) : Nat → Nat
  | 0 => 0
  | i + 1 => if l.getD (lastMax l i) 0 ≤ l.getD i 0 then i else lastMax l i
def firstMin (l : List Int) : Nat → Nat
  | 0 => 0
  | i + 1 => if l.getD i 0 < l.getD (firstMin l i) 0 then i else firstMin l i
theorem lastMax_facts (l : List Int) : ∀ k, 1 ≤ k → lastMax l k < k ∧ (∀ i, i < k → l.getD i 0 ≤ l.getD (lastMax l k) 0) ∧ ∀ i, lastMax l k < i → i < k → l.getD i 0 < l.getD (lastMax l k) 0
  | 0, h => by omega
  | 1, _ => by
    have e : lastMax l 1 = 0 := by unfold lastMax; split <;> rfl
    rw [e]
    exact ⟨by omega, fun i hi => (by have h0 : i = 0 := (by omega); subst h0; exact Int.le_refl _), fun i h1 h2 => by omega⟩
  | k + 2, _ => by
    obtain ⟨h1, h2, h3⟩ := lastMax_facts l (k + 1) (by omega)
    unfold lastMax
    split
    · rename_i hle
      refine ⟨by omega, fun i hi => ?_, fun i h4 h5 => by omega⟩
      rcases Nat.lt_or_ge i (k + 1) with h | h
      · exact Int.le_trans (h2 i h) hle
      · obtain rfl : i = k + 1 := by omega
        exact Int.le_refl _
    · rename_i hle
      refine ⟨by omega, fun i hi => ?_, fun i h4 h5 => ?_⟩
      · rcases Nat.lt_or_ge i (k + 1) with h | h
        · exact h2 i h
        · obtain rfl : i = k + 1 := by omega
          omega
      · rcases Nat.lt_or_ge i (k + 1) with h | h
        · exact h3 i h4 h
        · obtain rfl : i = k + 1 := by omega
          omega
theorem firstMin_facts (l : List Int) : ∀ k, 1 ≤ k → firstMin l k < k ∧ (∀ i, i < k → l.getD (firstMin l k) 0 ≤ l.getD i 0) ∧ ∀ i, i < firstMin l k → l.getD (firstMin l k) 0 < l.getD i 0
  | 0, h => by omega
  | 1, _ => by
    have e : firstMin l 1 = 0 := by unfold firstMin; split <;> rfl
    rw [e]
    exact ⟨by omega, fun i hi => (by have h0 : i = 0 := (by omega); subst h0; exact Int.le_refl _), fun i h1 => by omega⟩
  | k + 2, _ => by
    obtain ⟨h1, h2, h3⟩ := firstMin_facts l (k + 1) (by omega)
    unfold firstMin
    split
    · rename_i hlt
      refine ⟨by omega, fun i hi => ?_, fun i h4 => ?_⟩
      · rcases Nat.lt_or_ge i (k + 1) with h | h
        · have := h2 i h; omega
        · obtain rfl : i = k + 1 := by omega
          exact Int.le_refl _
      · have := h2 i h4; omega
    · rename_i hlt
      refine ⟨by omega, fun i hi => ?_, fun i h4 => h3 i h4⟩
      rcases Nat.lt_or_ge i (k + 1) with h | h
      · exact h2 i h
      · obtain rfl : i = k + 1 := by omega
        omega

/-! ### The entries of a bucket -/
section
variable {α : Type}
theorem parts_at {I : List α} {j : Nat} {x : α} (h : I[j]? = some x) : I = I.take j ++ x :: I.drop (j + 1) ∧ I.eraseIdx j = I.take j ++ I.drop (j + 1) := by
  obtain ⟨hj, rfl⟩ := List.getElem?_eq_some_iff.1 h
  refine ⟨?_, List.eraseIdx_eq_take_drop_succ ..⟩
  rw [← List.drop_eq_getElem_cons hj, List.take_append_drop]
theorem filter_other {I : List α} {j : Nat} {x : α} (h : I[j]? = some x) {P : α → Bool} (hx : P x = false) : (I.eraseIdx j).filter P = I.filter P := by
  obtain ⟨h1, h2⟩ := parts_at h
  rw [h2]
  conv => rhs; rw [h1]
  rw [List.filter_append, List.filter_append, List.filter_cons, hx]
  rfl
theorem filter_last {I : List α} {j : Nat} {x : α} (h : I[j]? = some x) {P : α → Bool} (hx : P x = true) (hl : ∀ i y, j < i → I[i]? = some y → P y = false) : I.filter P = (I.eraseIdx j).filter P ++ [x] := by
  obtain ⟨h1, h2⟩ := parts_at h
  have h3 : (I.drop (j + 1)).filter P = [] := by
    rw [List.filter_eq_nil_iff]
    intro y hy
    obtain ⟨i, hi⟩ := List.getElem?_of_mem hy
    rw [List.getElem?_drop] at hi
    simp [hl _ y (by omega) hi]
  rw [h2]
  conv => lhs; rw [h1]
  rw [List.filter_append, List.filter_append, List.filter_cons, hx, h3]
  simp
theorem filter_first {I : List α} {j : Nat} {x : α} (h : I[j]? = some x) {P : α → Bool} (hx : P x = true) (hl : ∀ i y, i < j → I[i]? = some y → P y = false) : I.filter P = x :: (I.eraseIdx j).filter P := by
  obtain ⟨h1, h2⟩ := parts_at h
  have h3 : (I.take j).filter P = [] := by
    rw [List.filter_eq_nil_iff]
    intro y hy
    obtain ⟨i, hi⟩ := List.getElem?_of_mem hy
    rw [List.getElem?_take] at hi
    split at hi
    · simp [hl _ y (by omega) hi]
    · cases hi
  rw [h2]
  conv => lhs; rw [h1]
  rw [List.filter_append, List.filter_append, List.filter_cons, hx, h3]
  simp
end

/-! ### The search -/
/-- An entry: its node, the bits to it, the least metric on the way. -/
structure Ent where
  n : Nd
  bs : List Nat
  dip : Int
structure Bq where
  L : List Ent
  work : Int
  drops : Int
  gone : Int
  some_ : Bool
  found : Option Ent
def keysOf (D : Int) (L : List Ent) : List Int := L.map fun e => e.n.m / D
def nextIx (D : Int) (L : List Ent) : Nat := lastMax (keysOf D L) L.length
def lowIx (D : Int) (L : List Ent) : Nat := firstMin (keysOf D L) L.length
def lowKey (D : Int) (L : List Ent) : Int := (keysOf D L).getD (lowIx D L) 0
def topKey (D : Int) (L : List Ent) : Int := (keysOf D L).getD (nextIx D L) 0
def Bq.put (D : Int) (most : Nat) (s : Bq) (x : Ent) : Bq :=
  if (s.L ++ [x]).length ≤ most then { s with L := s.L ++ [x] }
  else { s with L := (s.L ++ [x]).eraseIdx (lowIx D (s.L ++ [x])), drops := wrap64 (s.drops + 1), gone := if s.some_ = false ∨ s.gone < lowKey D (s.L ++ [x]) then lowKey D (s.L ++ [x]) else s.gone, some_ := true }
def ent0 : Ent := ⟨⟨0, 0, 0⟩, [], 0⟩
def Bq.start (D : Int) (most : Nat) : Bq := (Bq.mk [] 0 0 0 false none).put D most ent0
def Pb.kidEnts (p : Pb) (x : Ent) : List Ent := ((p.kids x.n).zip (p.kidBits x.n)).map fun y => ⟨y.1, x.bs ++ [y.2], min x.dip y.1.m⟩
def Bq.best (D : Int) (s : Bq) : Ent := s.L.getD (nextIx D s.L) ent0
def Pb.bstep (p : Pb) (D : Int) (most : Nat) (s : Bq) : Bq :=
  if (s.best D).n.d = p.N then { s with L := s.L.eraseIdx (nextIx D s.L), work := wrap64 (s.work + 1), found := some (s.best D) }
  else (p.kidEnts (s.best D)).foldl (Bq.put D most) { s with L := s.L.eraseIdx (nextIx D s.L), work := wrap64 (s.work + 1) }
def Pb.brun (p : Pb) (D : Int) (most : Nat) : Nat → Bq → Bq
  | 0, s => s
  | k + 1, s => if s.found.isSome then s else p.brun D most k (p.bstep D most s)
theorem Pb.brun_done (p : Pb) (D : Int) (most k : Nat) {s : Bq} (h : s.found.isSome = true) : p.brun D most k s = s := by
  cases k with
  | zero => rfl
  | succ k => unfold Pb.brun; rw [if_pos h]
theorem Pb.brun_snoc (p : Pb) (D : Int) (most : Nat) : ∀ (k : Nat) (s : Bq), p.brun D most (k + 1) s = if (p.brun D most k s).found.isSome then p.brun D most k s else p.bstep D most (p.brun D most k s)
  | 0, s => rfl
  | k + 1, s => by
    by_cases hd : s.found.isSome = true
    · rw [p.brun_done D most _ hd, p.brun_done D most _ hd, if_pos hd]
    · have e : ∀ j, p.brun D most (j + 1) s = p.brun D most j (p.bstep D most s) := fun j => by
        show (if s.found.isSome then s else _) = _
        rw [if_neg hd]
      rw [e, p.brun_snoc D most k, e]
theorem Pb.brun_add (p : Pb) (D : Int) (most a : Nat) : ∀ (b : Nat) (s : Bq), p.brun D most (a + b) s = p.brun D most b (p.brun D most a s)
  | 0, s => rfl
  | b + 1, s => by
    rw [← Nat.add_assoc, p.brun_snoc, p.brun_add D most a b, ← p.brun_snoc]

/-! ### What stays true -/
structure Ent.Ok (p : Pb) (e : Ent) : Prop where
  len : e.bs.length ≤ p.N.toNat
  lt : ∀ b ∈ e.bs, b < 2
  nd : e.n = p.nd e.bs e.bs.length
  dip : e.dip = dipOf ((List.range (e.bs.length + 1)).map fun i => (p.nd e.bs i).m)
theorem Ent.Ok.zero {p : Pb} : ent0.Ok p := ⟨Nat.zero_le _, by simp [ent0], rfl, by simp [ent0, List.range_succ, dipOf]; rfl⟩
theorem Ent.Ok.kids {p : Pb} (h : probChk p = 0) {x : Ent} (hx : x.Ok p) (hd : x.n.d ≠ p.N) : ∀ y ∈ p.kidEnts x, y.Ok p ∧ y.n.d = x.n.d + 1 := by
  intro y hy
  obtain ⟨⟨k, b⟩, hz, rfl⟩ := List.mem_map.1 hy
  obtain ⟨i, hi⟩ := List.getElem?_of_mem hz
  rw [List.getElem?_zip_eq_some] at hi
  obtain ⟨e1, e2, e3⟩ : k = p.kid x.n b ∧ b < 2 ∧ (p.L ≤ x.n.d → b = 0) := p.kids_get x.n hi.1 hi.2
  have hxd : x.n.d = (x.bs.length : Int) := by rw [hx.nd]; rfl
  have hN := Pb.N_le h
  have hlen := hx.len
  have hlt : x.bs.length < p.N.toNat := by omega
  have hb : p.bit (x.bs ++ [b]) x.bs.length = b := by
    unfold Pb.bit
    split
    · simp [List.getD_eq_getElem?_getD]
    · rw [e3 (by omega)]
  have hsame : ∀ i, i ≤ x.bs.length → p.nd (x.bs ++ [b]) i = p.nd x.bs i := fun i hi => Pb.nd_congr h (by omega) fun j hj => by
    unfold Pb.bit
    simp [List.getD_eq_getElem?_getD, List.getElem?_append_left (show j < x.bs.length by omega)]
  have hk : k = p.nd (x.bs ++ [b]) (x.bs.length + 1) := by
    rw [← Pb.nd_succ h _ hlt, hb, hsame _ (Nat.le_refl _), e1, ← hx.nd]
  refine ⟨⟨by simp; omega, fun c hc => ?_, by simp only [List.length_append, List.length_singleton]; exact hk, ?_⟩, by rw [hk]; show ((x.bs.length + 1 : Nat) : Int) = _; omega⟩
  · rcases List.mem_append.1 hc with hc | hc
    · exact hx.lt c hc
    · rw [List.mem_singleton.1 hc]; exact e2
  · show min x.dip k.m = dipOf ((List.range ((x.bs ++ [b]).length + 1)).map fun i => (p.nd (x.bs ++ [b]) i).m)
    rw [List.length_append, List.length_singleton, List.range_succ, List.map_append, List.map_singleton, dipOf_snoc, ← hk, hx.dip]
    congr 2
    refine List.map_congr_left fun i hi => ?_
    rw [List.mem_range] at hi
    rw [hsame i (by omega)]
structure Bq.Ok (p : Pb) (D : Int) (most : Nat) (s : Bq) : Prop where
  ents : ∀ e ∈ s.L, e.Ok p
  len : s.L.length ≤ most
  ne : s.found = none → 1 ≤ s.L.length
  fnd : ∀ e, s.found = some e → e.Ok p ∧ e.n.d = p.N
theorem mem_erase {α : Type} {l : List α} {j : Nat} {x : α} (h : x ∈ l.eraseIdx j) : x ∈ l := List.mem_of_mem_eraseIdx h
theorem Bq.put_facts {D : Int} {most : Nat} (hm : 1 ≤ most) {s : Bq} (hl : s.L.length ≤ most) (x : Ent) :
    (∀ e ∈ (s.put D most x).L, e ∈ s.L ∨ e = x) ∧ (s.put D most x).L.length ≤ most ∧ 1 ≤ (s.put D most x).L.length ∧ (s.put D most x).found = s.found ∧ (s.put D most x).work = s.work := by
  unfold Bq.put
  split
  · rename_i h
    refine ⟨fun e he => ?_, h, by simp, rfl, rfl⟩
    simpa using he
  · rename_i h
    have hlen : (s.L ++ [x]).length = most + 1 := by simp at h ⊢; omega
    have hk : (keysOf D (s.L ++ [x])).length = most + 1 := by unfold keysOf; rw [List.length_map, hlen]
    have hix : lowIx D (s.L ++ [x]) < (s.L ++ [x]).length := (firstMin_facts _ _ (by omega)).1
    have h2 : ((s.L ++ [x]).eraseIdx (lowIx D (s.L ++ [x]))).length = most := by rw [List.length_eraseIdx_of_lt hix, hlen]; rfl
    refine ⟨fun e he => ?_, Nat.le_of_eq h2, by rw [h2]; exact hm, rfl, rfl⟩
    have := mem_erase he
    simpa using this
theorem Bq.puts_facts {D : Int} {most : Nat} (hm : 1 ≤ most) : ∀ (l : List Ent) {s : Bq}, s.L.length ≤ most → (l ≠ [] ∨ 1 ≤ s.L.length) →
    (∀ e ∈ (l.foldl (Bq.put D most) s).L, e ∈ s.L ∨ e ∈ l) ∧ (l.foldl (Bq.put D most) s).L.length ≤ most ∧ 1 ≤ (l.foldl (Bq.put D most) s).L.length ∧ (l.foldl (Bq.put D most) s).found = s.found ∧ (l.foldl (Bq.put D most) s).work = s.work
  | [], s, hl, hn => ⟨fun e he => .inl he, hl, by rcases hn with h | h; exact absurd rfl h; exact h, rfl, rfl⟩
  | x :: l, s, hl, _ => by
    obtain ⟨a1, a2, a3, a4, a5⟩ := s.put_facts (D := D) hm hl x
    obtain ⟨b1, b2, b3, b4, b5⟩ := Bq.puts_facts (D := D) hm l a2 (.inr a3)
    refine ⟨fun e he => ?_, b2, b3, b4.trans a4, b5.trans a5⟩
    rcases b1 e he with h | h
    · rcases a1 e h with h | h
      · exact .inl h
      · exact .inr (by simp [h])
    · exact .inr (by simp [h])
theorem Bq.Ok.start {p : Pb} {D : Int} {most : Nat} (hm : 1 ≤ most) : (Bq.start D most).Ok p D most := by
  obtain ⟨a1, a2, a3, a4, _⟩ := Bq.put_facts (D := D) hm (s := ⟨[], 0, 0, 0, false, none⟩) (Nat.zero_le _) ent0
  refine ⟨fun e he => ?_, a2, fun _ => a3, fun e he => ?_⟩
  · rcases a1 e he with h | h
    · cases h
    · rw [h]; exact Ent.Ok.zero
  · unfold Bq.start at he
    rw [a4] at he
    cases he
theorem nextIx_lt {D : Int} {L : List Ent} (h : 1 ≤ L.length) : nextIx D L < L.length := (lastMax_facts _ _ h).1
theorem Bq.best_get {D : Int} {s : Bq} (h : 1 ≤ s.L.length) : s.L[nextIx D s.L]? = some (s.best D) := by
  unfold Bq.best
  rw [List.getD_eq_getElem?_getD, List.getElem?_eq_getElem (nextIx_lt h)]
  rfl
theorem Pb.kidEnts_ne (p : Pb) (x : Ent) : p.kidEnts x ≠ [] := by
  unfold Pb.kidEnts Pb.kids Pb.kidBits Pb.twoK Pb.twoB
  split
  · simp
  · split <;> simp
theorem Bq.Ok.step {p : Pb} (h : probChk p = 0) {D : Int} {most : Nat} (hm : 1 ≤ most) {s : Bq} (hs : s.Ok p D most) (hf : s.found = none) : (p.bstep D most s).Ok p D most := by
  have h1 := hs.ne hf
  have hg := Bq.best_get (D := D) h1
  have hb := hs.ents _ (List.mem_of_getElem? hg)
  have hl : (s.L.eraseIdx (nextIx D s.L)).length ≤ most := by
    have := hs.len
    rw [List.length_eraseIdx_of_lt (nextIx_lt h1)]
    omega
  unfold Pb.bstep
  split
  · rename_i hd
    refine ⟨fun e he => hs.ents e (mem_erase he), hl, (fun hf => by cases hf), fun e he => ?_⟩
    obtain rfl := Option.some.inj he
    exact ⟨hb, hd⟩
  · rename_i hd
    obtain ⟨a1, a2, a3, a4, _⟩ := Bq.puts_facts (D := D) hm (p.kidEnts (s.best D)) (s := { s with L := s.L.eraseIdx (nextIx D s.L), work := wrap64 (s.work + 1) }) hl (.inl (p.kidEnts_ne _))
    refine ⟨fun e he => ?_, a2, fun _ => a3, fun e he => ?_⟩
    · rcases a1 e he with h' | h'
      · exact hs.ents e (mem_erase h')
      · exact (hb.kids h hd e h').1
    · rw [a4] at he
      exact hs.fnd e he
theorem Bq.Ok.run {p : Pb} (h : probChk p = 0) {D : Int} {most : Nat} (hm : 1 ≤ most) : ∀ (k : Nat) {s : Bq}, s.Ok p D most → (p.brun D most k s).Ok p D most
  | 0, _, hs => hs
  | k + 1, s, hs => by
    unfold Pb.brun
    cases hd : s.found with
    | some x => simpa [hd] using hs
    | none => simpa [hd] using (hs.step h hm hd).run h hm k
/-- What is told of a search. -/
theorem Ent.Ok.path {p : Pb} (h : probChk p = 0) {e : Ent} (he : e.Ok p) (hd : e.n.d = p.N) : p.Path (e.bs.take p.L.toNat) ∧ e.bs.length = p.N.toNat ∧ dipOf (p.pm (e.bs.take p.L.toNat)) = e.dip ∧ lastOf (p.pm (e.bs.take p.L.toNat)) = e.n.m := by
  have hN := Pb.N_le h
  have hxd : e.n.d = (e.bs.length : Int) := by rw [he.nd]; rfl
  have hlen : e.bs.length = p.N.toNat := by omega
  obtain ⟨⟨k1, k2⟩, l1, l2, _⟩ := probChk_ok h
  have hLN : p.L ≤ p.N := by unfold Pb.N; omega
  have hpm : p.pm (e.bs.take p.L.toNat) = (List.range (p.N.toNat + 1)).map fun i => (p.nd e.bs i).m := by
    have e1 : p.pm (e.bs.take p.L.toNat) = (List.range (p.N.toNat + 1)).map fun i => (p.nd (e.bs.take p.L.toNat) i).m := by
      unfold Pb.pm Pb.psums
      rw [p.pathL_len]
      rfl
    rw [e1]
    refine List.map_congr_left fun i hi => ?_
    rw [List.mem_range] at hi
    rw [Pb.nd_congr h (by omega) fun j _ => ?_]
    unfold Pb.bit
    split
    · rename_i hj
      rw [List.getD_eq_getElem?_getD, List.getD_eq_getElem?_getD, List.getElem?_take, if_pos (by omega)]
    · rfl
  refine ⟨⟨?_, fun x hx => he.lt x (List.mem_of_mem_take hx)⟩, hlen, ?_, ?_⟩
  · rw [List.length_take]
    show ((min p.L.toNat e.bs.length : Nat) : Int) = p.L
    omega
  · rw [hpm, he.dip, hlen]
  · rw [hpm, List.range_succ, List.map_append, List.map_singleton, lastOf_snoc, he.nd, hlen]
end Go.Proofs.YtnjmplapjnnjdaaGreat

/- The walk of the document's Count. -/
namespace Go.Proofs.YtnjmplapjnnjdaaGreat
open Go.RowKit

end Go.Proofs.YtnjmplapjnnjdaaGreat
