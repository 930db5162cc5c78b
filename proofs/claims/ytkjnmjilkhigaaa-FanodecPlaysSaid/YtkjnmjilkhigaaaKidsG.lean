import Derived.Test.YtkjnmjilkhigaaaWays
import Derived.Test.YtkjnmjilkhigaaaCount
import Derived.Test.YtkjnmjilkhigaaaMetric2
set_option linter.unusedSimpArgs false
set_option linter.unusedVariables false
set_option linter.unnecessarySimpa false
/- Fano's machine without a program: its state, a look, what stays true of it. No walk. -/
namespace Go.Proofs.Ytkjnmjilkhigaaa
open Go.RowKit

/-- A node on the way, the bit to it, how many of its kids were tried. -/
structure Spot where
  n : Nd
  b : Nat
  t : Nat
/-- The machine: where it stands, the way to it (the parent first, the root last), the thresholds, the looks, whether it is at its end. -/
structure Fm where
  top : Spot
  up : List Spot
  thr : Int
  low : Int
  work : Int
  done : Bool
def Fm.start : Fm := ⟨⟨⟨0, 0, 0⟩, 0, 0⟩, [], 0, 0, 0, false⟩
def Pb.left (p : Pb) (x : Spot) : Bool := decide (x.t < (p.kids x.n).length)
/-- Back: is the threshold lowered, and where does it stand then? -/
def Pb.fallL (p : Pb) (thr : Int) : Spot → List Spot → Bool × Spot × List Spot
  | x, [] => (true, ⟨x.n, x.b, 0⟩, [])
  | x, y :: ys => if y.n.m < thr then (true, ⟨x.n, x.b, 0⟩, y :: ys) else if p.left y then (false, y, ys) else p.fallL thr y ys
def Pb.fall (p : Pb) (D : Int) (s : Fm) : Fm :=
  { s with top := (p.fallL s.thr s.top s.up).2.1, up := (p.fallL s.thr s.top s.up).2.2,
           thr := if (p.fallL s.thr s.top s.up).1 then s.thr - D else s.thr, low := if (p.fallL s.thr s.top s.up).1 then min s.low (s.thr - D) else s.low }
/-- The place of the next kid. -/
def Pb.at_ (p : Pb) (x : Spot) : Nat := (p.kids x.n).length - 1 - x.t
def Pb.kidAt (p : Pb) (x : Spot) : Spot := ⟨(p.kids x.n).getD (p.at_ x) ⟨0, 0, 0⟩, (p.kidBits x.n).getD (p.at_ x) 0, 0⟩
def raise (D thr m : Int) : Int := thr + D * ((m - thr) / D)
def Pb.flook (p : Pb) (D : Int) (s : Fm) : Fm :=
  if (p.kidAt s.top).n.m < s.thr then p.fall D { s with top := ⟨s.top.n, s.top.b, s.top.t + 1⟩ }
  else { s with top := p.kidAt s.top, up := ⟨s.top.n, s.top.b, s.top.t + 1⟩ :: s.up,
                thr := if s.top.n.m < s.thr + D then raise D s.thr (p.kidAt s.top).n.m else s.thr, done := (p.kidAt s.top).n.d == p.N }
def Pb.fstep (p : Pb) (D : Int) (s : Fm) : Fm := { p.flook D s with work := wrap64 (s.work + 1) }
def Pb.frun (p : Pb) (D : Int) : Nat → Fm → Fm
  | 0, s => s
  | k + 1, s => if s.done then s else p.frun D k (p.fstep D s)

/-! ### The way -/
def Pb.WayOk (p : Pb) : Spot → List Spot → Prop
  | x, [] => x.n = ⟨0, 0, 0⟩ ∧ x.b = 0
  | x, y :: ys => 1 ≤ y.t ∧ y.t ≤ (p.kids y.n).length ∧ (p.kids y.n)[(p.kids y.n).length - y.t]? = some x.n ∧ (p.kidBits y.n)[(p.kids y.n).length - y.t]? = some x.b ∧ y.n.d < p.N ∧ p.WayOk y ys
/-- The bits of a way, the root's own is none. -/
def wayBits (x : Spot) (up : List Spot) : List Nat := ((x :: up).reverse.tail).map (·.b)
theorem wayBits_nil (x : Spot) : wayBits x [] = [] := rfl
theorem wayBits_cons (x y : Spot) (ys : List Spot) : wayBits x (y :: ys) = wayBits y ys ++ [x.b] := by
  unfold wayBits
  rw [List.reverse_cons, List.tail_append_of_ne_nil (by simp), List.map_append]
  rfl
theorem wayBits_len (x : Spot) (up : List Spot) : (wayBits x up).length = up.length := by simp [wayBits]
theorem Pb.kids_get (p : Pb) (n : Nd) {i : Nat} {k : Nd} {b : Nat} (h1 : (p.kids n)[i]? = some k) (h2 : (p.kidBits n)[i]? = some b) : k = p.kid n b ∧ b < 2 ∧ (p.L ≤ n.d → b = 0) := by
  unfold Pb.kids Pb.twoK at h1
  unfold Pb.kidBits Pb.twoB at h2
  split at h1
  · rename_i hL
    rw [if_pos hL] at h2
    match i, h1, h2 with
    | 0, h1, h2 => simp at h1 h2; subst h2; exact ⟨h1.symm, by decide, fun _ => rfl⟩
    | i + 1, h1, h2 => simp at h1
  · rename_i hL
    rw [if_neg hL] at h2
    split at h1
    · rename_i hm
      rw [if_pos hm] at h2
      match i, h1, h2 with
      | 0, h1, h2 => simp at h1 h2; subst h2; exact ⟨h1.symm, by decide, fun h => absurd h hL⟩
      | 1, h1, h2 => simp at h1 h2; subst h2; exact ⟨h1.symm, by decide, fun h => absurd h hL⟩
      | i + 2, h1, h2 => simp at h1
    · rename_i hm
      rw [if_neg hm] at h2
      match i, h1, h2 with
      | 0, h1, h2 => simp at h1 h2; subst h2; exact ⟨h1.symm, by decide, fun h => absurd h hL⟩
      | 1, h1, h2 => simp at h1 h2; subst h2; exact ⟨h1.symm, by decide, fun h => absurd h hL⟩
      | i + 2, h1, h2 => simp at h1
theorem Pb.kbits_len (p : Pb) (n : Nd) : (p.kidBits n).length = (p.kids n).length := by
  unfold Pb.kids Pb.twoK Pb.kidBits Pb.twoB
  split
  · rfl
  · split <;> rfl
theorem Pb.nd_congr {p : Pb} (h : probChk p = 0) {bs cs : List Nat} : ∀ {i : Nat}, i ≤ p.N.toNat → (∀ j, j < i → p.bit bs j = p.bit cs j) → p.nd bs i = p.nd cs i
  | 0, _, _ => rfl
  | i + 1, hi, hb => by
    rw [← Pb.nd_succ h bs (by omega), ← Pb.nd_succ h cs (by omega), Pb.nd_congr h (i := i) (by omega) (fun j hj => hb j (by omega)), hb i (by omega)]
theorem Pb.bit_app (p : Pb) (bs cs : List Nat) {j : Nat} (h : j < bs.length) : p.bit (bs ++ cs) j = p.bit bs j := by
  unfold Pb.bit
  simp [List.getD_eq_getElem?_getD, List.getElem?_append_left h]
theorem Pb.WayOk.facts {p : Pb} (h : probChk p = 0) : ∀ {x : Spot} {up : List Spot}, p.WayOk x up → x.n = p.nd (wayBits x up) up.length ∧ up.length ≤ p.N.toNat ∧ (∀ b ∈ wayBits x up, b < 2) ∧ x.b < 2
  | x, [], hw => ⟨hw.1, Nat.zero_le _, by simp [wayBits_nil], by have := hw.2; omega⟩
  | x, y :: ys, hw => by
    obtain ⟨h1, h2, h3, h4, h5, h6⟩ := hw
    obtain ⟨i1, i2, i3, _⟩ := h6.facts h
    obtain ⟨e1, e2, e3⟩ := p.kids_get y.n h3 h4
    have hd : y.n.d = ys.length := by rw [i1]; rfl
    have hlt : ys.length < p.N.toNat := by omega
    have hwl := wayBits_len y ys
    refine ⟨?_, hlt, ?_, e2⟩
    · have hb : p.bit (wayBits y ys ++ [x.b]) ys.length = x.b := by
        unfold Pb.bit
        split
        · simp [List.getD_eq_getElem?_getD, ← hwl]
        · rw [e3 (by omega)]
      rw [wayBits_cons, e1]
      show _ = p.nd _ (ys.length + 1)
      rw [← Pb.nd_succ h _ hlt, hb]
      congr 1
      rw [i1]
      refine Pb.nd_congr h (by omega) fun j hj => (p.bit_app _ _ (by omega)).symm
    · intro b hb
      rw [wayBits_cons] at hb
      rcases List.mem_append.1 hb with hb | hb
      · exact i3 b hb
      · rw [List.mem_singleton.1 hb]; exact e2
theorem Pb.WayOk.depth {p : Pb} (h : probChk p = 0) {x : Spot} {up : List Spot} (hw : p.WayOk x up) : x.n.d = up.length := by rw [(hw.facts h).1]; rfl
theorem Pb.WayOk.bd {p : Pb} (h : probChk p = 0) {x : Spot} {up : List Spot} (hw : p.WayOk x up) : -12288 * 1055 ≤ x.n.m ∧ x.n.m ≤ 12288 * 1055 := by
  rw [(hw.facts h).1]; exact p.nd_bd h _ _
theorem Pb.WayOk.in_ {p : Pb} (h : probChk p = 0) {x : Spot} {up : List Spot} (hw : p.WayOk x up) (hd : x.n.d < p.N) : p.In x.n := by
  rw [(hw.facts h).1]; exact p.nd_in _ (by rw [hw.depth h] at hd; exact hd)
/-- The nodes of a way, from the root. -/
theorem Pb.WayOk.nds {p : Pb} (h : probChk p = 0) : ∀ {x : Spot} {up : List Spot}, p.WayOk x up → ((x :: up).reverse).map (·.n) = (List.range (up.length + 1)).map (p.nd (wayBits x up))
  | x, [], hw => by simp [hw.1, List.range_succ]; rfl
  | x, y :: ys, hw => by
    have hf := (hw.facts h).1
    obtain ⟨_, _, _, _, h5, h6⟩ := hw
    have ih := h6.nds h
    have hd := h6.depth h
    have hwl := wayBits_len y ys
    rw [List.reverse_cons, List.map_append, ih, List.length_cons, List.range_succ (n := ys.length + 1), List.map_append]
    congr 1
    · refine List.map_congr_left fun i hi => ?_
      rw [List.mem_range] at hi
      rw [wayBits_cons]
      exact Pb.nd_congr h (by omega) fun j hj => (p.bit_app _ _ (by omega)).symm
    · simp [hf]
theorem Pb.kids_pos (p : Pb) (n : Nd) : 1 ≤ (p.kids n).length ∧ (p.kids n).length ≤ 2 := by
  unfold Pb.kids Pb.twoK
  split
  · simp
  · split <;> simp

/-! ### What stays true -/
structure Fm.Ok (p : Pb) (D : Int) (s : Fm) : Prop where
  way : p.WayOk s.top s.up
  tries : s.done = false → s.top.t < (p.kids s.top.n).length
  dn : s.done = (s.top.n.d == p.N)
  thr_le : s.thr ≤ s.top.n.m
  thr_bd : -12288 * 1055 - D ≤ s.thr
  low_thr : s.low ≤ s.thr
  low0 : s.low ≤ 0
  low_bd : -12288 * 1055 - D ≤ s.low
  mul : ∃ k, s.thr = D * k
  lmul : ∃ k, s.low = D * k
  above : ∀ x ∈ s.up, s.low ≤ x.n.m
theorem Fm.Ok.start {p : Pb} (h : probChk p = 0) {D : Int} (hD : 1 ≤ D) : Fm.start.Ok p D := by
  have hN := Pb.N_le h
  refine ⟨⟨rfl, rfl⟩, fun _ => ?_, ?_, Int.le_refl _, ?_, Int.le_refl _, Int.le_refl _, ?_, ⟨0, by simp [Fm.start]⟩, ⟨0, by simp [Fm.start]⟩, by simp [Fm.start]⟩
  · have := (p.kids_pos ⟨0, 0, 0⟩).1; show 0 < _; exact this
  · show false = ((0 : Int) == p.N); symm; simp; omega
  · show _ ≤ (0 : Int); omega
  · show _ ≤ (0 : Int); omega
theorem Pb.kidAt_get {p : Pb} {x : Spot} (ht : x.t < (p.kids x.n).length) : (p.kids x.n)[(p.kids x.n).length - (x.t + 1)]? = some (p.kidAt x).n ∧ (p.kidBits x.n)[(p.kids x.n).length - (x.t + 1)]? = some (p.kidAt x).b := by
  have e : (p.kids x.n).length - (x.t + 1) = p.at_ x := by unfold Pb.at_; omega
  have h1 : p.at_ x < (p.kids x.n).length := by unfold Pb.at_; omega
  have h2 : p.at_ x < (p.kidBits x.n).length := by rw [p.kbits_len]; exact h1
  rw [e]
  unfold Pb.kidAt
  simp [List.getD_eq_getElem?_getD, List.getElem?_eq_getElem h1, List.getElem?_eq_getElem h2]
theorem Pb.WayOk.push {p : Pb} {x : Spot} {up : List Spot} (hw : p.WayOk x up) (ht : x.t < (p.kids x.n).length) (hd : x.n.d < p.N) : p.WayOk (p.kidAt x) (⟨x.n, x.b, x.t + 1⟩ :: up) := by
  obtain ⟨h1, h2⟩ := Pb.kidAt_get ht
  refine ⟨Nat.le_add_left _ _, ht, h1, h2, hd, ?_⟩
  cases up with
  | nil => exact hw
  | cons y ys => exact hw
theorem Pb.WayOk.tried {p : Pb} {x : Spot} {up : List Spot} (hw : p.WayOk x up) (t : Nat) : p.WayOk ⟨x.n, x.b, t⟩ up := by
  cases up with
  | nil => exact hw
  | cons y ys => exact hw
/-- Where a fall ends. -/
theorem Pb.fallL_facts {p : Pb} {thr : Int} : ∀ {x : Spot} {up : List Spot}, p.WayOk x up → x.n.d < p.N → thr ≤ x.n.m →
    p.WayOk (p.fallL thr x up).2.1 (p.fallL thr x up).2.2 ∧ (p.fallL thr x up).2.1.t < (p.kids (p.fallL thr x up).2.1.n).length ∧ (p.fallL thr x up).2.1.n.d < p.N ∧ thr ≤ (p.fallL thr x up).2.1.n.m ∧ (∀ z ∈ (p.fallL thr x up).2.2, z ∈ up) ∧
    ((p.fallL thr x up).1 = true → (∀ z, (p.fallL thr x up).2.2.head? = some z → z.n.m < thr))
  | x, [], hw, hd, hm => ⟨hw.tried 0, (p.kids_pos _).1, hd, hm, by simp [Pb.fallL], fun _ z hz => by simp [Pb.fallL] at hz⟩
  | x, y :: ys, hw, hd, hm => by
    unfold Pb.fallL
    split
    · rename_i hy
      exact ⟨hw.tried 0, (p.kids_pos _).1, hd, hm, fun z hz => hz, fun _ z hz => by simp at hz; subst hz; exact hy⟩
    · rename_i hy
      split
      · rename_i hl
        exact ⟨hw.2.2.2.2.2, by simpa [Pb.left] using hl, hw.2.2.2.2.1, (show thr ≤ y.n.m by omega), fun z hz => List.mem_cons_of_mem _ hz, fun h => by cases h⟩
      · obtain ⟨i1, i2, i3, i4, i5, i6⟩ := Pb.fallL_facts (p := p) (thr := thr) hw.2.2.2.2.2 hw.2.2.2.2.1 (by omega)
        exact ⟨i1, i2, i3, i4, fun z hz => List.mem_cons_of_mem _ (i5 z hz), i6⟩
theorem raise_facts {D thr m : Int} (hD : 1 ≤ D) (h : thr ≤ m) : raise D thr m ≤ m ∧ thr ≤ raise D thr m ∧ m < raise D thr m + D := by
  unfold raise
  have h1 := Int.emod_add_mul_ediv (m - thr) D
  have h2 := Int.emod_nonneg (m - thr) (b := D) (by omega)
  have h3 := Int.emod_lt_of_pos (m - thr) (b := D) (by omega)
  have h4 : 0 ≤ D * ((m - thr) / D) := Int.mul_nonneg (by omega) (Int.ediv_nonneg (by omega) (by omega))
  omega
theorem Fm.Ok.look {p : Pb} (h : probChk p = 0) {D : Int} (hD : 1 ≤ D) {s : Fm} (hs : s.Ok p D) (hn : s.done = false) : (p.flook D s).Ok p D := by
  have hdl : s.top.n.d < p.N := by
    have h1 := hs.dn
    rw [hn] at h1
    have h2 : s.top.n.d ≠ p.N := by simpa using h1.symm
    have h3 := (hs.way.facts h).2.1
    have h4 := hs.way.depth h
    have := Pb.N_le h
    omega
  have ht := hs.tries hn
  have hpush := hs.way.push ht hdl
  have hkbd := hpush.bd h
  unfold Pb.flook
  split
  · rename_i hk
    have hf := Pb.fallL_facts (p := p) (thr := s.thr) (hs.way.tried (s.top.t + 1)) hdl hs.thr_le
    obtain ⟨f1, f2, f3, f4, f5, f6⟩ := hf
    have hlow := hs.low_thr
    have hab := hs.above
    have hl0 := hs.low0
    have hbd := hs.thr_bd
    have hlb := hs.low_bd
    refine ⟨f1, fun _ => f2, ?_, ?_, ?_, ?_, ?_, ?_, ?_, ?_, ?_⟩
    · show s.done = _
      rw [hn]; symm
      show decide (_ = _) = false
      simp
      have : (p.fallL s.thr ⟨s.top.n, s.top.b, s.top.t + 1⟩ s.up).2.1.n.d < p.N := f3
      show ¬ (p.fallL s.thr ⟨s.top.n, s.top.b, s.top.t + 1⟩ s.up).2.1.n.d = p.N
      omega
    all_goals simp only [Pb.fall]
    · split <;> omega
    · split <;> omega
    · split <;> omega
    · split <;> omega
    · split <;> omega
    · obtain ⟨k, hk⟩ := hs.mul
      split
      · exact ⟨k - 1, by rw [hk, Int.mul_sub, Int.mul_one]⟩
      · exact ⟨k, hk⟩
    · obtain ⟨k, hk⟩ := hs.mul
      obtain ⟨k', hk'⟩ := hs.lmul
      split
      · rcases Int.le_total s.low (s.thr - D) with h | h
        · exact ⟨k', by rw [Int.min_eq_left h, hk']⟩
        · exact ⟨k - 1, by rw [Int.min_eq_right h, hk, Int.mul_sub, Int.mul_one]⟩
      · exact ⟨k', hk'⟩
    · intro x hx
      have := hab x (f5 x hx)
      split <;> omega
  · rename_i hk
    have hr := raise_facts hD (show s.thr ≤ (p.kidAt s.top).n.m by omega)
    have hlow := hs.low_thr
    have hbd := hs.thr_bd
    have htl := hs.thr_le
    refine ⟨hpush, fun hd => ?_, rfl, ?_, ?_, ?_, hs.low0, hs.low_bd, ?_, hs.lmul, ?_⟩
    · exact (p.kids_pos _).1
    · show (if s.top.n.m < s.thr + D then raise D s.thr (p.kidAt s.top).n.m else s.thr) ≤ (p.kidAt s.top).n.m
      split <;> omega
    · show _ ≤ (if s.top.n.m < s.thr + D then raise D s.thr (p.kidAt s.top).n.m else s.thr)
      split <;> omega
    · show s.low ≤ (if s.top.n.m < s.thr + D then raise D s.thr (p.kidAt s.top).n.m else s.thr)
      split <;> omega
    · obtain ⟨k, hk⟩ := hs.mul
      show ∃ k, (if s.top.n.m < s.thr + D then raise D s.thr (p.kidAt s.top).n.m else s.thr) = D * k
      split
      · exact ⟨k + ((p.kidAt s.top).n.m - s.thr) / D, by unfold raise; rw [Int.mul_add, ← hk]⟩
      · exact ⟨k, hk⟩
    · intro x hx
      rcases List.mem_cons.1 hx with rfl | hx
      · show s.low ≤ s.top.n.m; omega
      · exact hs.above x hx
theorem Fm.Ok.step {p : Pb} (h : probChk p = 0) {D : Int} (hD : 1 ≤ D) {s : Fm} (hs : s.Ok p D) (hn : s.done = false) : (p.fstep D s).Ok p D := by
  obtain ⟨a1, a2, a3, a4, a5, a6, a7, a8, a9, a10, a11⟩ := hs.look h hD hn
  exact ⟨a1, a2, a3, a4, a5, a6, a7, a8, a9, a10, a11⟩
theorem Fm.Ok.run {p : Pb} (h : probChk p = 0) {D : Int} (hD : 1 ≤ D) : ∀ (k : Nat) {s : Fm}, s.Ok p D → (p.frun D k s).Ok p D
  | 0, _, hs => hs
  | k + 1, s, hs => by
    unfold Pb.frun
    cases hd : s.done with
    | true => simpa using hs
    | false => simpa using (hs.step h hD hd).run h hD k
theorem Pb.frun_done (p : Pb) (D : Int) (k : Nat) {s : Fm} (h : s.done = true) : p.frun D k s = s := by
  cases k with
  | zero => rfl
  | succ k => unfold Pb.frun; rw [if_pos h]
theorem Pb.frun_snoc (p : Pb) (D : Int) : ∀ (k : Nat) (s : Fm), p.frun D (k + 1) s = if (p.frun D k s).done then p.frun D k s else p.fstep D (p.frun D k s)
  | 0, s => rfl
  | k + 1, s => by
    by_cases hd : s.done = true
    · rw [p.frun_done D _ hd, p.frun_done D _ hd, if_pos hd]
    · have e : ∀ j, p.frun D (j + 1) s = p.frun D j (p.fstep D s) := fun j => by
        show (if s.done then s else _) = _
        rw [if_neg hd]
      rw [e, p.frun_snoc D k, e]
theorem Pb.frun_add (p : Pb) (D : Int) (a : Nat) : ∀ (b : Nat) (s : Fm), p.frun D (a + b) s = p.frun D b (p.frun D a s)
  | 0, s => rfl
  | b + 1, s => by
    rw [← Nat.add_assoc, p.frun_snoc, p.frun_add D a b, ← p.frun_snoc]
end Go.Proofs.Ytkjnmjilkhigaaa

/- Fano's machine leaves nothing out: where the threshold is lowered no complete path stays above. No walk. -/
namespace Go.Proofs.Ytkjnmjilkhigaaa
open Go.RowKit

/-- No way on from a node to a leaf, so many steps below, stays at or above T. -/
def Pb.deadN (p : Pb) (T : Int) : Nat → Nd → Prop
  | 0, _ => False
  | f + 1, n => ∀ k ∈ p.kids n, k.m < T ∨ p.deadN T f k
theorem Pb.deadN_mono (p : Pb) {T T' : Int} (hT : T ≤ T') : ∀ {f : Nat} {n : Nd}, p.deadN T f n → p.deadN T' f n
  | 0, _, h => h
  | f + 1, n, h => fun k hk => (h k hk).imp (fun h => by omega) (fun h => p.deadN_mono hT h)
theorem Pb.deadN_path {p : Pb} (h : probChk p = 0) {bs : List Nat} (hb : p.Path bs) {T : Int} : ∀ (f i : Nat), i + f = p.N.toNat → p.deadN T f (p.nd bs i) → ∃ j, j ≤ p.N.toNat ∧ (p.nd bs j).m < T
  | 0, _, _, hd => hd.elim
  | f + 1, i, hi, hd => by
    rcases hd _ (Pb.nd_mem h hb (i := i) (by omega)) with h1 | h1
    · exact ⟨i + 1, by omega, h1⟩
    · exact p.deadN_path h hb f (i + 1) (by omega) h1
def Pb.fuel (p : Pb) (n : Nd) : Nat := (p.N - n.d).toNat
/-- a kid of no use at T -/
def Pb.gone (p : Pb) (T : Int) (k : Nd) : Prop := k.m < T ∨ p.deadN T (p.fuel k) k
theorem Pb.gone_mono (p : Pb) {T T' : Int} (hT : T ≤ T') {k : Nd} (h : p.gone T k) : p.gone T' k := h.imp (fun h => by omega) (p.deadN_mono hT)
def flrD (D m : Int) : Int := D * (m / D)
theorem flrD_le {D : Int} (hD : 1 ≤ D) (m : Int) : flrD D m ≤ m ∧ m < flrD D m + D := by
  unfold flrD
  have h1 := Int.emod_add_mul_ediv m D
  have h2 := Int.emod_nonneg m (b := D) (by omega)
  have h3 := Int.emod_lt_of_pos m (b := D) (by omega)
  omega
theorem mul_le_of_lt {D : Int} (hD : 1 ≤ D) {a b : Int} (h : D * a < D * b + D) : D * a ≤ D * b := by
  have h1 : D * a < D * (b + 1) := by rw [Int.mul_add, Int.mul_one]; exact h
  have h2 := Int.lt_of_mul_lt_mul_left h1 (by omega)
  exact Int.mul_le_mul_of_nonneg_left (by omega) (by omega)
theorem flrD_ge {D : Int} (hD : 1 ≤ D) {k m : Int} (h : D * k ≤ m) : D * k ≤ flrD D m := by
  have := flrD_le hD m
  exact mul_le_of_lt hD (by unfold flrD at this; omega)
/-- The kids that were tried ahead of where the way goes on are of no use, each at the threshold that counts there. -/
def Pb.Dd (p : Pb) (D : Int) : Int → List Spot → Prop
  | _, [] => True
  | T, y :: ys => (∀ i k, (p.kids y.n).length - y.t < i → (p.kids y.n)[i]? = some k → p.gone (min T (flrD D y.n.m)) k) ∧ p.Dd D (min T (flrD D y.n.m)) ys
def Pb.Td (p : Pb) (T : Int) (x : Spot) : Prop := ∀ i k, (p.kids x.n).length - x.t ≤ i → (p.kids x.n)[i]? = some k → p.gone T k
def Pb.Ad (p : Pb) (T : Int) (n : Nd) : Prop := ∀ k ∈ p.kids n, p.gone T k
theorem Pb.kid_d (p : Pb) (n : Nd) : ∀ k ∈ p.kids n, k.d = n.d + 1 := by
  intro k hk
  unfold Pb.kids Pb.twoK at hk
  split at hk
  · rw [List.mem_singleton.1 hk]; rfl
  · split at hk <;> · simp at hk; rcases hk with rfl | rfl <;> rfl
theorem Pb.Ad.dead {p : Pb} {T : Int} {n : Nd} (h : p.Ad T n) (hd : n.d < p.N) : p.deadN T (p.fuel n) n := by
  have e : p.fuel n = (p.N - (n.d + 1)).toNat + 1 := by unfold Pb.fuel; omega
  rw [e]
  intro k hk
  have hkd := p.kid_d n k hk
  have := h k hk
  unfold Pb.gone Pb.fuel at this
  rw [hkd] at this
  exact this
/-- The worse kid comes first. -/
theorem Pb.kids_sorted (p : Pb) (n : Nd) {i j : Nat} {a b : Nd} (hij : i ≤ j) (ha : (p.kids n)[i]? = some a) (hb : (p.kids n)[j]? = some b) : a.m ≤ b.m := by
  unfold Pb.kids Pb.twoK at ha hb
  split at ha
  · rename_i hL
    rw [if_pos hL] at hb
    match i, j, ha, hb with
    | 0, 0, ha, hb => simp at ha hb; subst ha; subst hb; exact Int.le_refl _
    | i + 1, _, ha, _ => simp at ha
    | _, j + 1, _, hb => simp at hb
  · rename_i hL
    rw [if_neg hL] at hb
    split at ha
    · rename_i hm
      rw [if_pos hm] at hb
      match i, j, ha, hb with
      | 0, 0, ha, hb => simp at ha hb; subst ha; subst hb; exact Int.le_refl _
      | 0, 1, ha, hb => simp at ha hb; subst ha; subst hb; omega
      | 1, 1, ha, hb => simp at ha hb; subst ha; subst hb; exact Int.le_refl _
      | 1, 0, _, _ => omega
      | i + 2, _, ha, _ => simp at ha
      | _, j + 2, _, hb => simp at hb
    · rename_i hm
      rw [if_neg hm] at hb
      match i, j, ha, hb with
      | 0, 0, ha, hb => simp at ha hb; subst ha; subst hb; exact Int.le_refl _
      | 0, 1, ha, hb => simp at ha hb; subst ha; subst hb; omega
      | 1, 1, ha, hb => simp at ha hb; subst ha; subst hb; exact Int.le_refl _
      | 1, 0, _, _ => omega
      | i + 2, _, ha, _ => simp at ha
      | _, j + 2, _, hb => simp at hb
theorem Pb.fallL_dead {p : Pb} {D : Int} (hD : 1 ≤ D) {thr : Int} (hm : ∃ k, thr = D * k) : ∀ {x : Spot} {up : List Spot}, p.WayOk x up → x.n.d < p.N → thr ≤ x.n.m → p.Dd D thr up → p.Ad thr x.n →
    p.Dd D thr (p.fallL thr x up).2.2 ∧ ((p.fallL thr x up).1 = true → (p.fallL thr x up).2.1.t = 0 ∧ ((p.fallL thr x up).2.2 = [] → p.Ad thr (p.fallL thr x up).2.1.n)) ∧ ((p.fallL thr x up).1 = false → p.Td thr (p.fallL thr x up).2.1)
  | x, [], hw, hd, hx, hdd, had => ⟨trivial, fun _ => ⟨rfl, fun _ => had⟩, fun h => by cases h⟩
  | x, y :: ys, hw, hd, hx, hdd, had => by
    unfold Pb.fallL
    split
    · exact ⟨hdd, fun _ => ⟨rfl, fun h => by cases h⟩, fun h => by cases h⟩
    · rename_i hy
      obtain ⟨k, hk⟩ := hm
      have hF : min thr (flrD D y.n.m) = thr := Int.min_eq_left (by rw [hk]; exact flrD_ge hD (by omega))
      obtain ⟨d1, d2⟩ := hdd
      rw [hF] at d1 d2
      obtain ⟨w1, w2, w3, w4, w5, w6⟩ := hw
      have htd : p.Td thr y := by
        intro i k' hi hk'
        by_cases he : i = (p.kids y.n).length - y.t
        · subst he
          rw [w3] at hk'
          obtain rfl := Option.some.inj hk'
          exact .inr (had.dead hd)
        · exact d1 i k' (by omega) hk'
      split
      · exact ⟨d2, fun h => (by cases h), fun _ => htd⟩
      · rename_i hl
        have hl' : ¬ y.t < (p.kids y.n).length := by simpa [Pb.left] using hl
        refine Pb.fallL_dead hD ⟨k, hk⟩ w6 w5 (by omega) d2 fun k' hk' => ?_
        obtain ⟨i, hi, rfl⟩ := List.getElem_of_mem hk'
        exact htd i _ (by omega) (List.getElem?_eq_getElem hi)
structure Fm.Deep (p : Pb) (D : Int) (s : Fm) : Prop where
  td : p.Td s.thr s.top
  dd : p.Dd D s.thr s.up
  no : 0 < s.low + D ∨ p.deadN (s.low + D) p.N.toNat ⟨0, 0, 0⟩
theorem Fm.Deep.start (p : Pb) {D : Int} (hD : 1 ≤ D) : Fm.start.Deep p D := ⟨fun i k hi hk => (by
    have : (p.kids Fm.start.top.n).length - 0 ≤ i := hi
    rw [List.getElem?_eq_none (by omega)] at hk
    cases hk), trivial, .inl (by show (0 : Int) < 0 + D; omega)⟩
theorem Fm.Deep.look {p : Pb} (h : probChk p = 0) {D : Int} (hD : 1 ≤ D) {s : Fm} (hs : s.Ok p D) (hg : s.Deep p D) (hn : s.done = false) : (p.flook D s).Deep p D := by
  have hdl : s.top.n.d < p.N := by
    have h1 := hs.dn
    rw [hn] at h1
    have h2 : s.top.n.d ≠ p.N := by simpa using h1.symm
    have h3 := (hs.way.facts h).2.1
    have h4 := hs.way.depth h
    have := Pb.N_le h
    omega
  have ht := hs.tries hn
  obtain ⟨g1, g2⟩ := Pb.kidAt_get ht
  unfold Pb.flook
  split
  · rename_i hk
    have had : p.Ad s.thr s.top.n := fun k hk' => by
      obtain ⟨i, hi, rfl⟩ := List.getElem_of_mem hk'
      by_cases hle : i ≤ (p.kids s.top.n).length - (s.top.t + 1)
      · have := p.kids_sorted s.top.n hle (List.getElem?_eq_getElem hi) g1
        exact .inl (by omega)
      · exact hg.td i _ (by omega) (List.getElem?_eq_getElem hi)
    have hw := hs.way.tried (s.top.t + 1)
    obtain ⟨d1, d2, d3⟩ := p.fallL_dead hD hs.mul hw hdl hs.thr_le hg.dd had
    obtain ⟨f1, _, f3, f4, f5, f6⟩ := Pb.fallL_facts (p := p) (thr := s.thr) hw hdl hs.thr_le
    cases hb : (p.fallL s.thr ⟨s.top.n, s.top.b, s.top.t + 1⟩ s.up).1 with
    | false =>
      refine ⟨?_, ?_, ?_⟩
      · simp only [Pb.fall, hb]; exact d3 hb
      · simp only [Pb.fall, hb]; exact d1
      · simp only [Pb.fall, hb]; exact hg.no
    | true =>
      obtain ⟨e1, e2⟩ := d2 hb
      have f6 := f6 hb
      refine ⟨?_, ?_, ?_⟩
      · simp only [Pb.fall, hb]
        intro i k hi hk
        rw [e1] at hi
        rw [List.getElem?_eq_none (by simpa using hi)] at hk
        cases hk
      · simp only [Pb.fall, hb, if_true]
        revert d1 f6
        cases (p.fallL s.thr ⟨s.top.n, s.top.b, s.top.t + 1⟩ s.up).2.2 with
        | nil => exact fun _ _ => trivial
        | cons z zs =>
          intro d1 f6
          have hz := f6 z rfl
          obtain ⟨k, hk⟩ := hs.mul
          have hF := flrD_le hD z.n.m
          have hF2 : flrD D z.n.m ≤ s.thr - D := by
            have : D * (z.n.m / D) < D * (k - 1) + D := by rw [Int.mul_sub, Int.mul_one, ← hk]; unfold flrD at hF; omega
            have := mul_le_of_lt hD this
            rw [Int.mul_sub, Int.mul_one, ← hk] at this
            exact this
          obtain ⟨d1, d2⟩ := d1
          have m1 : min s.thr (flrD D z.n.m) = flrD D z.n.m := Int.min_eq_right (by omega)
          have m2 : min (s.thr - D) (flrD D z.n.m) = flrD D z.n.m := Int.min_eq_right hF2
          rw [m1] at d1 d2
          exact ⟨by rw [m2]; exact d1, by rw [m2]; exact d2⟩
      · simp only [Pb.fall, hb, if_true]
        by_cases hlow : s.low ≤ s.thr - D
        · rw [Int.min_eq_left hlow]; exact hg.no
        · rw [Int.min_eq_right (by omega)]
          obtain ⟨k, hk⟩ := hs.mul
          obtain ⟨k', hk'⟩ := hs.lmul
          have hlt := hs.low_thr
          have hle := mul_le_of_lt hD (a := k) (b := k') (by omega)
          have hab := hs.above
          have hnil : (p.fallL s.thr ⟨s.top.n, s.top.b, s.top.t + 1⟩ s.up).2.2 = [] := by
            revert f5 f6
            cases (p.fallL s.thr ⟨s.top.n, s.top.b, s.top.t + 1⟩ s.up).2.2 with
            | nil => exact fun _ _ => rfl
            | cons z zs =>
              intro f5 f6
              have h1 := f6 z rfl
              have h2 := hab z (f5 z (by simp))
              omega
          have had' := (e2 hnil).dead f3
          have hr : (p.fallL s.thr ⟨s.top.n, s.top.b, s.top.t + 1⟩ s.up).2.1.n = ⟨0, 0, 0⟩ := by
            rw [hnil] at f1; exact f1.1
          rw [hr] at had'
          refine .inr ?_
          have e : s.thr - D + D = s.thr := by omega
          rw [e]
          have e' : p.fuel ⟨0, 0, 0⟩ = p.N.toNat := by unfold Pb.fuel; simp
          rw [← e']
          exact had'
  · rename_i hk
    obtain ⟨k, hk'⟩ := hs.mul
    have hr := raise_facts hD (show s.thr ≤ (p.kidAt s.top).n.m by omega)
    have hF := flrD_ge hD (show D * k ≤ s.top.n.m by rw [← hk']; exact hs.thr_le)
    have hF2 := flrD_le hD s.top.n.m
    rw [← hk'] at hF
    have hmin : min (if s.top.n.m < s.thr + D then raise D s.thr (p.kidAt s.top).n.m else s.thr) (flrD D s.top.n.m) = s.thr := by
      split
      · rename_i h1
        have : flrD D s.top.n.m ≤ s.thr := by
          have := mul_le_of_lt hD (a := s.top.n.m / D) (b := k) (by rw [← hk']; unfold flrD at hF2; omega)
          rw [← hk'] at this; exact this
        omega
      · omega
    refine ⟨fun i k hi hk => ?_, ⟨?_, ?_⟩, hg.no⟩
    · have hi' : (p.kids (p.kidAt s.top).n).length - 0 ≤ i := hi
      rw [List.getElem?_eq_none (by omega)] at hk; cases hk
    · show ∀ i k, _ → _ → p.gone (min (if s.top.n.m < s.thr + D then raise D s.thr (p.kidAt s.top).n.m else s.thr) (flrD D s.top.n.m)) k
      rw [hmin]
      intro i k hi hk
      exact hg.td i k (by have : (p.kids s.top.n).length - (s.top.t + 1) < i := hi; omega) hk
    · show p.Dd D (min (if s.top.n.m < s.thr + D then raise D s.thr (p.kidAt s.top).n.m else s.thr) (flrD D s.top.n.m)) s.up
      rw [hmin]; exact hg.dd
theorem Fm.Deep.run {p : Pb} (h : probChk p = 0) {D : Int} (hD : 1 ≤ D) : ∀ (k : Nat) {s : Fm}, s.Ok p D → s.Deep p D → (p.frun D k s).Deep p D
  | 0, _, _, hg => hg
  | k + 1, s, hs, hg => by
    unfold Pb.frun
    cases hd : s.done with
    | true => simpa using hg
    | false =>
      have hl := hg.look h hD hs hd
      have : (p.fstep D s).Deep p D := ⟨hl.td, hl.dd, hl.no⟩
      simpa using Fm.Deep.run h hD k (hs.step h hD hd) this
/-- No complete path stays at or above the least threshold and one step more. -/
theorem Fm.Deep.path {p : Pb} (h : probChk p = 0) {D : Int} {s : Fm} (hg : s.Deep p D) {bs : List Nat} (hb : p.Path bs) : dipOf (p.pm bs) < s.low + D := by
  obtain ⟨h0, hd, _⟩ := p.pm_dip bs
  rcases hg.no with h1 | h1
  · omega
  · obtain ⟨j, hj, hlt⟩ := Pb.deadN_path h hb p.N.toNat 0 (by omega) h1
    have := hd j _ (p.pm_get bs hj)
    have e : (p.nd bs j).m = p.psum ((p.pathL bs).take j) := rfl
    omega
end Go.Proofs.Ytkjnmjilkhigaaa

/- What Fano's machine comes to. No walk. -/
namespace Go.Proofs.Ytkjnmjilkhigaaa
open Go.RowKit

def Fm.bits (s : Fm) : List Nat := wayBits s.top s.up
def Pb.fbits (p : Pb) (s : Fm) : List Nat := if s.done then s.bits.take p.L.toNat else []
def Pb.fdip (p : Pb) (s : Fm) : Int := if s.done then dipOf (p.pm (s.bits.take p.L.toNat)) else 0
def Pb.ftot (p : Pb) (s : Fm) : Int := if s.done then lastOf (p.pm (s.bits.take p.L.toNat)) else 0
theorem Fm.Ok.len {p : Pb} (h : probChk p = 0) {D : Int} {s : Fm} (hs : s.Ok p D) (hd : s.done = true) : s.up.length = p.N.toNat := by
  have h1 := hs.dn
  rw [hd] at h1
  have h2 : s.top.n.d = p.N := by simpa using h1.symm
  have h3 := hs.way.depth h
  have := Pb.N_le h
  omega
theorem Pb.L_le {p : Pb} (h : probChk p = 0) : 1 ≤ p.L ∧ p.L ≤ 1024 ∧ p.L ≤ p.N := by
  obtain ⟨⟨k1, k2⟩, l1, l2, _⟩ := probChk_ok h
  unfold Pb.N; omega
theorem Fm.Ok.path {p : Pb} (h : probChk p = 0) {D : Int} {s : Fm} (hs : s.Ok p D) (hd : s.done = true) : p.Path (s.bits.take p.L.toNat) := by
  have h1 := hs.len h hd
  have h2 := wayBits_len s.top s.up
  have h3 := Pb.L_le h
  refine ⟨?_, fun x hx => (hs.way.facts h).2.2.1 x (List.mem_of_mem_take hx)⟩
  rw [List.length_take]
  show ((min p.L.toNat (wayBits s.top s.up).length : Nat) : Int) = p.L
  omega
theorem Fm.Ok.chk {p : Pb} (h : probChk p = 0) {D : Int} {s : Fm} (hs : s.Ok p D) (hd : s.done = true) : p.pathChk (s.bits.take p.L.toNat) = 0 :=
  Pb.path_chk h (hs.path h hd).len (hs.path h hd).lt
theorem Pb.bit_take (p : Pb) (bs : List Nat) (j : Nat) : p.bit (bs.take p.L.toNat) j = p.bit bs j := by
  unfold Pb.bit
  split
  · rename_i hj
    rw [List.getD_eq_getElem?_getD, List.getD_eq_getElem?_getD, List.getElem?_take, if_pos (by omega)]
  · rfl
theorem Pb.nd_take {p : Pb} (h : probChk p = 0) (bs : List Nat) {i : Nat} (hi : i ≤ p.N.toNat) : p.nd (bs.take p.L.toNat) i = p.nd bs i :=
  Pb.nd_congr h hi fun j _ => p.bit_take bs j
theorem Pb.pm_nd (p : Pb) (bs : List Nat) : p.pm bs = (List.range (p.N.toNat + 1)).map fun i => (p.nd bs i).m := by
  unfold Pb.pm Pb.psums
  rw [p.pathL_len]
  rfl
theorem Fm.Ok.pm {p : Pb} (h : probChk p = 0) {D : Int} {s : Fm} (hs : s.Ok p D) (hd : s.done = true) : p.pm (s.bits.take p.L.toNat) = ((s.top :: s.up).reverse).map (·.n.m) := by
  have h1 := hs.way.nds h
  have h2 := hs.len h hd
  have h3 : ((s.top :: s.up).reverse).map (·.n.m) = (((s.top :: s.up).reverse).map (·.n)).map (·.m) := by rw [List.map_map]; rfl
  rw [p.pm_nd, h3, h1, h2, List.map_map]
  refine List.map_congr_left fun i hi => ?_
  rw [List.mem_range] at hi
  rw [Pb.nd_take h _ (by omega)]
  rfl
theorem Fm.Ok.tot {p : Pb} (h : probChk p = 0) {D : Int} {s : Fm} (hs : s.Ok p D) (hd : s.done = true) : p.ftot s = s.top.n.m := by
  unfold Pb.ftot
  rw [if_pos hd, hs.pm h hd, List.reverse_cons, List.map_append]
  unfold lastOf
  simp [List.getLastD_eq_getLast?]
theorem Fm.Ok.dip {p : Pb} (h : probChk p = 0) {D : Int} {s : Fm} (hs : s.Ok p D) (hd : s.done = true) : p.fdip s = dipOf (((s.top :: s.up).reverse).map (·.n.m)) := by
  unfold Pb.fdip
  rw [if_pos hd, hs.pm h hd]
theorem foldl_min_ge {l : List Int} {a t : Int} (ha : t ≤ a) (h : ∀ x ∈ l, t ≤ x) : t ≤ l.foldl min a := by
  induction l generalizing a with
  | nil => exact ha
  | cons x l ih => exact ih (by have := h x (by simp); omega) fun y hy => h y (by simp [hy])
/-- What is found stays at or above the least threshold. -/
theorem Fm.Ok.dip_ge {p : Pb} (h : probChk p = 0) {D : Int} {s : Fm} (hs : s.Ok p D) (hd : s.done = true) : s.low ≤ p.fdip s := by
  rw [hs.dip h hd]
  refine foldl_min_ge hs.low0 fun x hx => ?_
  obtain ⟨y, hy, rfl⟩ := List.mem_map.1 hx
  rw [List.mem_reverse] at hy
  rcases List.mem_cons.1 hy with rfl | hy
  · have := hs.low_thr; have := hs.thr_le; omega
  · exact hs.above y hy
/-- The floor of the greatest dip. -/
theorem flr_le {a b D : Int} (hD : 1 ≤ D) {k : Int} (h1 : a < D * k + D) (h2 : D * k ≤ b) : a / D ≤ b / D := by
  have e : D * k + D = D * (k + 1) := by rw [Int.mul_add, Int.mul_one]
  have h3 : a / D < k + 1 := Int.ediv_lt_of_lt_mul (by omega) (by rw [Int.mul_comm]; omega)
  have h4 : k ≤ b / D := (Int.le_ediv_iff_mul_le (by omega)).2 (by rw [Int.mul_comm]; exact h2)
  omega
/-- As many looks as may be: they are counted while it is not at its end. -/
theorem Pb.frun_work (p : Pb) (D : Int) : ∀ (k : Nat) (s : Fm), (p.frun D k s).done = false → (p.frun D k s).work = wrap64 (s.work + k) ∨ (k = 0)
  | 0, _, _ => .inr rfl
  | k + 1, s, hd => by
    left
    unfold Pb.frun at hd ⊢
    split at hd
    · rename_i h; rw [h] at hd; cases hd
    · rename_i h
      rw [if_neg h]
      rcases p.frun_work D k (p.fstep D s) hd with e | e
      · rw [e]; show wrap64 (wrap64 (s.work + 1) + k) = _; unfold wrap64; omega
      · subst e; show wrap64 (s.work + 1) = _; rfl
end Go.Proofs.Ytkjnmjilkhigaaa

/- The walk of the document's Count. -/
namespace Go.Proofs.Ytkjnmjilkhigaaa
open Go.RowKit

end Go.Proofs.Ytkjnmjilkhigaaa

/- The walk of the spoiling of a row that was lent. -/
namespace Go.Proofs.Ytkjnmjilkhigaaa
open Go.RowKit

/-- A row of n bytes at the head of a block. -/
def Row8 (w : World) (g n : Nat) : Prop := ∃ cs, Box w g cs ∧ ∀ j, j < n → ∃ u : Int, cs[j]? = some (.int .u8 u)
theorem Row8.kept {w w' : World} {g n : Nat} (h : Row8 w g n) (hB : Below w.heap.size w w') : Row8 w' g n := by
  obtain ⟨cs, hb, hc⟩ := h
  exact ⟨cs, hb.kept hB, hc⟩
theorem Row8.set {w : World} {g n j : Nat} (h : Row8 w g n) (u : Int) : Row8 (w.setCell ⟨g, j, none⟩ (.int .u8 u)) g n := by
  obtain ⟨cs, hb, hc⟩ := h
  refine ⟨_, hb.setCell _, fun k hk => ?_⟩
  by_cases hkj : k = j
  · subst hkj
    obtain ⟨u', hu'⟩ := hc k hk
    have hlt := (Array.getElem?_eq_some_iff.1 hu').1
    exact ⟨u, by simp [Array.getElem?_setIfInBounds, hlt]⟩
  · rw [Array.getElem?_setIfInBounds_ne (Ne.symm hkj)]
    exact hc k hk
theorem Row8.at_ {w : World} {g n j : Nat} (h : Row8 w g n) (hj : j < n) : (∃ u : Int, w.cell? ⟨g, j, none⟩ = some (.int .u8 u)) ∧ w.frozen? ⟨g, j, none⟩ = false := by
  obtain ⟨cs, hb, hc⟩ := h
  obtain ⟨u, hu⟩ := hc j hj
  exact ⟨⟨u, (hb.cell j).trans hu⟩, hb.frozen j⟩
/-- What was lent, as a row. -/
theorem Lend.row {w : World} {B : Nat} {v : Value} {l : List Nat} (h : Lend w B v l) : ∃ g c, v = .slice (some ⟨g, 0, none⟩) l.length c ∧ Row8 w g l.length ∧ B ≤ g := by
  obtain ⟨g, c, hv, hc, ho⟩ := h
  have hl := ho.1
  rcases ho.2 with ⟨h, _⟩ | ⟨g', cap, cur, h1, h2, h3, h4, h5, h6, h7⟩
  · cases h
  obtain ⟨rfl, rfl⟩ : g = g' ∧ c = cap := by simpa using h1
  refine ⟨g, c, hv, ⟨cur, ⟨_, h3⟩, fun j hj => ?_⟩, h2⟩
  have e1 : cur[j]? = (u8s (l ++ marks8))[j]? := by
    rw [← h7, Nat.mul_one, List.getElem?_take, if_pos (by omega), Array.getElem?_toList]
  have hj2 : j < (l ++ marks8).length := by rw [List.length_append]; omega
  exact ⟨_, e1.trans (u8s_get hj2)⟩
end Go.Proofs.Ytkjnmjilkhigaaa

/- Kids of any node, the program's and the document's alike. -/
namespace Go.Proofs.Ytkjnmjilkhigaaa
open Go.RowKit

open Classical in
noncomputable def Pb.kidsG (p : Pb) (n : Nd) : List Nd := if p.bare n then [] else p.kids n
open Classical in
noncomputable def Pb.bitsG (p : Pb) (n : Nd) : List Nat := if p.bare n then [] else p.kidBits n
def KidsG (p : Pb) (n : Nd) (w : World) (e : Ending) (w' : World) : Prop :=
  (∃ a b c1 c2, e = .returned (.tuple #[.slice a (p.kidsG n).length c1, .slice b (p.bitsG n).length c2]) ∧ Nodes w' a (p.kidsG n) ∧ Bytes w' b (p.bitsG n)) ∧ Below w.heap.size w w'
theorem Bytes.nil (w : World) (a : Option Addr) : Bytes w a [] := ⟨fun k hk => by simp at hk, by simp⟩
theorem Pb.kidBits_lt (p : Pb) (n : Nd) : ∀ x ∈ p.kidBits n, x < 256 := by
  intro x hx
  unfold Pb.kidBits Pb.twoB at hx
  split at hx
  · simp at hx; omega
  · split at hx <;> simp at hx <;> omega
theorem KidsPost.g {p : Pb} {n : Nd} (hn : ¬p.bare n) {w w' : World} {e : Ending} (h : KidsPost (p.kids n) (p.kidBits n) w e w') : KidsG p n w e w' := by
  obtain ⟨⟨nb, bb, rfl, x1, x2, x3, x4, x5⟩, B⟩ := h
  unfold KidsG Pb.kidsG Pb.bitsG
  rw [if_neg hn, if_neg hn]
  exact ⟨⟨_, _, _, _, rfl, Nodes.ofBox x1, Box.bytes x2 (p.kidBits_lt n)⟩, B⟩
theorem bareG {p : Pb} {n : Nd} (hn : p.bare n) {w w' : World} {e : Ending} (h : e = .returned (.tuple #[.slice none 0 0, .slice none 0 0]) ∧ Below w.heap.size w w') : KidsG p n w e w' := by
  obtain ⟨rfl, B⟩ := h
  unfold KidsG Pb.kidsG Pb.bitsG
  rw [if_pos hn, if_pos hn]
  exact ⟨⟨none, none, 0, 0, rfl, Nodes.nil _, Bytes.nil _ _⟩, B⟩
theorem in_of_not_bare {p : Pb} {n : Nd} (s0 : 0 ≤ n.s) (h : ¬p.bare n) : p.In n := by
  unfold Pb.bare at h
  exact ⟨s0, by omega, by omega, by omega⟩
theorem tree_KidsG (p : Pb) (hp : p.Ok) (h : probChk p = 0) {tb pb rb g c : Nat} (n : Nd) (s0 : 0 ≤ n.s) (s1 : n.s < 4294967296) (w : World) (hT : TreeIn w p tb pb rb g c) :
    Calls Try.prog 75 #[.pointer (some ⟨tb, 0, none⟩), .agg n.cells] w (KidsG p n w) := by
  by_cases hb : p.bare n
  · exact (tree_Kids_bare p h n s0 s1 hb w hT).mono fun _ _ h => bareG hb h
  · exact (tree_Kids p hp h n (in_of_not_bare s0 hb) w hT).mono fun _ _ h => h.g hb
theorem doc_KidsG (p : Pb) (hp : p.Ok) (h : probChk p = 0) {tb g c : Nat} (n : Nd) (s0 : 0 ≤ n.s) (s1 : n.s < 4294967296) (w : World) (hT : DocIn w p tb g c) :
    Calls Try.prog 36 #[.pointer (some ⟨tb, 0, none⟩), .agg n.cells] w (KidsG p n w) := by
  by_cases hb : p.bare n
  · exact (doc_Kids_bare p hp h n s0 s1 hb w hT).mono fun _ _ h => bareG hb h
  · exact (doc_Kids p hp h n (in_of_not_bare s0 hb) w hT).mono fun _ _ h => h.g hb
theorem Pb.kidsG_len (p : Pb) (n : Nd) : (p.kidsG n).length ≤ 2 := by
  unfold Pb.kidsG
  split
  · simp
  · exact p.kids_len n
theorem DocIn.but {w w' : World} {p : Pb} {tb g c b : Nat} (h : DocIn w p tb g c) (hB : But b w w') (hb : tb ≠ b ∧ g ≠ b) : DocIn w' p tb g c :=
  ⟨hB.box h.tree hb.1, Bytes.but hB h.win hb.2⟩
theorem DocIn.setOther {w : World} {p : Pb} {tb g c : Nat} (h : DocIn w p tb g c) {q : Addr} (hq : q.block ≠ tb ∧ q.block ≠ g) (v : Value) : DocIn (w.setCell q v) p tb g c :=
  ⟨h.tree.setOther hq.1 v, h.win.block (Below.heap_setCell _ _ _ _ (Ne.symm hq.2))⟩
end Go.Proofs.Ytkjnmjilkhigaaa
