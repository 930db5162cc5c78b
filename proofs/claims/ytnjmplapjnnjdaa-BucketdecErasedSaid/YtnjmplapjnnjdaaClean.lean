/- Laws: along a clean path the kid on it is the better one; no place of it is wrong. No walk. -/
import Derived.Test.YtnjmplapjnnjdaaErrs
set_option linter.unusedSimpArgs false
set_option linter.unusedVariables false
set_option linter.unnecessarySimpa false
namespace Go.Proofs.Ytnjmplapjnnjdaa
open Go.RowKit

theorem and_mod_two (v g : Nat) : (v &&& g) % 2 = (v % 2) * (g % 2) := by
  have h := Nat.and_mod_two_pow (a := v) (b := g) (n := 1)
  rw [Nat.pow_one] at h
  rw [h]
  rcases Nat.mod_two_eq_zero_or_one v with hv | hv <;> rcases Nat.mod_two_eq_zero_or_one g with hg | hg <;> rw [hv, hg] <;> rfl
theorem par_and {v g : Nat} (hg : g < 4294967296) : par (v &&& g) = ((v % 2) * (g % 2) + par (v / 2 &&& g / 2)) % 2 := by
  have hlt : v &&& g < 4294967296 := Nat.lt_of_le_of_lt Nat.and_le_right hg
  rw [par_half _ hlt, and_mod_two, Nat.and_div_two]
/-- The symbol by the other bit: it turns where the generator has the term 1. -/
theorem par_flip {s b b' g : Nat} (hg : g < 4294967296) (hb : b < 2) (hb' : b' < 2) (hne : b ≠ b') :
    (g % 2 = 0 → par ((2 * s + b') &&& g) = par ((2 * s + b) &&& g)) ∧ (g % 2 = 1 → par ((2 * s + b') &&& g) = 1 - par ((2 * s + b) &&& g)) := by
  rw [par_and hg, par_and hg (v := 2 * s + b)]
  have e1 : (2 * s + b) % 2 = b := by omega
  have e2 : (2 * s + b') % 2 = b' := by omega
  have e3 : (2 * s + b) / 2 = s := by omega
  have e4 : (2 * s + b') / 2 = s := by omega
  rw [e1, e2, e3, e4]
  have hl := par_lt (s &&& g / 2)
  generalize par (s &&& g / 2) = q at hl ⊢
  refine ⟨fun h => by rw [h]; simp, fun h => ?_⟩
  rw [h]
  rcases (by omega : b = 0 ∨ b = 1) with rfl | rfl <;> rcases (by omega : b' = 0 ∨ b' = 1) with rfl | rfl <;> omega
theorem brS_pos {t : Tb} {y : Nat → Nat} {ls : List Nat} : ∀ k : Nat, (∀ i, i < k → 0 < t.m (y i) (ls.getD i 0)) → (k : Int) ≤ brS t y ls k
  | 0, _ => by simp [brS]
  | k + 1, h => by
    have := brS_pos k (fun i hi => h i (by omega))
    have := h k (by omega)
    unfold brS
    omega
theorem brS_less {t : Tb} {y y' : Nat → Nat} {ls : List Nat} : ∀ k : Nat, (∀ i, i < k → 0 < t.m (y i) (ls.getD i 0)) → (∀ i, i < k → y' i = y i ∨ t.m (y' i) (ls.getD i 0) < 0) →
    brS t y' ls k ≤ brS t y ls k ∧ ((∃ i, i < k ∧ t.m (y' i) (ls.getD i 0) < 0) → brS t y' ls k < brS t y ls k)
  | 0, _, _ => ⟨Int.le_refl _, fun ⟨i, hi, _⟩ => by omega⟩
  | k + 1, h, h' => by
    obtain ⟨a, b⟩ := brS_less k (fun i hi => h i (by omega)) (fun i hi => h' i (by omega))
    have h1 := h k (by omega)
    have h2 := h' k (by omega)
    unfold brS
    have h3 : t.m (y' k) (ls.getD k 0) ≤ t.m (y k) (ls.getD k 0) := by
      rcases h2 with h2 | h2
      · rw [h2]; omega
      · omega
    refine ⟨by omega, fun ⟨i, hi, hlt⟩ => ?_⟩
    rcases Nat.lt_succ_iff_lt_or_eq.1 hi with h4 | rfl
    · have := b ⟨i, h4, hlt⟩
      omega
    · omega
/-- Some generator in use has the term 1. -/
theorem code_odd {c : Cd} (h : codeChk c = 0) : ∃ i, i < c.R.toNat ∧ (c.g i).toNat % 2 = 1 := by
  have hr := (codeChk_ok h).2.2
  unfold codeChk at h
  split at h
  · simp at h
  split at h
  · simp at h
  split at h
  · simp at h
  rename_i _ _ h3
  have h4 : (c.used.any fun x => x % 2 == 1) = true := by
    cases hq : (c.used.any fun x => x % 2 == 1)
    · rw [hq] at h3; simp at h3
    · rfl
  rw [List.any_eq_true] at h4
  obtain ⟨x, hx, ho⟩ := h4
  have ho : x % 2 = 1 := by simpa using ho
  unfold Cd.used at hx
  rcases hr with hr | hr
  · rw [if_pos hr] at hx
    rw [hr]
    rcases (by simpa using hx : x = c.g0.toNat ∨ x = c.g1.toNat) with rfl | rfl
    · exact ⟨0, by decide, ho⟩
    · exact ⟨1, by decide, ho⟩
  · rw [if_neg (by omega)] at hx
    rw [hr]
    rcases (by simpa using hx : x = c.g0.toNat ∨ x = c.g1.toNat ∨ x = c.g2.toNat) with rfl | rfl | rfl
    · exact ⟨0, by decide, ho⟩
    · exact ⟨1, by decide, ho⟩
    · exact ⟨2, by decide, ho⟩
theorem Cd.g_lt {c : Cd} (h : c.Ok) (i : Nat) : (c.g i).toNat < 4294967296 := by
  have := h.a1; have := h.b1; have := h.c1
  unfold Cd.g
  split <;> omega
section
variable {p : Pb} {A : List Nat}
theorem Pb.CleanBy.R (h : p.CleanBy A) : p.C.R = 2 ∨ p.C.R = 3 := (probChk_ok h.chk).2.2.2.1
theorem Pb.CleanBy.lev (h : p.CleanBy A) : 2 ≤ p.T.lev := (probChk_ok h.chk).2.2.2.2.2.1.1
theorem Pb.CleanBy.ix (h : p.CleanBy A) {d i : Nat} (hd : d < p.N.toNat) (hi : i < p.C.R.toNat) : d * p.C.R.toNat + i < p.B.length := by
  obtain ⟨h3, hN⟩ := Pb.N_le h.chk
  have hwin := (probChk_ok h.chk).2.2.2.2.1
  obtain ⟨r, hr⟩ : ∃ r : Nat, p.C.R = (r : Int) := ⟨p.C.R.toNat, by have := h.R; omega⟩
  obtain ⟨N, hNN⟩ : ∃ N : Nat, p.N = (N : Int) := ⟨p.N.toNat, by omega⟩
  have hrn : p.C.R.toNat = r := by omega
  have hnn : p.N.toNat = N := by omega
  rw [hr, hNN] at hwin
  rw [hrn] at hi ⊢
  rw [hnn] at hd
  have hB : p.B.length = N * r := by exact_mod_cast hwin
  have h1 : d * r + r ≤ N * r := by rw [← Nat.succ_mul]; exact Nat.mul_le_mul_right _ hd
  omega
theorem Pb.lv_get (p : Pb) {d i : Nat} (hi : i < p.C.R.toNat) : (p.lv d).getD i 0 = p.B.getD (d * p.C.R.toNat + i) 0 := by
  unfold Pb.lv
  rw [List.getD_eq_getElem?_getD, List.getD_eq_getElem?_getD, List.getElem?_take, if_pos hi, List.getElem?_drop]
/-- A place of a clean window. -/
theorem Pb.CleanBy.place (h : p.CleanBy A) {d i : Nat} (hd : d < p.N.toNat) (hi : i < p.C.R.toNat) :
    (p.C.y (p.reg A d) i = 0 ∧ p.B.getD (d * p.C.R.toNat + i) 0 = 0) ∨ (p.C.y (p.reg A d) i = 1 ∧ p.B.getD (d * p.C.R.toNat + i) 0 = p.T.last) := by
  have hx := h.ix hd hi
  have hs : (p.C.syms (p.reg A d))[i]? = (((p.hards p.B.length).drop (d * p.C.R.toNat)).take p.C.R.toNat)[i]? := by rw [h.sym d hd]
  have e1 : (p.C.syms (p.reg A d))[i]? = some (p.C.y (p.reg A d) i) := by
    unfold Cd.syms
    rw [List.getElem?_map, List.getElem?_range hi]
    rfl
  have e2 : (((p.hards p.B.length).drop (d * p.C.R.toNat)).take p.C.R.toNat)[i]? = some (if 0 < p.B[d * p.C.R.toNat + i] then 1 else 0) := by
    rw [List.getElem?_take, if_pos hi, List.getElem?_drop]
    unfold Pb.hards
    rw [List.getElem?_map, List.take_length, List.getElem?_eq_getElem hx]
    rfl
  rw [e1, e2] at hs
  have hs := Option.some.inj hs
  have hB : p.B.getD (d * p.C.R.toNat + i) 0 = p.B[d * p.C.R.toNat + i] := by rw [List.getD_eq_getElem?_getD, List.getElem?_eq_getElem hx]; rfl
  rw [hB, hs]
  have hl := h.lev
  rcases h.full _ (List.getElem_mem hx) with h0 | h1
  · left
    rw [h0]
    exact ⟨rfl, rfl⟩
  · right
    have : p.B[d * p.C.R.toNat + i] = p.T.last := by unfold Tb.last; omega
    refine ⟨if_pos ?_, this⟩
    omega
theorem Tb.sound_ok {t : Tb} (h : t.soundB = true) : 0 < t.m 0 0 ∧ 0 < t.m 1 t.last ∧ t.m 0 t.last < 0 ∧ t.m 1 0 < 0 := by
  unfold Tb.soundB at h
  simpa using h
theorem Pb.CleanBy.term (h : p.CleanBy A) {d i : Nat} (hd : d < p.N.toNat) (hi : i < p.C.R.toNat) : 0 < p.T.m (p.C.y (p.reg A d) i) ((p.lv d).getD i 0) := by
  obtain ⟨a, b, _, _⟩ := Tb.sound_ok h.sound
  rw [p.lv_get hi]
  rcases h.place hd hi with ⟨h1, h2⟩ | ⟨h1, h2⟩ <;> rw [h1, h2] <;> assumption
theorem Pb.CleanBy.turned (h : p.CleanBy A) {d i : Nat} (hd : d < p.N.toNat) (hi : i < p.C.R.toNat) {z : Nat} (hz : z = 1 - p.C.y (p.reg A d) i) : p.T.m z ((p.lv d).getD i 0) < 0 := by
  obtain ⟨_, _, a, b⟩ := Tb.sound_ok h.sound
  rw [p.lv_get hi, hz]
  rcases h.place hd hi with ⟨h1, h2⟩ | ⟨h1, h2⟩ <;> rw [h1, h2] <;> assumption
/-- The branch on the path is worth something; the other one is worth less. -/
theorem Pb.CleanBy.branch (h : p.CleanBy A) (hp : p.Ok) {d : Nat} (hd : d < p.N.toNat) : 0 < p.br d (p.reg A d) ∧ ∀ b' : Nat, b' < 2 → b' ≠ p.bit A d → p.br d (2 * p.st A d + b').toNat < p.br d (p.reg A d) := by
  have hR := h.R
  have hcc := (probChk_ok h.chk).2.2.2.2.2.2.2.1
  refine ⟨?_, fun b' hb' hne => ?_⟩
  · have := brS_pos (t := p.T) (y := p.C.y (p.reg A d)) (ls := p.lv d) p.C.R.toNat (fun i hi => h.term hd hi)
    unfold Pb.br
    omega
  · obtain ⟨s0, _⟩ := p.st_in A d
    obtain ⟨s, hs⟩ : ∃ s : Nat, p.st A d = (s : Int) := ⟨(p.st A d).toNat, by omega⟩
    have hb := Pb.bit_lt h.path d
    have e1 : p.reg A d = 2 * s + p.bit A d := by unfold Pb.reg; rw [hs]; omega
    have e2 : (2 * p.st A d + (b' : Int)).toNat = 2 * s + b' := by rw [hs]; omega
    rw [e2]
    have hy : ∀ i, i < p.C.R.toNat → ((p.C.g i).toNat % 2 = 0 → p.C.y (2 * s + b') i = p.C.y (p.reg A d) i) ∧ ((p.C.g i).toNat % 2 = 1 → p.C.y (2 * s + b') i = 1 - p.C.y (p.reg A d) i) := fun i hi => by
      have := par_flip (s := s) (Cd.g_lt hp.c i) hb hb' (Ne.symm hne)
      unfold Cd.y
      rw [if_pos hi, if_pos hi, e1]
      exact this
    obtain ⟨i, hi, hodd⟩ := code_odd hcc
    unfold Pb.br
    refine (brS_less p.C.R.toNat (fun i hi => h.term hd hi) (fun i hi => ?_)).2 ⟨i, hi, h.turned hd hi ((hy i hi).2 hodd)⟩
    rcases Nat.mod_two_eq_zero_or_one (p.C.g i).toNat with hg | hg
    · exact .inl ((hy i hi).1 hg)
    · exact .inr (h.turned hd hi ((hy i hi).2 hg))
/-- Kids along a clean path. -/
theorem Pb.CleanBy.kids (h : p.CleanBy A) (hp : p.Ok) {d : Nat} (hd : d < p.N.toNat) : (p.nd A d).m < (p.nd A (d + 1)).m ∧
    ((p.kids (p.nd A d) = [p.nd A (d + 1)] ∧ p.kidBits (p.nd A d) = [p.bit A d]) ∨ ∃ n b, p.kids (p.nd A d) = [n, p.nd A (d + 1)] ∧ p.kidBits (p.nd A d) = [b, p.bit A d] ∧ n.m < (p.nd A (d + 1)).m) := by
  obtain ⟨h1, h2⟩ := h.branch hp hd
  have hk := Pb.nd_succ h.chk A hd
  have hm : ∀ b : Nat, (p.kid (p.nd A d) b).m = (p.nd A d).m + p.br d (2 * p.st A d + b).toNat := fun b => by
    have e1 := p.nd_bd h.chk A d
    have e2 := p.br_bd h.chk d (2 * p.st A d + b).toNat
    show wrap64 ((p.nd A d).m + p.br ((p.nd A d).d).toNat (2 * (p.nd A d).s + b).toNat) = _
    show wrap64 ((p.nd A d).m + p.br (d : Int).toNat (2 * p.st A d + b).toNat) = _
    rw [Int.toNat_natCast]
    unfold wrap64; omega
  have hmp := hm (p.bit A d)
  rw [hk] at hmp
  have hrg : (2 * p.st A d + (p.bit A d : Int)).toNat = p.reg A d := rfl
  rw [hrg] at hmp
  refine ⟨by omega, ?_⟩
  have hb := Pb.bit_lt h.path d
  unfold Pb.kids Pb.kidBits
  by_cases hL : p.L ≤ (p.nd A d).d
  · have hz : p.bit A d = 0 := if_neg (by show ¬ (d : Int) < p.L; have : (p.nd A d).d = d := rfl; omega)
    rw [if_pos hL, if_pos hL]
    left
    rw [hz] at hk ⊢
    exact ⟨by rw [← hk]; rfl, rfl⟩
  · rw [if_neg hL, if_neg hL]
    right
    unfold Pb.twoK Pb.twoB
    have hm0 := hm 0
    have hm1 := hm 1
    rcases (by omega : p.bit A d = 0 ∨ p.bit A d = 1) with e | e
    · have h3 := h2 1 (by decide) (by omega)
      rw [e] at hk ⊢
      have hk0 : p.kid (p.nd A d) 0 = p.nd A (d + 1) := hk
      have hm1' : (p.kid (p.nd A d) 1).m = (p.nd A d).m + p.br d (2 * p.st A d + (1 : Nat)).toNat := hm1
      have hlt : (p.kid (p.nd A d) 1).m < (p.nd A (d + 1)).m := by rw [hm1']; omega
      rw [hk0, if_neg (by omega), if_neg (by omega)]
      exact ⟨_, _, rfl, rfl, hlt⟩
    · have h3 := h2 0 (by decide) (by omega)
      rw [e] at hk ⊢
      have hk1 : p.kid (p.nd A d) 1 = p.nd A (d + 1) := hk
      have hm0' : (p.kid (p.nd A d) 0).m = (p.nd A d).m + p.br d (2 * p.st A d + (0 : Nat)).toNat := hm0
      have hlt : (p.kid (p.nd A d) 0).m < (p.nd A (d + 1)).m := by rw [hm0']; omega
      rw [hk1, if_pos hlt, if_pos hlt]
      exact ⟨_, _, rfl, rfl, hlt⟩
theorem Pb.CleanBy.errTo (h : p.CleanBy A) {d : Nat} (hd : d < p.N.toNat) : ∀ k, k ≤ p.C.R.toNat → p.errTo d (p.reg A d) k = 0
  | 0, _ => rfl
  | k + 1, hk => by
    have hl := h.lev
    unfold Pb.errTo
    rw [h.errTo hd k (by omega), if_pos]
    · rfl
    · unfold Pb.hard
      rcases h.place hd (i := k) (by omega) with ⟨h1, h2⟩ | ⟨h1, h2⟩
      · rw [h1, h2, if_neg (by omega)]
      · rw [h1, h2, if_pos (by unfold Tb.last; omega)]
theorem Pb.CleanBy.errors (h : p.CleanBy A) : p.errors A = 0 := by
  unfold Pb.errors
  have hpc : p.pathChk A = 0 := Pb.path_chk h.chk h.path.len h.path.lt
  rw [if_neg (by simp [hpc])]
  have key : ∀ k, k ≤ p.N.toNat → p.errs ((p.pathL A).take k) = 0 := fun k => by
    induction k with
    | zero => intro _; rfl
    | succ k ih =>
      intro hk
      rw [Pb.pathL_take (by omega), p.errs_snoc, ih (by omega)]
      have := h.errTo (d := k) (by omega) p.C.R.toNat (Nat.le_refl _)
      show 0 + p.errTo k (p.reg A k) p.C.R.toNat = 0
      rw [this]
      rfl
  have := key p.N.toNat (Nat.le_refl _)
  rw [List.take_of_length_le (by rw [p.pathL_len]; exact Nat.le_refl _)] at this
  exact this
end
end Go.Proofs.Ytnjmplapjnnjdaa
/- The walk of the document's search for a clean path. -/
namespace Go.Proofs.Ytnjmplapjnnjdaa
open Go.RowKit

def CleanPost (p : Pb) (w : World) (e : Ending) (w' : World) : Prop :=
  (e = .returned (.tuple #[.slice none 0 0, .bool false]) ∨ ∃ A g c, p.CleanBy A ∧ e = .returned (.tuple #[.slice (some ⟨g, 0, none⟩) A.length c, .bool true]) ∧ Bytes w' (some ⟨g, 0, none⟩) A) ∧ Below w.heap.size w w'
theorem u8_one {v : Value} {x : Int} (h : v ∈ [Value.int .u8 x]) : v.oneCell' = true := by obtain rfl := List.mem_singleton.1 h; rfl
theorem cl_ix {d N r n i : Nat} {Y : List Nat} (h : d < N) (hn : n = N * r) (hr : r = 2 ∨ r = 3) (hi : i = d * r) (hY : Y.length = n) : ((d : Int) + 1) * (r : Int) = ((i + r : Nat) : Int) ∧ (d : Int) * (r : Int) = (i : Int) ∧ i + r ≤ n ∧ i + r ≤ Y.length := by
  have h1 : d * r + r ≤ N * r := by rw [← Nat.succ_mul]; exact Nat.mul_le_mul_right _ h
  subst hi hn
  refine ⟨?_, ?_, h1, by omega⟩
  · push_cast
    rw [Int.add_mul, Int.one_mul]
  · push_cast
    rfl
theorem cl_tail0 (p : Pb) (bs : List Nat) : p.L ≤ bs.length → (0 : Nat) = 0 := fun _ => rfl
theorem cl_tail1 {p : Pb} {bs : List Nat} (h : (bs.length : Int) < p.L) : p.L ≤ bs.length → (1 : Nat) = 0 := fun h2 => by omega
theorem cl_room2 {d N : Nat} {n : Int} (h : d < N) (h2 : n ≤ 1055) (h3 : n = (N : Int)) : d + 1 ≤ 9223372036854775807 / 65536 ∧ (d + 1) * 1 ≤ 140737488355328 := by omega
theorem cl_u8 {k : Nat} (h : (k : Int) < 2) : ((k : Int) + 1) % 256 = ((k + 1 : Nat) : Int) := by omega
theorem cl_r3 {R r : Nat} (h : R = r) (hr : r = 2 ∨ r = 3) : R ≤ 3 := by omega
theorem cl_r3b {r : Nat} (hr : r = 2 ∨ r = 3) : r ≤ 3 := by omega
theorem cl_len {Y : List Nat} {i r : Nat} (h : i + r ≤ Y.length) : ((Y.drop i).take r).length = r := by rw [List.length_take, List.length_drop]; omega
theorem cl_lt {i j r : Nat} (h : j = i + r) (hr : r = 2 ∨ r = 3) : i < j := by omega
theorem Cd.syms_bytes {w : World} {b : Nat} {c : Cd} {v : Nat} (h : Box w b (c.yv v)) (hR : c.R.toNat ≤ 3) : Bytes w (some ⟨b, 0, none⟩) (c.syms v) :=
  ⟨fun k hk => ⟨b, 0, rfl, by
    rw [c.syms_len] at hk
    rw [Nat.zero_add, h.cell, c.yv_ya, ya_get _ (by omega)]
    simp [Cd.syms]⟩, fun x hx => Nat.lt_trans (c.syms_lt v x hx) (by decide)⟩
theorem cl_room {k n : Nat} (h : k < n) (h2 : n ≤ 4000) : k + 1 ≤ 9223372036854775807 / 65536 ∧ (k + 1) * 1 ≤ 140737488355328 := by omega
theorem bOn' {w w1 w2 : World} {B : Nat} (h1 : Below B w w1) (h2 : Below w1.heap.size w1 w2) (hB : B ≤ w.heap.size := by exact Nat.le_refl _) : Below B w w2 := h1.trans (h2.mono (Nat.le_trans hB h1.size))
theorem owns_kept {w w' : World} {B e n : Nat} {v : Value} {xs : List Value} (h : w.ownsRow B e 1 v n xs) (hB : Below w.heap.size w w') : w'.ownsRow B e 1 v n xs := owns_block h fun k hk => hB.block k (World.ownsRow.lt h k hk).2
set_option maxRecDepth 5000 in
set_option maxHeartbeats 2000000 in
theorem ref15_Clean (p : Pb) (a : Option Addr) (cap : Nat) (hp : p.Ok) (w : World) (hw : Bytes w a p.B) :
    Calls Try.prog 22 #[.agg (p.cells (.slice a p.B.length cap))] w (CleanPost p w) := by
  go_enter Try.func22, Try.ntmps22
  go_upto_region 1 with (fail)
  refine name1 ?_
  intro w0 b1 B0
  have hw0 := hw.kept B0
  obtain ⟨fk, fr, flev, fl, fwin, fcode, ftable, fall⟩ := b1.prob hp
  clear fk fr flev fl fwin fcode fall
  go_wp2_with ((with_reducible apply ld); rfl; (with_reducible assumption); (simp only [List.set_cons_zero, List.set_cons_succ]; rfl))
  refine (ref10_Sound p.T hp.t _).mono ?_
  rintro e w1 ⟨rfl, B1⟩
  clear ftable
  have b11 := b1.kept B1
  have hw1 := hw0.kept B1
  obtain ⟨fk, fr, flev, fl, fwin, fcode, ftable, fall⟩ := b11.prob hp
  clear fk fr flev fl fwin fcode ftable
  go_wp2_with ((with_reducible apply ld); rfl; (with_reducible assumption); (simp only [List.set_cons_zero, List.set_cons_succ]; rfl))
  refine (ref11_Check p a cap hp _ hw1).mono ?_
  rintro e w2 ⟨rfl, B2⟩
  clear fall
  have b12 := b11.kept B2
  have hw2 := hw1.kept B2
  have B20 := bOn (bOn B0 B1) B2
  by_cases hc : probChk p = 0
  · obtain ⟨⟨k1, k2⟩, l1, l2, cr, hwin, ⟨v1, v2⟩, hlev, hcc, htt⟩ := probChk_ok hc
    have hsn : p.T.sound = p.T.soundB := by unfold Tb.sound; rw [if_neg (by simp [htt])]
    rw [hc, htt, hsn]
    by_cases hs : p.T.soundB = true
    · rw [hs]
      have HS := Lib.hid hs
      have HC := Lib.hid hc
      have HTT := Lib.hid htt
      have HCC := Lib.hid hcc
      have HR := Lib.hid cr
      have HWIN := Lib.hid hwin
      have hB4 := Pb.N_le hc
      obtain ⟨hN3, hN5⟩ := hB4
      have hBl : p.B.length ≤ 4000 := by rcases cr with h | h <;> rw [h] at hwin <;> omega
      have hB0 := prob_slice hc
      clear hs hsn hc htt hcc cr hwin
      go_wp2_with fail
      go_loopw [6, 7] (fun v i wr => ∃ k : Nat, k ≤ p.B.length ∧ i = .int .i64 k ∧ wr.ownsRow w2.heap.size 5 1 v k (u8s (p.hards k)) ∧ (∀ j (hj : j < p.B.length), j < k → p.B[j] = 0 ∨ (p.B[j] : Int) = p.T.lev - 1) ∧ Below w2.heap.size w2 wr) (fun _ i _ => p.B.length - (intOf i).toNat)
      case atStart => exact ⟨0, Nat.zero_le _, rfl, World.ownsRow_nil _ _ _ _, fun j _ hj => by omega, Below.refl _ _⟩
      case round =>
        obtain ⟨k, hk, rfl, hO, hF, hB⟩ := hrel
        have b1r := b12.kept hB
        have hwr := hw2.kept hB
        obtain ⟨fk, fr, flev, fl, fwin, fcode, ftable, fall⟩ := b1r.prob hp
        clear fk fr fl fcode ftable fall
        by_cases hkl : k < p.B.length
        · obtain ⟨j1, j2⟩ := ap_lt hkl
          have hb1 : (k : Int) + 1 ≤ 9223372036854775807 := by omega
          obtain ⟨gb, ob, rfl, hcell⟩ := hwr.cell k hkl
          have hxb := hp.b _ (List.getElem_mem hkl)
          have hsucc := p.hards_succ hkl
          obtain ⟨x, hx⟩ : ∃ x, x = p.B[k] := ⟨_, rfl⟩
          rw [← hx] at hcell hxb hsucc
          have HX := Lib.hid hx
          have HSU := Lib.hid hsucc
          have q1 := KeptW.cell hcell
          have q2 := KeptW.cell fwin
          have q3 := KeptW.cell flev
          clear hx hsucc
          -- CASES
          by_cases h0 : x = 0
          · subst h0
            go_upto_region 8 with (fail)
            refine wp_region_kept (by kernel_rfl) (by kernel_rfl) ?_
            repeat first
              | go_big_quiet_skip
              | ((with_reducible apply q_ldG); rfl; rfl; (with_reducible assumption); (simp only [List.set_cons_zero, List.set_cons_succ]; rfl))
              | go_big_quiet_step (fail)
            refine wpQuiet_nil ?_
            intro w8 B8
            have hB8 := bOn' hB B8
            have hO8 := owns_kept hO B8
            have hc8 := (B8.cell (lt_of_cell hcell)).trans hcell
            have b18 := b1r.kept B8
            obtain ⟨fk, fr, flev', fl, fwin', fcode, ftable, fall⟩ := b18.prob hp
            clear fk fr flev' fl fcode ftable fall q1 q2 q3 hB hO hcell fwin flev
            have hsz8 := hB8.size
            go_wp2_with (at_builtin; refine ap (us := [.int .u8 0]) (m := 1) hO8 (by decide) rfl rfl rfl (fun u hu => u8_one hu) (cl_room hkl hBl).1 (cl_room hkl hBl).2 hsz8 ?_; intro v9 w9 hown9 hgr9 _)
            have B98 := hB8.trans (own_below hO8 hgr9 hsz8)
            have hN9 : w9.ownsRow w2.heap.size 5 1 v9 (k + 1) (u8s (p.hards (k + 1))) := by
              rw [HSU.out, if_neg (by omega)]
              simpa [u8s] using hown9
            go_roundw
            case measure => first | exact ap_meas' hkl | exact ap_meas hkl hb1
            case rel =>
              refine ⟨k + 1, hkl, (by first | rfl | exact congrArg (Value.int .i64) (ap_succ hb1)), hN9, fun j hj hjk => ?_, B98⟩
              rcases Nat.lt_succ_iff_lt_or_eq.1 hjk with h | h
              · exact hF j hj h
              · subst h
                rw [← HX.out]
                exact .inl rfl
          · have hxp : 0 < x := by omega
            have hxn : ((x : Int) != 0) = true := by simp; omega
            have hxg : decide ((0 : Int) < (x : Int)) = true := by simp; omega
            by_cases hlast : (x : Int) = p.T.lev - 1
            · have hne : ((x : Int) != p.T.lev - 1) = false := by rw [hlast]; simp
              have HP := Lib.hid hxp
              have HL := Lib.hid hlast
              clear h0 hlast hxg
              go_upto_region 8 with (fail)
              refine wp_region_kept (by kernel_rfl) (by kernel_rfl) ?_
              repeat first
                | go_big_quiet_skip
                | ((with_reducible apply q_ldG); rfl; rfl; (with_reducible assumption); (simp only [List.set_cons_zero, List.set_cons_succ]; rfl))
                | go_big_quiet_step (fail)
              refine wpQuiet_nil ?_
              intro w8 B8
              have hB8 := bOn' hB B8
              have hO8 := owns_kept hO B8
              have hc8 := (B8.cell (lt_of_cell hcell)).trans hcell
              have b18 := b1r.kept B8
              obtain ⟨fk, fr, flev', fl, fwin', fcode, ftable, fall⟩ := b18.prob hp
              clear fk fr flev' fl fcode ftable fall q1 q2 q3 hB hO hcell fwin flev
              clear hne hxn
              have hsz8 := hB8.size
              go_wp2_with (at_builtin; refine ap (us := [.int .u8 1]) (m := 1) hO8 (by decide) rfl rfl rfl (fun u hu => u8_one hu) (cl_room hkl hBl).1 (cl_room hkl hBl).2 hsz8 ?_; intro v9 w9 hown9 hgr9 _)
              have B98 := hB8.trans (own_below hO8 hgr9 hsz8)
              have hN9 : w9.ownsRow w2.heap.size 5 1 v9 (k + 1) (u8s (p.hards (k + 1))) := by
                rw [HSU.out, if_pos HP.out]
                simpa [u8s] using hown9
              go_roundw
              case measure => first | exact ap_meas' hkl | exact ap_meas hkl hb1
              case rel =>
                refine ⟨k + 1, hkl, (by first | rfl | exact congrArg (Value.int .i64) (ap_succ hb1)), hN9, fun j hj hjk => ?_, B98⟩
                rcases Nat.lt_succ_iff_lt_or_eq.1 hjk with h | h
                · exact hF j hj h
                · subst h
                  rw [← HX.out]
                  exact .inr HL.out
            · have hne : ((x : Int) != p.T.lev - 1) = true := by simpa using hlast
              clear h0 hxp hlast
              go_upto_region 8 with (fail)
              refine wp_region_kept (by kernel_rfl) (by kernel_rfl) ?_
              repeat first
                | go_big_quiet_skip
                | ((with_reducible apply q_ldG); rfl; rfl; (with_reducible assumption); (simp only [List.set_cons_zero, List.set_cons_succ]; rfl))
                | go_big_quiet_step (fail)
              refine wpQuiet_nil ?_
              intro w8 B8
              have hB8 := bOn' hB B8
              clear q1 q2 q3 hB hO hcell fwin flev hF hne hxn hxg HX HSU
              go_wp2
              go_ret2
              exact (show CleanPost p w _ _ from ⟨.inl rfl, bOn B20 hB8⟩)
        · obtain rfl := ap_end hkl hk
          have hF' : ∀ x ∈ p.B, x = 0 ∨ (x : Int) = p.T.lev - 1 := fun x hx => by
            obtain ⟨j, hj, rfl⟩ := List.getElem_of_mem hx
            exact hF j hj hj
          have HF := Lib.hid hF'
          have hhl := p.hards_len (Nat.le_refl p.B.length)
          have hO' := hO
          obtain ⟨gy, cy, rfl, hcy⟩ : ∃ g c, u6 = .slice (some ⟨g, 0, none⟩) p.B.length c ∧ p.B.length ≤ c := by
            rcases hO.2 with ⟨_, h⟩ | ⟨g, c, cur, hv, _, _, hnc, _⟩
            · omega
            · exact ⟨g, c, hv, hnc⟩
          have yY : Bytes wr (some ⟨gy, 0, none⟩) (p.hards p.B.length) := ⟨fun j hj => ⟨gy, 0, rfl, by rw [Nat.zero_add]; exact own_cell hO' (u8s_get hj)⟩, fun x hx => by have := p.hards_lt _ x hx; omega⟩
          have hgy := (World.ownsRow.lt hO' gy rfl).1
          obtain ⟨Y, hY⟩ : ∃ Y, Y = p.hards p.B.length := ⟨_, rfl⟩
          rw [← hY] at yY hhl
          have HY := Lib.hid hY
          have HHL := Lib.hid hhl
          have B2r := hB
          have b1L := b1r
          obtain ⟨N, hNN⟩ : ∃ N : Nat, p.N = (N : Int) := ⟨p.N.toNat, by omega⟩
          obtain ⟨r, hr⟩ : ∃ r : Nat, p.C.R = (r : Int) := ⟨p.C.R.toNat, by have := HR.out; omega⟩
          have hrn : p.C.R.toNat = r := by omega
          have hr23 : r = 2 ∨ r = 3 := by have := HR.out; omega
          have hBN : p.B.length = N * r := by
            have := HWIN.out
            rw [hNN, hr] at this
            exact_mod_cast this
          have HNN := Lib.hid hNN
          have HRR := Lib.hid hr
          have HRN := Lib.hid hrn
          have HBN := Lib.hid hBN
          have HR23 := Lib.hid hr23
          clear hO hO' hF hF' hY hhl hkl hk hNN hr hrn hBN hr23 flev hB
          have k3 : decide ((p.B.length : Int) < (p.B.length : Int)) = false := by simp
          go_wp2_with fail
          clear fwin k3
          obtain ⟨W2, rfl⟩ : ∃ W2, W2 = wr := ⟨_, rfl⟩
          go_loopw [9, 10, 11] (fun st v i wl => ∃ bs : List Nat, bs.length ≤ N ∧ p.Taken bs ∧ i = .int .i64 (bs.length : Int) ∧ st = .int .u32 (p.st bs bs.length) ∧ wl.ownsRow W2.heap.size 5 1 v bs.length (u8s bs) ∧ Below W2.heap.size W2 wl) (fun _ _ i _ => N - (intOf i).toNat)
          case atStart => exact ⟨[], Nat.zero_le _, Pb.Taken.nil p, rfl, rfl, World.ownsRow_nil _ _ _ _, Below.refl _ _⟩
          case round =>
            obtain ⟨bs, hbN, hTk, rfl, rfl, hO, hB⟩ := hrel
            have b1d := b1L.kept hB
            have yYd := yY.kept hB
            obtain ⟨fk, fr, flev, fl, fwin, fcode, ftable, fall⟩ := b1d.prob hp
            clear fk fr flev fl fwin fcode ftable
            go_wp2_with ((with_reducible apply ld); rfl; (with_reducible assumption); (simp only [List.set_cons_zero, List.set_cons_succ]; rfl))
            refine (ref11_N p _ hp l1 l2 k1 k2 _).mono ?_
            rintro e w10 ⟨rfl, B10⟩
            clear fall
            rw [HNN.out]
            have hB10 := bOn' hB B10
            have hO10 := owns_kept hO B10
            have hszW := hB10.size
            clear hB hO b1d yYd
            by_cases hdN : bs.length < N
            · obtain ⟨j1, j2⟩ := ap_lt hdN
              have hb1 : (bs.length : Int) + 1 ≤ 9223372036854775807 := by have := HNN.out; omega
              go_wp2_with fail
              go_loopw [9, 10, 12, 13] (fun st v f b wl => ∃ k : Nat, k ≤ 2 ∧ b = .int .u8 (k : Int) ∧ ((f = .bool false ∧ st = .int .u32 (p.st bs bs.length) ∧ wl.ownsRow W2.heap.size 5 1 v bs.length (u8s bs)) ∨ (∃ x, f = .bool true ∧ p.Taken (bs ++ [x]) ∧ st = .int .u32 (p.st (bs ++ [x]) (bs.length + 1)) ∧ wl.ownsRow W2.heap.size 5 1 v (bs.length + 1) (u8s (bs ++ [x])))) ∧ Below W2.heap.size W2 wl) (fun _ _ _ b _ => 2 - (intOf b).toNat)
              case atStart => exact ⟨0, by decide, rfl, .inl ⟨rfl, rfl, hO10⟩, hB10⟩
              case round =>
                clear hO10 hB10 B10
                obtain ⟨k, hk, rfl, hst, hB⟩ := hrel
                rcases hst with ⟨rfl, rfl, hO⟩ | ⟨x, rfl, hTx, rfl, hO⟩
                · by_cases hk2 : k < 2
                  · have b1k := b1L.kept hB
                    have yYk := yY.kept hB
                    obtain ⟨fk, fr, flev, fl, fwin, fcode, ftable, fall⟩ := b1k.prob hp
                    clear fk fr flev fl fwin ftable fall
                    obtain ⟨hs0, hs1⟩ := p.st_in bs bs.length
                    have hk3 : (k : Int) < 2 := by omega
                    have hk4 : (0 : Int) ≤ k := by omega
                    go_wp2_with ((with_reducible apply ld); rfl; (with_reducible assumption); (simp only [List.set_cons_zero, List.set_cons_succ]; rfl))
                    refine (ref07_Next p.C hp.c k1 k2 HR.out (p.st bs bs.length) k hs0 hs1 hk4 hk3 _).mono ?_
                    rintro e w11 ⟨rfl, B11⟩
                    obtain ⟨rg, hrg⟩ : ∃ rg : Nat, rg = (2 * p.st bs bs.length + (k : Int)).toNat := ⟨_, rfl⟩
                    obtain ⟨sn, hsn⟩ : ∃ sn, sn = (2 * p.st bs bs.length + (k : Int)) % 2 ^ (p.C.K.toNat - 1) := ⟨_, rfl⟩
                    rw [← hrg, ← hsn]
                    have HRG := Lib.hid hrg
                    have HSN := Lib.hid hsn
                    clear hrg hsn fcode hs0 hs1
                    have hsz : (p.C.yv rg).size = 3 := rfl
                    have hfl := p.C.ys_flat rg p.C.R.toNat
                    have hbz := Box.new w11 #[.int .u8 0, .int .u8 0, .int .u8 0] 108
                    go_upto_region 24 with ((with_reducible apply stO); rfl; rfl; exact hbz; rfl; exact hsz; exact hfl; intro w12 b15 B12 ho12 hs12)
                    have B1211 : Below w11.heap.size w11 w12 := ((Below.refl _ w11).alloc (Nat.le_refl _) _).trans B12
                    have B12r := bOn B11 B1211
                    have hB12 := bOn' hB B12r
                    have hO12 := owns_kept hO B12r
                    have b112 := b1k.kept B12r
                    have yY12 := yYk.kept B12r
                    have hszW12 := hB12.size
                    obtain ⟨fk, fr, flev, fl, fwin, fcode, ftable, fall⟩ := b112.prob hp
                    clear fk flev fwin fcode ftable fall hbz ho12 hs12 hB hO b1k yYk B11 B12 B1211
                    rw [HRR.out] at fr
                    obtain ⟨i, hi⟩ : ∃ i, i = bs.length * r := ⟨_, rfl⟩
                    obtain ⟨ix1, ix2, ix3, ix4⟩ := cl_ix hdN HBN.out HR23.out hi HHL.out
                    obtain ⟨j, hj⟩ : ∃ j, j = i + r := ⟨_, rfl⟩
                    rw [← hj] at ix1 ix3
                    have hSb := Cd.syms_bytes b15 (cl_r3 HRN.out HR23.out)
                    have hSl := (p.C.syms_len rg).trans HRN.out
                    have hTb := yY12.part i r
                    have hTl : ((Y.drop i).take r).length = r := cl_len ix4
                    have hjc : j ≤ cy := Nat.le_trans ix3 hcy
                    have hij : i < j := cl_lt hj HR23.out
                    have hji : j - i = r := by rw [hj, Nat.add_sub_cancel_left]
                    have hS6 : ∀ x ∈ p.C.syms rg, x < 256 := fun x hx => Nat.lt_trans (p.C.syms_lt rg x hx) (by decide)
                    have hT6 : ∀ x ∈ (Y.drop i).take r, x < 256 := hTb.lt
                    obtain ⟨S, hS⟩ : ∃ S, S = p.C.syms rg := ⟨_, rfl⟩
                    obtain ⟨T, hT⟩ : ∃ T, T = (Y.drop i).take r := ⟨_, rfl⟩
                    rw [← hS] at hSb hSl hS6
                    rw [← hT] at hTb hTl hT6
                    have HSS := Lib.hid hS
                    have HTT2 := Lib.hid hT
                    have HI := Lib.hid hi
                    have HJ := Lib.hid hji
                    have hr3 := cl_r3b HR23.out
                    have hj4 : (j : Int) ≤ 4000 := by have := hBl; omega
                    have hi4 : (i : Int) ≤ 4000 := by omega
                    have hd4 : (bs.length : Int) ≤ 4000 := by have := HNN.out; omega
                    clear hS hT hi hji hj ix4 hcy
                    have q1 := KeptW.cell fr
                    have q2 := KeptW.cell fl
                    clear fr fl
                    by_cases hsy : S = T
                    · have hstr : ((byteStr S).toList == (byteStr T).toList) = true := by rw [byteStr_beq hS6 hT6, decide_eq_true hsy]
                      have HSY := Lib.hid hsy
                      clear hsy
                      by_cases hk0 : k = 0
                      · subst hk0
                        refine wp_region_kept (by kernel_rfl) (by kernel_rfl) ?_
                        repeat first
                          | go_big_quiet_skip
                          | ((with_reducible apply q_slArr); exact Try.underlying108; infer_instance; rfl; rfl; exact hr3; (simp only [List.set_cons_zero, List.set_cons_succ]; rfl))
                          | ((with_reducible apply q_sl); rfl; rfl; rfl; exact hij; exact hjc; exact HJ.out; rfl; (simp only [List.set_cons_zero, List.set_cons_succ]; rfl))
                          | ((with_reducible apply q_cv); rfl; exact hSb; exact hSl; (simp only [List.set_cons_zero, List.set_cons_succ]; rfl))
                          | ((with_reducible apply q_cv); rfl; exact hTb; exact hTl; (simp only [List.set_cons_zero, List.set_cons_succ]; rfl))
                          | go_big_quiet_step (fail)
                        refine wpQuiet_nil ?_
                        intro w20 B20q
                        have hB20 := bOn' hB12 B20q
                        have hO20 := owns_kept hO12 B20q
                        have hsz20 := hB20.size
                        clear q1 q2 hstr hSb hTb hSl hTl hS6 hT6 hO12 hB12
                        have hdL0 := cl_tail0 p bs
                        go_wp2_with (at_builtin; refine ap (us := [.int .u8 0]) (m := 1) hO20 (by decide) rfl rfl rfl (fun u hu => u8_one hu) (cl_room2 hdN hN5 HNN.out).1 (cl_room2 hdN hN5 HNN.out).2 hsz20 ?_; intro v9 w9 hown9 hgr9 _)
                        have B98 := hB20.trans (own_below hO20 hgr9 hsz20)
                        have hsy := HSY.out
                        rw [HSS.out, HTT2.out, HY.out, HRG.out, HI.out] at hsy
                        obtain ⟨T1, T2⟩ := hTk.snoc (b := 0) (by decide) hdL0 (by rw [HRN.out]; exact hsy)
                        have hsn2 := HSN.out
                        go_roundw
                        case measure => simp only [intOf]; decide
                        case rel => exact ⟨0 + 1, by decide, rfl, .inr ⟨0, rfl, T1, by rw [T2, hsn2], by simpa [u8s] using hown9⟩, B98⟩
                      · have hk1 : k = 1 := by omega
                        subst hk1
                        by_cases hdL : (bs.length : Int) < p.L
                        · have hdL2 : decide ((bs.length : Int) < p.L) = true := decide_eq_true hdL
                          refine wp_region_kept (by kernel_rfl) (by kernel_rfl) ?_
                          repeat first
                            | go_big_quiet_skip
                            | ((with_reducible apply q_slArr); exact Try.underlying108; infer_instance; rfl; rfl; exact hr3; (simp only [List.set_cons_zero, List.set_cons_succ]; rfl))
                            | ((with_reducible apply q_sl); rfl; rfl; rfl; exact hij; exact hjc; exact HJ.out; rfl; (simp only [List.set_cons_zero, List.set_cons_succ]; rfl))
                            | ((with_reducible apply q_cv); rfl; exact hSb; exact hSl; (simp only [List.set_cons_zero, List.set_cons_succ]; rfl))
                            | ((with_reducible apply q_cv); rfl; exact hTb; exact hTl; (simp only [List.set_cons_zero, List.set_cons_succ]; rfl))
                            | go_big_quiet_step (fail)
                          refine wpQuiet_nil ?_
                          intro w20 B20q
                          have hB20 := bOn' hB12 B20q
                          have hO20 := owns_kept hO12 B20q
                          have hsz20 := hB20.size
                          clear q1 q2 hstr hSb hTb hSl hTl hS6 hT6 hO12 hB12
                          have hdL0 := cl_tail1 hdL
                          clear hdL hdL2
                          go_wp2_with (at_builtin; refine ap (us := [.int .u8 1]) (m := 1) hO20 (by decide) rfl rfl rfl (fun u hu => u8_one hu) (cl_room2 hdN hN5 HNN.out).1 (cl_room2 hdN hN5 HNN.out).2 hsz20 ?_; intro v9 w9 hown9 hgr9 _)
                          have B98 := hB20.trans (own_below hO20 hgr9 hsz20)
                          have hsy := HSY.out
                          rw [HSS.out, HTT2.out, HY.out, HRG.out, HI.out] at hsy
                          obtain ⟨T1, T2⟩ := hTk.snoc (b := 1) (by decide) hdL0 (by rw [HRN.out]; exact hsy)
                          have hsn2 := HSN.out
                          go_roundw
                          case measure => simp only [intOf]; decide
                          case rel => exact ⟨1 + 1, by decide, rfl, .inr ⟨1, rfl, T1, by rw [T2, hsn2], by simpa [u8s] using hown9⟩, B98⟩
                        · have hdL2 : decide ((bs.length : Int) < p.L) = false := decide_eq_false hdL
                          clear hdL
                          refine wp_region_kept (by kernel_rfl) (by kernel_rfl) ?_
                          repeat first
                            | go_big_quiet_skip
                            | ((with_reducible apply q_slArr); exact Try.underlying108; infer_instance; rfl; rfl; exact hr3; (simp only [List.set_cons_zero, List.set_cons_succ]; rfl))
                            | ((with_reducible apply q_sl); rfl; rfl; rfl; exact hij; exact hjc; exact HJ.out; rfl; (simp only [List.set_cons_zero, List.set_cons_succ]; rfl))
                            | ((with_reducible apply q_cv); rfl; exact hSb; exact hSl; (simp only [List.set_cons_zero, List.set_cons_succ]; rfl))
                            | ((with_reducible apply q_cv); rfl; exact hTb; exact hTl; (simp only [List.set_cons_zero, List.set_cons_succ]; rfl))
                            | go_big_quiet_step (fail)
                          refine wpQuiet_nil ?_
                          intro w20 B20q
                          have hB20 := bOn' hB12 B20q
                          have hO20 := owns_kept hO12 B20q
                          have hsz20 := hB20.size
                          clear q1 q2 hstr hSb hTb hSl hTl hS6 hT6 hO12 hB12
                          go_wp2
                          go_roundw
                          case measure => simp only [intOf]; decide
                          case rel => exact ⟨1 + 1, by omega, (by first | rfl | exact congrArg (Value.int .u8) (cl_u8 hk3)), .inl ⟨rfl, rfl, hO20⟩, hB20⟩
                    · have hstr : ((byteStr S).toList == (byteStr T).toList) = false := by rw [byteStr_beq hS6 hT6, decide_eq_false hsy]
                      clear hsy
                      refine wp_region_kept (by kernel_rfl) (by kernel_rfl) ?_
                      repeat first
                        | go_big_quiet_skip
                        | ((with_reducible apply q_slArr); exact Try.underlying108; infer_instance; rfl; rfl; exact hr3; (simp only [List.set_cons_zero, List.set_cons_succ]; rfl))
                        | ((with_reducible apply q_sl); rfl; rfl; rfl; exact hij; exact hjc; exact HJ.out; rfl; (simp only [List.set_cons_zero, List.set_cons_succ]; rfl))
                        | ((with_reducible apply q_cv); rfl; exact hSb; exact hSl; (simp only [List.set_cons_zero, List.set_cons_succ]; rfl))
                        | ((with_reducible apply q_cv); rfl; exact hTb; exact hTl; (simp only [List.set_cons_zero, List.set_cons_succ]; rfl))
                        | go_big_quiet_step (fail)
                      refine wpQuiet_nil ?_
                      intro w20 B20q
                      have hB20 := bOn' hB12 B20q
                      have hO20 := owns_kept hO12 B20q
                      have hsz20 := hB20.size
                      clear q1 q2 hstr hSb hTb hSl hTl hS6 hT6 hO12 hB12
                      go_wp2
                      go_roundw
                      case measure => simp only [intOf]; omega
                      case rel => exact ⟨k + 1, by omega, (by first | rfl | exact congrArg (Value.int .u8) (cl_u8 hk3)), .inl ⟨rfl, rfl, hO20⟩, hB20⟩
                  · obtain rfl : k = 2 := by omega
                    go_wp2
                    go_ret2
                    exact (show CleanPost p w _ _ from ⟨.inl rfl, bOn (bOn B20 B2r) hB⟩)
                · have hla : (bs ++ [x]).length = bs.length + 1 := by simp
                  have HLA := Lib.hid hla
                  clear hla
                  by_cases hk2 : k < 2
                  · have hk3 : (k : Int) < 2 := by omega
                    clear hk2
                    go_wp2
                    go_roundw
                    case measure => first | exact ap_meas' hdN | exact ap_meas hdN hb1
                    case rel => exact ⟨bs ++ [x], by rw [HLA.out]; exact hdN, hTx, by rw [HLA.out]; rfl, by rw [HLA.out], by rw [HLA.out]; exact hO, hB⟩
                  · obtain rfl : k = 2 := by omega
                    go_wp2
                    go_roundw
                    case measure => first | exact ap_meas' hdN | exact ap_meas hdN hb1
                    case rel => exact ⟨bs ++ [x], by rw [HLA.out]; exact hdN, hTx, by rw [HLA.out]; rfl, by rw [HLA.out], by rw [HLA.out]; exact hO, hB⟩
            · have hdN2 : bs.length = N := by omega
              have hcl := hTk.clean HC.out HS.out HF.out (by have := HNN.out; omega)
              obtain ⟨gb, cb, rfl, hcb⟩ : ∃ g c, u10 = .slice (some ⟨g, 0, none⟩) bs.length c ∧ bs.length ≤ c := by
                rcases hO10.2 with ⟨_, h⟩ | ⟨g, c, cur, hv, _, _, hnc, _⟩
                · have := HNN.out; omega
                · exact ⟨g, c, hv, hnc⟩
              have yB : Bytes w10 (some ⟨gb, 0, none⟩) bs := ⟨fun j hj => ⟨gb, 0, rfl, by rw [Nat.zero_add]; exact own_cell hO10 (u8s_get hj)⟩, fun x hx => by have := hTk.lt x hx; omega⟩
              obtain ⟨m, hm⟩ : ∃ m : Nat, p.L = (m : Int) := ⟨p.L.toNat, by omega⟩
              have hmL : p.L.toNat = m := by omega
              have hLN : m ≤ bs.length := by have := HNN.out; unfold Pb.N at this; omega
              have yA := yB.part 0 m
              rw [List.drop_zero, Nat.zero_add] at yA
              rw [hmL] at hcl
              have hAl : (bs.take m).length = m := by rw [List.length_take]; omega
              have hmc : m ≤ cb := Nat.le_trans hLN hcb
              have hmc2 : (m : Int) ≤ cb := by omega
              have b1e := b1L.kept hB10
              obtain ⟨fk, fr, flev, fl, fwin, fcode, ftable, fall⟩ := b1e.prob hp
              clear fk fr flev fwin fcode ftable fall
              rw [hm] at fl
              have hdd : decide ((bs.length : Int) < (N : Int)) = false := by rw [hdN2]; simp
              have hdb : ¬ (bs.length : Int) < (N : Int) := by omega
              have HAL := Lib.hid hAl
              clear hm hmL hAl hdN hdN2 hO10
              go_wp2
              refine bodyPost_ret (results_tmp2 rfl _ _ _) rfl ?_
              refine (show CleanPost p w _ _ from ⟨.inr ⟨bs.take m, gb, cb, hcl, by rw [HAL.out]; rfl, yA⟩, bOn (bOn B20 B2r) hB10⟩)
    · have hsf : p.T.soundB = false := by simpa using hs
      rw [hsf]
      clear hs hsf hsn hc htt hcc cr hwin
      go_wp2
      go_ret2
      exact (show CleanPost p w _ _ from ⟨.inl rfl, B20⟩)
  · have hne : (probChk p != 0) = true := by simpa using hc
    clear hc
    go_wp2
    go_ret2
    exact (show CleanPost p w _ _ from ⟨.inl rfl, B20⟩)
end Go.Proofs.Ytnjmplapjnnjdaa
