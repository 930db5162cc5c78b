import Derived.Test.YtnjmplapjnnjdaaGreatDocCount
import Derived.Test.YtnjmplapjnnjdaaGreatLFloors
import Derived.Test.YtnjmplapjnnjdaaGreatBkNew
set_option linter.unusedSimpArgs false
set_option linter.unusedVariables false
set_option linter.unnecessarySimpa false
/- Fano's machine leaves nothing out: where the threshold is lowered no complete path stays above. No walk. -/
namespace Go.Proofs.YtnjmplapjnnjdaaGreat
open Go.RowKit

/-- No way on from a node to a leaf, so many steps below, stays at or above T. -/
def Pb.deadN (p : Pb) (T : Int) : Nat → Nd → Prop
  | 0, _ => False
  | f + 1, n => ∀ k ∈ p.kids n, k.m < T ∨ p.deadN T f k
theorem Pb.deadN_path {p : Pb} (h : probChk p = 0) {bs : List Nat} (hb : p.Path bs) {T : Int} : ∀ (f i : Nat), i + f = p.N.toNat → p.deadN T f (p.nd bs i) → ∃ j, j ≤ p.N.toNat ∧ (p.nd bs j).m < T
  | 0, _, _, hd => hd.elim
  | f + 1, i, hi, hd => by
    rcases hd _ (Pb.nd_mem h hb (i := i) (by omega)) with h1 | h1
    · exact ⟨i + 1, by omega, h1⟩
    · exact p.deadN_path h hb f (i + 1) (by omega) h1
def Pb.fuel (p : Pb) (n : Nd) : Nat := (p.N - n.d).toNat
/-- a kid of no use at T -/
def Pb.gone (p : Pb) (T : Int) (k : Nd) : Prop := k.m < T ∨ p.deadN T (p.fuel k) k
def flrD (D m : Int) : Int := D * (m / D)
theorem flrD_le {D : Int} (hD : 1 ≤ D) (m : Int) : flrD D m ≤ m ∧ m < flrD D m + D := by
  unfold flrD
  have h1 := Int.emod_add_mul_ediv m D
  have h2 := Int.emod_nonneg m (b := D) (by omega)
  have h3 := Int.emod_lt_of_pos m (b := D) (by omega)
  omega
theorem mul_le_of_lt {D : Int} (hD : 1 ≤ D) {a b : Int} (h : D * a < D * b + D) : D * a ≤ D * b := by
  have h1 : D * a < D * (b + 1) := by rw [Int.mul_add, Int.mul_one]; exact h
  have h2 := Int.lt_of_mul_lt_mul_left h1 (by omega)
  exact Int.mul_le_mul_of_nonneg_left (by omega) (by omega)
theorem flrD_ge {D : Int} (hD : 1 ≤ D) {k m : Int} (h : D * k ≤ m) : D * k ≤ flrD D m := by
  have := flrD_le hD m
  exact mul_le_of_lt hD (by unfold flrD at this; omega)
/-- The kids that were tried ahead of where the way goes on are of no use, each at the threshold that counts there. -/
def Pb.Dd (p : Pb) (D : Int) : Int → List Spot → Prop
  | _, [] => True
  | T, y :: ys => (∀ i k, (p.kids y.n).length - y.t < i → (p.kids y.n)[i]? = some k → p.gone (min T (flrD D y.n.m)) k) ∧ p.Dd D (min T (flrD D y.n.m)) ys
def Pb.Td (p : Pb) (T : Int) (x : Spot) : Prop := ∀ i k, (p.kids x.n).length - x.t ≤ i → (p.kids x.n)[i]? = some k → p.gone T k
def Pb.Ad (p : Pb) (T : Int) (n : Nd) : Prop := ∀ k ∈ p.kids n, p.gone T k
theorem Pb.kid_d (p : Pb) (n : Nd) : ∀ k ∈ p.kids n, k.d = n.d + 1 := by
  intro k hk
  unfold Pb.kids Pb.twoK at hk
  split at hk
  · rw [List.mem_singleton.1 hk]; rfl
  · split at hk <;> · simp at hk; rcases hk with rfl | rfl <;> rfl
theorem Pb.Ad.dead {p : Pb} {T : Int} {n : Nd} (h : p.Ad T n) (hd : n.d < p.N) : p.deadN T (p.fuel n) n := by
  have e : p.fuel n = (p.N - (n.d + 1)).toNat + 1 := by unfold Pb.fuel; omega
  rw [e]
  intro k hk
  have hkd := p.kid_d n k hk
  have := h k hk
  unfold Pb.gone Pb.fuel at this
  rw [hkd] at this
  exact this
/-- The worse kid comes first. -/
theorem Pb.kids_sorted (p : Pb) (n : Nd) {i j : Nat} {a b : Nd} (hij : i ≤ j) (ha : (p.kids n)[i]? = some a) (hb : (p.kids n)[j]? = some b) : a.m ≤ b.m := by
  unfold Pb.kids Pb.twoK at ha hb
  split at ha
  · rename_i hL
    rw [if_pos hL] at hb
    match i, j, ha, hb with
    | 0, 0, ha, hb => simp at ha hb; subst ha; subst hb; exact Int.le_refl _
    | i + 1, _, ha, _ => simp at ha
    | _, j + 1, _, hb => simp at hb
  · rename_i hL
    rw [if_neg hL] at hb
    split at ha
    · rename_i hm
      rw [if_pos hm] at hb
      match i, j, ha, hb with
      | 0, 0, ha, hb => simp at ha hb; subst ha; subst hb; exact Int.le_refl _
      | 0, 1, ha, hb => simp at ha hb; subst ha; subst hb; omega
      | 1, 1, ha, hb => simp at ha hb; subst ha; subst hb; exact Int.le_refl _
      | 1, 0, _, _ => omega
      | i + 2, _, ha, _ => simp at ha
      | _, j + 2, _, hb => simp at hb
    · rename_i hm
      rw [if_neg hm] at hb
      match i, j, ha, hb with
      | 0, 0, ha, hb => simp at ha hb; subst ha; subst hb; exact Int.le_refl _
      | 0, 1, ha, hb => simp at ha hb; subst ha; subst hb; omega
      | 1, 1, ha, hb => simp at ha hb; subst ha; subst hb; exact Int.le_refl _
      | 1, 0, _, _ => omega
      | i + 2, _, ha, _ => simp at ha
      | _, j + 2, _, hb => simp at hb
theorem Pb.fallL_dead {p : Pb} {D : Int} (hD : 1 ≤ D) {thr : Int} (hm : ∃ k, thr = D * k) : ∀ {x : Spot} {up : List Spot}, p.WayOk x up → x.n.d < p.N → thr ≤ x.n.m → p.Dd D thr up → p.Ad thr x.n →
    p.Dd D thr (p.fallL thr x up).2.2 ∧ ((p.fallL thr x up).1 = true → (p.fallL thr x up).2.1.t = 0 ∧ ((p.fallL thr x up).2.2 = [] → p.Ad thr (p.fallL thr x up).2.1.n)) ∧ ((p.fallL thr x up).1 = false → p.Td thr (p.fallL thr x up).2.1)
  | x, [], hw, hd, hx, hdd, had => ⟨trivial, fun _ => ⟨rfl, fun _ => had⟩, fun h => by cases h⟩
  | x, y :: ys, hw, hd, hx, hdd, had => by
    unfold Pb.fallL
    split
    · exact ⟨hdd, fun _ => ⟨rfl, fun h => by cases h⟩, fun h => by cases h⟩
    · rename_i hy
      obtain ⟨k, hk⟩ := hm
      have hF : min thr (flrD D y.n.m) = thr := Int.min_eq_left (by rw [hk]; exact flrD_ge hD (by omega))
      obtain ⟨d1, d2⟩ := hdd
      rw [hF] at d1 d2
      obtain ⟨w1, w2, w3, w4, w5, w6⟩ := hw
      have htd : p.Td thr y := by
        intro i k' hi hk'
        by_cases he : i = (p.kids y.n).length - y.t
        · subst he
          rw [w3] at hk'
          obtain rfl := Option.some.inj hk'
          exact .inr (had.dead hd)
        · exact d1 i k' (by omega) hk'
      split
      · exact ⟨d2, fun h => (by cases h), fun _ => htd⟩
      · rename_i hl
        have hl' : ¬ y.t < (p.kids y.n).length := by simpa [Pb.left] using hl
        refine Pb.fallL_dead hD ⟨k, hk⟩ w6 w5 (by omega) d2 fun k' hk' => ?_
        obtain ⟨i, hi, rfl⟩ := List.getElem_of_mem hk'
        exact htd i _ (by omega) (List.getElem?_eq_getElem hi)
structure Fm.Deep (p : Pb) (D : Int) (s : Fm) : Prop where
  td : p.Td s.thr s.top
  dd : p.Dd D s.thr s.up
  no : 0 < s.low + D ∨ p.deadN (s.low + D) p.N.toNat ⟨0, 0, 0⟩
theorem Fm.Deep.start (p : Pb) {D : Int} (hD : 1 ≤ D) : Fm.start.Deep p D := ⟨fun i k hi hk => (by
    have : (p.kids Fm.start.top.n).length - 0 ≤ i := hi
    rw [List.getElem?_eq_none (by omega)] at hk
    cases hk), trivial, .inl (by show (0 : Int) < 0 + D; omega)⟩
theorem Fm.Deep.look {p : Pb} (h : probChk p = 0) {D : Int} (hD : 1 ≤ D) {s : Fm} (hs : s.Ok p D) (hg : s.Deep p D) (hn : s.done = false) : (p.flook D s).Deep p D := by
  have hdl : s.top.n.d < p.N := by
    have h1 := hs.dn
    rw [hn] at h1
    have h2 : s.top.n.d ≠ p.N := by simpa using h1.symm
    have h3 := (hs.way.facts h).2.1
    have h4 := hs.way.depth h
    have := Pb.N_le h
    omega
  have ht := hs.tries hn
  obtain ⟨g1, g2⟩ := Pb.kidAt_get ht
  unfold Pb.flook
  split
  · rename_i hk
    have had : p.Ad s.thr s.top.n := fun k hk' => by
      obtain ⟨i, hi, rfl⟩ := List.getElem_of_mem hk'
      by_cases hle : i ≤ (p.kids s.top.n).length - (s.top.t + 1)
      · have := p.kids_sorted s.top.n hle (List.getElem?_eq_getElem hi) g1
        exact .inl (by omega)
      · exact hg.td i _ (by omega) (List.getElem?_eq_getElem hi)
    have hw := hs.way.tried (s.top.t + 1)
    obtain ⟨d1, d2, d3⟩ := p.fallL_dead hD hs.mul hw hdl hs.thr_le hg.dd had
    obtain ⟨f1, _, f3, f4, f5, f6⟩ := Pb.fallL_facts (p := p) (thr := s.thr) hw hdl hs.thr_le
    cases hb : (p.fallL s.thr ⟨s.top.n, s.top.b, s.top.t + 1⟩ s.up).1 with
    | false =>
      refine ⟨?_, ?_, ?_⟩
      · simp only [Pb.fall, hb]; exact d3 hb
      · simp only [Pb.fall, hb]; exact d1
      · simp only [Pb.fall, hb]; exact hg.no
    | true =>
      obtain ⟨e1, e2⟩ := d2 hb
      have f6 := f6 hb
      refine ⟨?_, ?_, ?_⟩
      · simp only [Pb.fall, hb]
        intro i k hi hk
        rw [e1] at hi
        rw [List.getElem?_eq_none (by simpa using hi)] at hk
        cases hk
      · simp only [Pb.fall, hb, if_true]
        revert d1 f6
        cases (p.fallL s.thr ⟨s.top.n, s.top.b, s.top.t + 1⟩ s.up).2.2 with
        | nil => exact fun _ _ => trivial
        | cons z zs =>
          intro d1 f6
          have hz := f6 z rfl
          obtain ⟨k, hk⟩ := hs.mul
          have hF := flrD_le hD z.n.m
          have hF2 : flrD D z.n.m ≤ s.thr - D := by
            have : D * (z.n.m / D) < D * (k - 1) + D := by rw [Int.mul_sub, Int.mul_one, ← hk]; unfold flrD at hF; omega
            have := mul_le_of_lt hD this
            rw [Int.mul_sub, Int.mul_one, ← hk] at this
            exact this
          obtain ⟨d1, d2⟩ := d1
          have m1 : min s.thr (flrD D z.n.m) = flrD D z.n.m := Int.min_eq_right (by omega)
          have m2 : min (s.thr - D) (flrD D z.n.m) = flrD D z.n.m := Int.min_eq_right hF2
          rw [m1] at d1 d2
          exact ⟨by rw [m2]; exact d1, by rw [m2]; exact d2⟩
      · simp only [Pb.fall, hb, if_true]
        by_cases hlow : s.low ≤ s.thr - D
        · rw [Int.min_eq_left hlow]; exact hg.no
        · rw [Int.min_eq_right (by omega)]
          obtain ⟨k, hk⟩ := hs.mul
          obtain ⟨k', hk'⟩ := hs.lmul
          have hlt := hs.low_thr
          have hle := mul_le_of_lt hD (a := k) (b := k') (by omega)
          have hab := hs.above
          have hnil : (p.fallL s.thr ⟨s.top.n, s.top.b, s.top.t + 1⟩ s.up).2.2 = [] := by
            revert f5 f6
            cases (p.fallL s.thr ⟨s.top.n, s.top.b, s.top.t + 1⟩ s.up).2.2 with
            | nil => exact fun _ _ => rfl
            | cons z zs =>
              intro f5 f6
              have h1 := f6 z rfl
              have h2 := hab z (f5 z (by simp))
              omega
          have had' := (e2 hnil).dead f3
          have hr : (p.fallL s.thr ⟨s.top.n, s.top.b, s.top.t + 1⟩ s.up).2.1.n = ⟨0, 0, 0⟩ := by
            rw [hnil] at f1; exact f1.1
          rw [hr] at had'
          refine .inr ?_
          have e : s.thr - D + D = s.thr := by omega
          rw [e]
          have e' : p.fuel ⟨0, 0, 0⟩ = p.N.toNat := by unfold Pb.fuel; simp
          rw [← e']
          exact had'
  · rename_i hk
    obtain ⟨k, hk'⟩ := hs.mul
    have hr := raise_facts hD (show s.thr ≤ (p.kidAt s.top).n.m by omega)
    have hF := flrD_ge hD (show D * k ≤ s.top.n.m by rw [← hk']; exact hs.thr_le)
    have hF2 := flrD_le hD s.top.n.m
    rw [← hk'] at hF
    have hmin : min (if s.top.n.m < s.thr + D then raise D s.thr (p.kidAt s.top).n.m else s.thr) (flrD D s.top.n.m) = s.thr := by
      split
      · rename_i h1
        have : flrD D s.top.n.m ≤ s.thr := by
          have := mul_le_of_lt hD (a := s.top.n.m / D) (b := k) (by rw [← hk']; unfold flrD at hF2; omega)
          rw [← hk'] at this; exact this
        omega
      · omega
    refine ⟨fun i k hi hk => ?_, ⟨?_, ?_⟩, hg.no⟩
    · have hi' : (p.kids (p.kidAt s.top).n).length - 0 ≤ i := hi
      rw [List.getElem?_eq_none (by omega)] at hk; cases hk
    · show ∀ i k, _ → _ → p.gone (min (if s.top.n.m < s.thr + D then raise D s.thr (p.kidAt s.top).n.m else s.thr) (flrD D s.top.n.m)) k
      rw [hmin]
      intro i k hi hk
      exact hg.td i k (by have : (p.kids s.top.n).length - (s.top.t + 1) < i := hi; omega) hk
    · show p.Dd D (min (if s.top.n.m < s.thr + D then raise D s.thr (p.kidAt s.top).n.m else s.thr) (flrD D s.top.n.m)) s.up
      rw [hmin]; exact hg.dd
theorem Fm.Deep.run {p : Pb} (h : probChk p = 0) {D : Int} (hD : 1 ≤ D) : ∀ (k : Nat) {s : Fm}, s.Ok p D → s.Deep p D → (p.frun D k s).Deep p D
  | 0, _, _, hg => hg
  | k + 1, s, hs, hg => by
    unfold Pb.frun
    cases hd : s.done with
    | true => simpa using hg
    | false =>
      have hl := hg.look h hD hs hd
      have : (p.fstep D s).Deep p D := ⟨hl.td, hl.dd, hl.no⟩
      simpa using Fm.Deep.run h hD k (hs.step h hD hd) this
/-- No complete path stays at or above the least threshold and one step more. -/
theorem Fm.Deep.path {p : Pb} (h : probChk p = 0) {D : Int} {s : Fm} (hg : s.Deep p D) {bs : List Nat} (hb : p.Path bs) : dipOf (p.pm bs) < s.low + D := by
  obtain ⟨h0, hd, _⟩ := p.pm_dip bs
  rcases hg.no with h1 | h1
  · omega
  · obtain ⟨j, hj, hlt⟩ := Pb.deadN_path h hb p.N.toNat 0 (by omega) h1
    have := hd j _ (p.pm_get bs hj)
    have e : (p.nd bs j).m = p.psum ((p.pathL bs).take j) := rfl
    omega
end Go.Proofs.YtnjmplapjnnjdaaGreat

/- What Fano's machine comes to. No walk. -/
namespace Go.Proofs.YtnjmplapjnnjdaaGreat
open Go.RowKit

def Fm.bits (s : Fm) : List Nat := wayBits s.top s.up
def Pb.fdip (p : Pb) (s : Fm) : Int := if s.done then dipOf (p.pm (s.bits.take p.L.toNat)) else 0
def Pb.ftot (p : Pb) (s : Fm) : Int := if s.done then lastOf (p.pm (s.bits.take p.L.toNat)) else 0
theorem Fm.Ok.len {p : Pb} (h : probChk p = 0) {D : Int} {s : Fm} (hs : s.Ok p D) (hd : s.done = true) : s.up.length = p.N.toNat := by
  have h1 := hs.dn
  rw [hd] at h1
  have h2 : s.top.n.d = p.N := by simpa using h1.symm
  have h3 := hs.way.depth h
  have := Pb.N_le h
  omega
theorem Pb.L_le {p : Pb} (h : probChk p = 0) : 1 ≤ p.L ∧ p.L ≤ 1024 ∧ p.L ≤ p.N := by
  obtain ⟨⟨k1, k2⟩, l1, l2, _⟩ := probChk_ok h
  unfold Pb.N; omega
theorem Fm.Ok.path {p : Pb} (h : probChk p = 0) {D : Int} {s : Fm} (hs : s.Ok p D) (hd : s.done = true) : p.Path (s.bits.take p.L.toNat) := by
  have h1 := hs.len h hd
  have h2 := wayBits_len s.top s.up
  have h3 := Pb.L_le h
  refine ⟨?_, fun x hx => (hs.way.facts h).2.2.1 x (List.mem_of_mem_take hx)⟩
  rw [List.length_take]
  show ((min p.L.toNat (wayBits s.top s.up).length : Nat) : Int) = p.L
  omega
theorem Pb.bit_take (p : Pb) (bs : List Nat) (j : Nat) : p.bit (bs.take p.L.toNat) j = p.bit bs j := by
  unfold Pb.bit
  split
  · rename_i hj
    rw [List.getD_eq_getElem?_getD, List.getD_eq_getElem?_getD, List.getElem?_take, if_pos (by omega)]
  · rfl
theorem Pb.nd_take {p : Pb} (h : probChk p = 0) (bs : List Nat) {i : Nat} (hi : i ≤ p.N.toNat) : p.nd (bs.take p.L.toNat) i = p.nd bs i :=
  Pb.nd_congr h hi fun j _ => p.bit_take bs j
theorem Pb.pm_nd (p : Pb) (bs : List Nat) : p.pm bs = (List.range (p.N.toNat + 1)).map fun i => (p.nd bs i).m := by
  unfold Pb.pm Pb.psums
  rw [p.pathL_len]
  rfl
theorem Fm.Ok.pm {p : Pb} (h : probChk p = 0) {D : Int} {s : Fm} (hs : s.Ok p D) (hd : s.done = true) : p.pm (s.bits.take p.L.toNat) = ((s.top :: s.up).reverse).map (·.n.m) := by
  have h1 := hs.way.nds h
  have h2 := hs.len h hd
  have h3 : ((s.top :: s.up).reverse).map (·.n.m) = (((s.top :: s.up).reverse).map (·.n)).map (·.m) := by rw [List.map_map]; rfl
  rw [p.pm_nd, h3, h1, h2, List.map_map]
  refine List.map_congr_left fun i hi => ?_
  rw [List.mem_range] at hi
  rw [Pb.nd_take h _ (by omega)]
  rfl
theorem Fm.Ok.tot {p : Pb} (h : probChk p = 0) {D : Int} {s : Fm} (hs : s.Ok p D) (hd : s.done = true) : p.ftot s = s.top.n.m := by
  unfold Pb.ftot
  rw [if_pos hd, hs.pm h hd, List.reverse_cons, List.map_append]
  unfold lastOf
  simp [List.getLastD_eq_getLast?]
theorem Fm.Ok.dip {p : Pb} (h : probChk p = 0) {D : Int} {s : Fm} (hs : s.Ok p D) (hd : s.done = true) : p.fdip s = dipOf (((s.top :: s.up).reverse).map (·.n.m)) := by
  unfold Pb.fdip
  rw [if_pos hd, hs.pm h hd]
end Go.Proofs.YtnjmplapjnnjdaaGreat

/- Rows of structs of many cells; how a machine's way lies in memory. No walk. -/
namespace Go.Proofs.YtnjmplapjnnjdaaGreat
open Go.RowKit

section
variable {w w' : World} {B : Nat} {e sz n c g : Nat} {v : Value} {xs : List Value}
theorem ownsN_set (h : w.ownsRow B e sz (.slice (some ⟨g, 0, none⟩) n c) n xs) (j : Nat) (u : Value) : (w.setCell ⟨g, j, none⟩ u).ownsRow B e sz (.slice (some ⟨g, 0, none⟩) n c) n (xs.set j u) := by
  refine ⟨by rw [List.length_set]; exact h.1, ?_⟩
  rcases h.2 with ⟨h, _⟩ | ⟨g', cap, cur, hv, hb, hg, hnc, hcm, hcs, htake⟩
  · cases h
  · obtain ⟨rfl, rfl⟩ : g = g' ∧ c = cap := by simpa using hv
    refine .inr ⟨g, c, cur.setIfInBounds j u, rfl, hb, ?_, hnc, hcm, by simpa using hcs, ?_⟩
    · exact setCell_block w g j u cur e _ hg
    · rw [Array.toList_setIfInBounds, List.take_set, htake]
theorem ownsN_block (h : w.ownsRow B e sz v n xs) (hk : ∀ k, v.ownBlock = some k → w'.heap[k]? = w.heap[k]?) : w'.ownsRow B e sz v n xs := by
  refine ⟨h.1, ?_⟩
  rcases h.2 with h | ⟨g', cap, cur, hv, hb, hg, rest⟩
  · exact .inl h
  · exact .inr ⟨g', cap, cur, hv, hb, (hk g' (by rw [hv]; rfl)).trans hg, rest⟩
theorem ownsN_cell (h : w.ownsRow B e sz (.slice (some ⟨g, 0, none⟩) n c) n xs) {j : Nat} {u : Value} (hj : xs[j]? = some u) : w.cell? ⟨g, j, none⟩ = some u := by
  have hlt : j < xs.length := by
    rcases Nat.lt_or_ge j xs.length with h | h
    · exact h
    · rw [List.getElem?_eq_none h] at hj; cases hj
  rw [h.cellAt j (by have := h.1; omega)]
  exact hj
theorem ownsN_lt (h : w.ownsRow B e sz (.slice (some ⟨g, 0, none⟩) n c) n xs) : g < w.heap.size := (World.ownsRow.lt h g rfl).2
theorem ownsN_cap (h : w.ownsRow B e sz (.slice (some ⟨g, 0, none⟩) n c) n xs) : n ≤ c := by
  rcases h.2 with ⟨h0, _⟩ | ⟨g', cap, cur, hv, hb, hg, hnc, hcm, hcs, htake⟩
  · cases h0
  obtain ⟨rfl, rfl⟩ : g = g' ∧ c = cap := by simpa using hv
  exact hnc
end
/-- THE ARM for 'append' of what lies in a block of its own. -/
theorem apQ {P : Program} {ops : Array Oper} {rest : List Oper} {l : List Value} {ds : List Deferred} {w : World} {Q : Exit → Act → World → Prop} {t e d n m c b size bytes base : Nat} {s x : Operand} {z v : Value} {xs us : List Value} {ty : TypeId} {ps : String} {af : Array Edge}
    [S : SlTy P t e] [E : ElTy P e z size bytes] (hown : w.ownsRow base e size v n xs) (hsz : 0 < size) (hm : 0 < m) (hs : (Act.mk l.toArray ds).eval s = v) (hx : (Act.mk l.toArray ds).eval x = .slice (some ⟨b, 0, none⟩) m c) (hb : Box w b us.toArray)
    (hl : us.length = m * size) (h1 : ∀ u ∈ us, u.oneCell' = true) (h63 : n + m ≤ 9223372036854775807 / 65536) (hbytes : (n + m) * bytes ≤ 140737488355328) (hbase : base ≤ w.heap.size)
    (h : ∀ v' w', w'.ownsRow base e size v' (n + m) (xs ++ us) → ((∃ g c, v = .slice (some ⟨g, 0, none⟩) n c ∧ v' = .slice (some ⟨g, 0, none⟩) (n + m) c ∧ w.grownBy w' (some g)) ∨ (v'.ownBlock = some w.heap.size ∧ w.grownBy w' none)) → wpList P ops Q rest ⟨(l.set d v').toArray, ds⟩ w') :
    wpList P ops Q (⟨some d, .call { callee := .builtin .append, args := #[s, x], argTypes := #[t, t] }, ty, ps, af, none⟩ :: rest) ⟨l.toArray, ds⟩ w := by
  obtain ⟨i, hi, hz0, hz1, hz2, hz3⟩ := E.out
  obtain ⟨v', w', hr, h2, h3⟩ := run_append_apart (P := P) w base t ty e i z size bytes S.out hi hz0 hz1 hz2 hz3 hsz v n xs hown ⟨b, 0, none⟩ m c hm us hl (fun j u hj => by
    have hadd : (⟨b, 0, none⟩ : Addr).add j = ⟨b, j, none⟩ := by unfold Addr.add; split <;> simp_all
    rw [hadd, hb.cell]
    simpa using hj) h1 (by unfold maxLen; omega) hbytes hbase
  refine wpList_plain rfl fun K hK => ?_
  unfold Oper.wp execOp
  simp only [resolve, invoke, builtin, Sem.run_bind, Sem.run_pure, Result.andThen_ok, List.map_toArray, List.map_cons, List.map_nil, hs, hx, hr]
  rw [Oper.upon_value, put_list]
  exact hK _ _ (h v' w' h2 h3)
/-! ### A row of spots -/
def Spot.row (x : Spot) : List Value := [.int .u32 x.n.s, .int .i64 x.n.d, .int .i64 x.n.m, .int .u8 x.b, .int .i64 x.t]
end Go.Proofs.YtnjmplapjnnjdaaGreat

/- The search of layer 17 in memory: its struct, its rows, its buckets. -/
namespace Go.Proofs.YtnjmplapjnnjdaaGreat
open Go.RowKit

/-- What the struct's rows hold: ways by numbers, free numbers, what was found, counters. -/
structure Sr where
  ats : List (Option Nat)
  frees : List Nat
  fnd : Option Nat
  work : Int
  drops : Int
/-- Where its parts lie. -/
structure SA where
  sb : Nat
  bb : Nat
  gr : Nat
  low : Nat
  top : Nat
  vs : List Value
  va : Value
  vf : Value
  tb : Nat
  pb : Nat
  rb : Nat
  g : Nat
  c : Nat
  OB : Nat → Prop
  B0 : Nat
def ptrV (x : Option Nat) : Value := .pointer (x.map fun b => ⟨b, 0, none⟩)
def srCells (p : Pb) (b : Bk) (m : Sr) (A : SA) : Array Value := #[.int .i64 p.L, .int .i64 b.D, .pointer (some ⟨A.tb, 0, none⟩), .pointer (some ⟨A.bb, 0, none⟩), A.va, A.vf, ptrV m.fnd, .int .i64 m.work, .int .i64 m.drops]
structure SrIn (w : World) (p : Pb) (b : Bk) (m : Sr) (A : SA) : Prop where
  box : BoxT w A.sb (srCells p b m A) 63
  at_ : w.ownsRow 0 61 1 A.va m.ats.length (m.ats.map ptrV)
  free : RowO w A.vf (m.frees.map fun (x : Nat) => (x : Int))
  bk : BkIn w b A.bb A.gr A.low A.top A.vs A.OB
  tree : TreeIn w p A.tb A.pb A.rb A.g A.c
  sepS : ¬A.OB A.sb
  sepA : ∀ k, A.va.ownBlock = some k → ¬A.OB k
  sepF : ∀ k, A.vf.ownBlock = some k → ¬A.OB k
  low : (∀ k, A.OB k → A.B0 ≤ k ∧ k < w.heap.size) ∧ A.B0 ≤ A.sb ∧ (∀ k, A.va.ownBlock = some k → A.B0 ≤ k) ∧ ∀ k, A.vf.ownBlock = some k → A.B0 ≤ k
  old : A.tb < A.B0 ∧ A.pb < A.B0 ∧ A.rb < A.B0 ∧ A.g < A.B0
def SA.own (A : SA) (k : Nat) : Prop := k = A.sb ∨ A.va.ownBlock = some k ∨ A.vf.ownBlock = some k ∨ A.OB k
/-- What it reads besides. -/
def SA.has (A : SA) (k : Nat) : Prop := A.own k ∨ k = A.tb ∨ k = A.pb ∨ k = A.rb ∨ k = A.g
theorem SrIn.lt {w : World} {p : Pb} {b : Bk} {m : Sr} {A : SA} (h : SrIn w p b m A) {k : Nat} (hk : A.own k) : k < w.heap.size := by
  rcases hk with rfl | hk | hk | hk
  · exact Box.lt ⟨_, h.box⟩
  · exact (World.ownsRow.lt h.at_ k hk).2
  · exact h.free.lt hk
  · exact (h.low.1 k hk).2
theorem SrIn.same {w w' : World} {p : Pb} {b : Bk} {m : Sr} {A : SA} (h : SrIn w p b m A) (hs : w.heap.size ≤ w'.heap.size) (hk : ∀ k, A.has k → w'.heap[k]? = w.heap[k]?) : SrIn w' p b m A :=
  ⟨h.box.same (hk _ (.inl (.inl rfl))), ownsN_block h.at_ fun k hk' => hk k (.inl (.inr (.inl hk'))), h.free.block fun k hk' => hk k (.inl (.inr (.inr (.inl hk')))), h.bk.same fun k hk' _ => hk k (.inl (.inr (.inr (.inr hk')))),
    ⟨h.tree.tree.imp fun _ e => (hk _ (.inr (.inl rfl))).trans e, h.tree.prob.imp fun _ e => (hk _ (.inr (.inr (.inl rfl)))).trans e, h.tree.rate.imp fun _ e => (hk _ (.inr (.inr (.inr (.inl rfl))))).trans e, h.tree.win.block (hk _ (.inr (.inr (.inr (.inr rfl))))), h.tree.cap⟩,
    h.sepS, h.sepA, h.sepF, ⟨fun k hk' => ⟨(h.low.1 k hk').1, Nat.lt_of_lt_of_le (h.low.1 k hk').2 hs⟩, h.low.2⟩, h.old⟩
theorem SrIn.hasLt {w : World} {p : Pb} {b : Bk} {m : Sr} {A : SA} (h : SrIn w p b m A) {k : Nat} (hk : A.has k) : k < w.heap.size := by
  have h0 := Nat.lt_of_le_of_lt h.low.2.1 (h.lt (k := A.sb) (.inl rfl))
  have ho := h.old
  rcases hk with hk | hk | hk | hk | hk
  · exact h.lt hk
  all_goals omega
theorem SrIn.kept {w w' : World} {p : Pb} {b : Bk} {m : Sr} {A : SA} (h : SrIn w p b m A) (hB : Below w.heap.size w w') : SrIn w' p b m A := h.same hB.size fun k hk => hB.block k (h.hasLt hk)
/-- .. where another one's blocks are written. -/
theorem SrIn.turn {w w' : World} {p : Pb} {b : Bk} {m : Sr} {A : SA} {H : Nat → Prop} (h : SrIn w p b m A) (T : Turn H w w') (hn : ∀ k, A.has k → ¬H k) : SrIn w' p b m A := h.same T.size fun k hk => T.block k (h.hasLt hk) (hn k hk)
end Go.Proofs.YtnjmplapjnnjdaaGreat
