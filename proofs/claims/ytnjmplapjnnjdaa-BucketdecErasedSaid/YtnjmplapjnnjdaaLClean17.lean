import Derived.Test.YtnjmplapjnnjdaaLExact17b
import Derived.Test.YtnjmplapjnnjdaaClean
set_option linter.unusedSimpArgs false
set_option linter.unusedVariables false
set_option linter.unnecessarySimpa false
/- The search of layer 17, plain: a clean problem. -/
namespace Go.Proofs.Ytnjmplapjnnjdaa
open Go.RowKit

/-- The entry on the clean path. -/
def Pb.cleanEnt (p : Pb) (A : List Nat) (k : Nat) : Ent := ⟨p.nd A k, (p.full A).take k, 0⟩
theorem keysOf_get {D : Int} {L : List Ent} {i : Nat} {e : Ent} (h : L[i]? = some e) : (keysOf D L).getD i 0 = e.n.m / D := by
  unfold keysOf
  rw [List.getD_eq_getElem?_getD, List.getElem?_map, h]
  rfl
theorem next_last {D : Int} (hD : 1 ≤ D) {L0 : List Ent} {c : Ent} (h : ∀ e ∈ L0, e.n.m ≤ c.n.m) : nextIx D (L0 ++ [c]) = L0.length := by
  obtain ⟨h1, h2, h3⟩ := lastMax_facts (keysOf D (L0 ++ [c])) (L0 ++ [c]).length (by simp)
  have hl : (L0 ++ [c]).length = L0.length + 1 := by simp
  unfold nextIx
  rcases Nat.lt_or_ge (lastMax (keysOf D (L0 ++ [c])) (L0 ++ [c]).length) L0.length with hlt | hge
  · exfalso
    have h4 := h3 L0.length hlt (by omega)
    have hc : (L0 ++ [c])[L0.length]? = some c := by simp
    obtain ⟨r, hr⟩ : ∃ r, r = lastMax (keysOf D (L0 ++ [c])) (L0 ++ [c]).length := ⟨_, rfl⟩
    rw [← hr] at h4 hlt
    have hx : (L0 ++ [c])[r]? = some L0[r] := by rw [List.getElem?_append_left hlt]; exact List.getElem?_eq_getElem hlt
    rw [keysOf_get hc, keysOf_get hx] at h4
    have := ediv_mono hD (h L0[r] (List.getElem_mem hlt))
    omega
  · omega
theorem low_notlast {D : Int} (hD : 1 ≤ D) {L0 : List Ent} {c : Ent} (h0 : L0 ≠ []) (h : ∀ e ∈ L0, e.n.m ≤ c.n.m) : lowIx D (L0 ++ [c]) < L0.length := by
  obtain ⟨h1, h2, h3⟩ := firstMin_facts (keysOf D (L0 ++ [c])) (L0 ++ [c]).length (by simp)
  have hl : (L0 ++ [c]).length = L0.length + 1 := by simp
  have hpos : 0 < L0.length := List.length_pos_iff.2 h0
  unfold lowIx
  rcases Nat.lt_or_ge (firstMin (keysOf D (L0 ++ [c])) (L0 ++ [c]).length) L0.length with hlt | hge
  · exact hlt
  · exfalso
    have he : firstMin (keysOf D (L0 ++ [c])) (L0 ++ [c]).length = L0.length := by omega
    have h4 := h3 0 (by omega)
    rw [he] at h4
    have hc : (L0 ++ [c])[L0.length]? = some c := by simp
    have hx : (L0 ++ [c])[0]? = some L0[0] := by rw [List.getElem?_append_left hpos]; exact List.getElem?_eq_getElem hpos
    rw [keysOf_get hc, keysOf_get hx] at h4
    have := ediv_mono hD (h L0[0] (List.getElem_mem hpos))
    omega
/-- What was dropped is counted. -/
def Bq.Dr (s : Bq) (k : Nat) : Prop := (s.some_ = false ∧ s.drops = 0) ∨ (1 ≤ s.drops ∧ s.drops ≤ k)
theorem Bq.Dr.put {s : Bq} {k : Nat} (h : s.Dr k) (hk : k ≤ 4194304) (D : Int) (most : Nat) (x : Ent) : (s.put D most x).Dr (k + 1) := by
  unfold Bq.put
  split
  · rcases h with h | ⟨h1, h2⟩
    · exact .inl h
    · exact .inr ⟨h1, by show s.drops ≤ ((k + 1 : Nat) : Int); omega⟩
  · have hd : 0 ≤ s.drops ∧ s.drops ≤ k := by rcases h with ⟨_, h⟩ | h <;> omega
    have hw : wrap64 (s.drops + 1) = s.drops + 1 := by unfold wrap64; omega
    refine .inr ⟨?_, ?_⟩
    · show 1 ≤ wrap64 (s.drops + 1)
      omega
    · show wrap64 (s.drops + 1) ≤ ((k + 1 : Nat) : Int)
      omega
/-- The clean node is put last, and stays. -/
theorem Bq.put_last {D : Int} (hD : 1 ≤ D) {most : Nat} (hm : 1 ≤ most) {s : Bq} {c : Ent} (h : ∀ e ∈ s.L, e.n.m ≤ c.n.m) : ∃ L1, (s.put D most c).L = L1 ++ [c] ∧ ∀ e ∈ L1, e ∈ s.L := by
  unfold Bq.put
  split
  · exact ⟨s.L, rfl, fun e he => he⟩
  · rename_i hf
    have h0 : s.L ≠ [] := fun e => by rw [e] at hf; simp at hf; omega
    have hlt := low_notlast hD h0 h
    refine ⟨s.L.eraseIdx (lowIx D (s.L ++ [c])), ?_, fun e he => mem_erase he⟩
    show (s.L ++ [c]).eraseIdx _ = _
    exact List.eraseIdx_append_of_lt_length hlt _
structure Bq.Cl (p : Pb) (A : List Nat) (s : Bq) (k : Nat) : Prop where
  ex : ∃ L0, s.L = L0 ++ [p.cleanEnt A k] ∧ ∀ e ∈ L0, e.n.m ≤ (p.nd A k).m
  fnd : s.found = none
  dr : s.Dr (2 * k)
theorem Bq.Cl.best {p : Pb} {A : List Nat} {D : Int} (hD : 1 ≤ D) {s : Bq} {k : Nat} (h : s.Cl p A k) : s.best D = p.cleanEnt A k ∧ ∃ L0, s.L = L0 ++ [p.cleanEnt A k] ∧ s.L.eraseIdx (nextIx D s.L) = L0 ∧ ∀ e ∈ L0, e.n.m ≤ (p.nd A k).m := by
  obtain ⟨L0, h1, h2⟩ := h.ex
  have hn : nextIx D s.L = L0.length := by rw [h1]; exact next_last hD h2
  refine ⟨?_, L0, h1, ?_, h2⟩
  · unfold Bq.best
    rw [hn, h1, List.getD_eq_getElem?_getD]
    simp
  · rw [hn, h1, List.eraseIdx_append_of_length_le (Nat.le_refl _)]
    simp
theorem Bq.Cl.step {p : Pb} (hp : p.Ok) {A : List Nat} (hcl : p.CleanBy A) {D : Int} (hD : 1 ≤ D) {most : Nat} (hm : 1 ≤ most) {s : Bq} (hl : s.L.length ≤ most) {k : Nat} (hk : k < p.N.toNat) (h : s.Cl p A k) : (p.bstep D most s).Cl p A (k + 1) := by
  obtain ⟨hb, L0, h1, h2, h3⟩ := h.best hD
  obtain ⟨hlt, hkids⟩ := hcl.kids hp hk
  have hN := Pb.N_le hcl.chk
  have hnd : (p.cleanEnt A k).n.d ≠ p.N := by show ((k : Nat) : Int) ≠ p.N; omega
  have hbs : (p.cleanEnt A k).bs ++ [p.bit A k] = (p.full A).take (k + 1) := by
    show (p.full A).take k ++ [p.bit A k] = _
    rw [List.take_add_one, p.full_get A hk]
    rfl
  have hmk : 0 ≤ (p.nd A (k + 1)).m := by
    have key : ∀ j, j ≤ p.N.toNat → 0 ≤ (p.nd A j).m := by
      intro j
      induction j with
      | zero => intro _; exact Int.le_refl _
      | succ j ih => intro hj; have := (hcl.kids hp (d := j) (by omega)).1; have := ih (by omega); omega
    exact key (k + 1) (by omega)
  have hce : (⟨p.nd A (k + 1), (p.cleanEnt A k).bs ++ [p.bit A k], min (p.cleanEnt A k).dip (p.nd A (k + 1)).m⟩ : Ent) = p.cleanEnt A (k + 1) := by
    rw [hbs]
    show (⟨_, _, min 0 (p.nd A (k + 1)).m⟩ : Ent) = ⟨_, _, 0⟩
    rw [Int.min_eq_left hmk]
  have hk5 : 2 * k ≤ 4194000 := by omega
  unfold Pb.bstep
  rw [hb, if_neg hnd, h2]
  obtain ⟨s1, hs1⟩ : ∃ s1 : Bq, s1 = { s with L := L0, work := wrap64 (s.work + 1) } := ⟨_, rfl⟩
  rw [← hs1]
  have hL0 : s1.L.length ≤ most := by rw [hs1]; show L0.length ≤ most; rw [h1] at hl; simp at hl; omega
  have hd0 : s1.Dr (2 * k) := by rw [hs1]; exact h.dr
  have hf0 : s1.found = none := by rw [hs1]; exact h.fnd
  have hm0 : ∀ e ∈ s1.L, e.n.m ≤ (p.nd A (k + 1)).m := fun e he => by rw [hs1] at he; have := h3 e he; omega
  rcases hkids with ⟨e1, e2⟩ | ⟨n, b, e1, e2, e3⟩
  · have hke : p.kidEnts (p.cleanEnt A k) = [p.cleanEnt A (k + 1)] := by
      unfold Pb.kidEnts
      show (((p.kids (p.nd A k)).zip (p.kidBits (p.nd A k))).map _) = _
      rw [e1, e2]
      show [(⟨p.nd A (k + 1), (p.cleanEnt A k).bs ++ [p.bit A k], min (p.cleanEnt A k).dip (p.nd A (k + 1)).m⟩ : Ent)] = _
      rw [hce]
    rw [hke]
    obtain ⟨L1, x1, x2⟩ := Bq.put_last hD hm (s := s1) (c := p.cleanEnt A (k + 1)) hm0
    obtain ⟨_, _, _, a4, _⟩ := s1.put_facts (D := D) hm hL0 (p.cleanEnt A (k + 1))
    refine ⟨⟨L1, x1, fun e he => hm0 e (x2 e he)⟩, a4.trans hf0, ?_⟩
    have := hd0.put (by omega) D most (p.cleanEnt A (k + 1))
    rcases this with h | ⟨h1, h2⟩
    · exact .inl h
    · exact .inr ⟨h1, Int.le_trans h2 (Int.ofNat_le.2 (by omega))⟩
  · have hke : p.kidEnts (p.cleanEnt A k) = [⟨n, (p.cleanEnt A k).bs ++ [b], min (p.cleanEnt A k).dip n.m⟩, p.cleanEnt A (k + 1)] := by
      unfold Pb.kidEnts
      show (((p.kids (p.nd A k)).zip (p.kidBits (p.nd A k))).map _) = _
      rw [e1, e2]
      show [_, (⟨p.nd A (k + 1), (p.cleanEnt A k).bs ++ [p.bit A k], min (p.cleanEnt A k).dip (p.nd A (k + 1)).m⟩ : Ent)] = _
      rw [hce]
    rw [hke]
    obtain ⟨y, hy⟩ : ∃ y : Ent, y = ⟨n, (p.cleanEnt A k).bs ++ [b], min (p.cleanEnt A k).dip n.m⟩ := ⟨_, rfl⟩
    rw [← hy]
    show Bq.Cl p A ((s1.put D most y).put D most (p.cleanEnt A (k + 1))) (k + 1)
    obtain ⟨a1, a2, _, a4, _⟩ := s1.put_facts (D := D) hm hL0 y
    have hm1 : ∀ e ∈ (s1.put D most y).L, e.n.m ≤ (p.cleanEnt A (k + 1)).n.m := fun e he => by
      rcases a1 e he with h | h
      · exact hm0 e h
      · rw [h, hy]
        show n.m ≤ (p.nd A (k + 1)).m
        omega
    obtain ⟨L1, x1, x2⟩ := Bq.put_last hD hm (s := s1.put D most y) (c := p.cleanEnt A (k + 1)) hm1
    obtain ⟨_, _, _, b4, _⟩ := (s1.put D most y).put_facts (D := D) hm a2 (p.cleanEnt A (k + 1))
    refine ⟨⟨L1, x1, fun e he => hm1 e (x2 e he)⟩, b4.trans (a4.trans hf0), ?_⟩
    exact (hd0.put (by omega) D most y).put (by omega) D most (p.cleanEnt A (k + 1))
theorem Bq.Cl.start {p : Pb} {A : List Nat} {D : Int} {most : Nat} (hm : 1 ≤ most) : (Bq.start D most).Cl p A 0 := by
  have e1 : Bq.start D most = ⟨[ent0], 0, 0, 0, false, none⟩ := by
    unfold Bq.start Bq.put
    rw [if_pos (by simpa using hm)]
    rfl
  rw [e1]
  exact ⟨⟨[], rfl, fun e he => by cases he⟩, rfl, .inl ⟨rfl, rfl⟩⟩
theorem Bq.Cl.run {p : Pb} (hp : p.Ok) {A : List Nat} (hcl : p.CleanBy A) {D : Int} (hD : 1 ≤ D) {most : Nat} (hm : 1 ≤ most) : ∀ k, k ≤ p.N.toNat → (p.brun D most k (Bq.start D most)).Cl p A k
  | 0, _ => Bq.Cl.start hm
  | k + 1, hk => by
    have ih := Bq.Cl.run hp hcl hD hm k (by omega)
    have hok := (Bq.Ok.start (p := p) (D := D) hm).run hcl.chk hm k
    rw [p.brun_snoc, if_neg (by rw [ih.fnd]; simp)]
    exact ih.step hp hcl hD hm hok.len (by omega)
theorem Pb.full_take {p : Pb} (h : probChk p = 0) {A : List Nat} (hA : p.Path A) : (p.full A).take p.L.toNat = A := by
  have hN := Pb.N_le h
  obtain ⟨⟨k1, k2⟩, l1, l2, _⟩ := probChk_ok h
  have hLN : p.L.toNat ≤ p.N.toNat := by unfold Pb.N; omega
  have hlen := hA.len
  apply List.ext_getElem?
  intro i
  rw [List.getElem?_take]
  split
  · rename_i hi
    rw [p.full_get A (by omega)]
    unfold Pb.bit
    rw [if_pos (by omega), List.getD_eq_getElem?_getD]
    rw [List.getElem?_eq_getElem (show i < A.length by omega)]
    rfl
  · rw [List.getElem?_eq_none (by omega)]
/-- What a clean problem comes to. -/
theorem Bq.clean {p : Pb} (hp : p.Ok) {A : List Nat} (hcl : p.CleanBy A) {D : Int} (hD : 1 ≤ D) {most : Nat} (hm : 1 ≤ most) :
    ∃ s, s = p.brun D most (p.N.toNat + 1) (Bq.start D most) ∧ s.found = some (p.cleanEnt A p.N.toNat) ∧ s.work = p.N + 1 ∧ (s.some_ = false ∨ 1 ≤ s.drops) := by
  have hN := Pb.N_le hcl.chk
  have h := Bq.Cl.run hp hcl hD hm p.N.toNat (Nat.le_refl _)
  obtain ⟨hb, L0, h1, h2, h3⟩ := h.best hD
  have hs0 : (Bq.start D most).Ok p D most := Bq.Ok.start hm
  obtain ⟨i, hi, hw, hin⟩ := Bq.Wk.run hcl.chk hm p.N.toNat hs0 (Bq.Wk.start (D := D) hm)
  have hi := hin h.fnd
  refine ⟨_, rfl, ?_, ?_, ?_⟩
  all_goals rw [p.brun_snoc, if_neg (by rw [h.fnd]; simp)]
  all_goals unfold Pb.bstep
  all_goals rw [hb, if_pos (by show ((p.N.toNat : Nat) : Int) = p.N; omega)]
  · show wrap64 ((p.brun D most p.N.toNat (Bq.start D most)).work + 1) = p.N + 1
    rw [hw.work, hi]
    unfold wrap64
    omega
  · show (p.brun D most p.N.toNat (Bq.start D most)).some_ = false ∨ 1 ≤ (p.brun D most p.N.toNat (Bq.start D most)).drops
    rcases h.dr with h | h
    · exact .inl h.1
    · exact .inr h.1
end Go.Proofs.Ytnjmplapjnnjdaa

/- outpostlaw17.BucketdecClean: a clean problem is decoded with its path, one step a node. -/
namespace Go.Proofs.Ytnjmplapjnnjdaa
open Go.RowKit

theorem Pb.clean17 {p : Pb} (hp : p.Ok) {A : List Nat} (hcl : p.CleanBy A) {cn : Nat} {D : Int} (c1 : 1 ≤ cn) (c2 : cn ≤ 65536) (d1 : 1 ≤ D) (d2 : D ≤ 65536) :
    (p.seE cn (p.L + p.C.K) D = 0 ∧ (p.seR cn (p.L + p.C.K) D).dec = true ∧ (p.seR cn (p.L + p.C.K) D).bits = A ∧ (p.seR cn (p.L + p.C.K) D).work = p.L + p.C.K ∧ (p.seR cn (p.L + p.C.K) D).dip = 0 ∧ ((p.seR cn (p.L + p.C.K) D).exact_ = true ∨ 0 < (p.seR cn (p.L + p.C.K) D).drops)) ∨
    (p.seE cn (p.L + p.C.K) D = 6 ∧ 65536 < p.hi_ / D - p.lo_ / D + 1) := by
  have hc := hcl.chk
  have hN := Pb.N_le hc
  obtain ⟨⟨k1, k2⟩, l1, l2, _⟩ := probChk_ok hc
  have hb : ¬(p.L + p.C.K < 0 ∨ 1048576 < p.L + p.C.K) := by omega
  by_cases hk : p.hi_ / D - p.lo_ / D + 1 ≤ 65536
  · left
    have hz : newE p cn D = 0 := by
      unfold newE
      rw [if_neg (by simp [hc]), if_neg (by omega), if_neg (by omega), if_pos hk]
    have e1 : p.seR cn (p.L + p.C.K) D = p.bres D (p.brun D cn (p.N.toNat + 1) (Bq.start D cn)) := by
      unfold Pb.seR
      rw [if_neg (by simp [hz]), if_neg hb]
      have e2 : (p.L + p.C.K).toNat = p.N.toNat + 1 := by unfold Pb.N; omega
      rw [e2]
      rfl
    have e3 : p.seE cn (p.L + p.C.K) D = 0 := by unfold Pb.seE; rw [if_neg (by simp [hz]), if_neg hb]
    obtain ⟨s, hs, f1, f2, f3⟩ := Bq.clean hp hcl d1 c1 (most := cn)
    rw [e1, e3, ← hs]
    have hb2 : p.bres D s = ⟨true, !s.some_ || decide (s.gone ≤ (p.cleanEnt A p.N.toNat).dip / D), (p.cleanEnt A p.N.toNat).bs.take p.L.toNat, (p.cleanEnt A p.N.toNat).n.m, (p.cleanEnt A p.N.toNat).dip, s.work, s.drops⟩ := by unfold Pb.bres; rw [f1]
    rw [hb2]
    refine ⟨rfl, rfl, ?_, ?_, rfl, ?_⟩
    · show ((p.full A).take p.N.toNat).take p.L.toNat = A
      rw [List.take_take, Nat.min_eq_left (by unfold Pb.N; omega)]
      exact Pb.full_take hc hcl.path
    · show s.work = p.L + p.C.K
      rw [f2]
      unfold Pb.N
      omega
    · rcases f3 with f3 | f3
      · left
        show (!s.some_ || _) = true
        rw [f3]
        rfl
      · right
        show 0 < s.drops
        omega
  · right
    have hz : newE p cn D = 6 := by
      unfold newE
      rw [if_neg (by simp [hc]), if_neg (by omega), if_neg (by omega), if_neg hk]
    refine ⟨?_, by omega⟩
    unfold Pb.seE
    rw [hz]
    rfl
theorem tmod1 (x : Int) (x0 : -9223372036854775808 ≤ x) (x1 : x ≤ 9223372036854775807) : 0 ≤ (wrap64 (x.tmod 65536 + 65536)).tmod 65536 ∧ (wrap64 (x.tmod 65536 + 65536)).tmod 65536 ≤ 65535 := by
  have h1 : -65536 < x.tmod 65536 ∧ x.tmod 65536 < 65536 := ⟨by have := Int.tmod_eq_emod (a := x) (b := 65536); split at this <;> omega, Int.tmod_lt_of_pos _ (by decide)⟩
  have h2 : wrap64 (x.tmod 65536 + 65536) = x.tmod 65536 + 65536 := by unfold wrap64; omega
  rw [h2]
  have h3 := Int.tmod_lt_of_pos (x.tmod 65536 + 65536) (b := 65536) (by decide)
  have h4 := Int.tmod_nonneg (a := x.tmod 65536 + 65536) 65536 (by omega)
  omega
set_option maxRecDepth 5000 in
set_option maxHeartbeats 1000000 in
theorem law17_Clean (p : Pb) (a : Option Addr) (ca : Nat) (hp : p.Ok) (hcap : p.B.length ≤ ca) (cap : Int) (c0 : -9223372036854775808 ≤ cap) (c1 : cap ≤ 9223372036854775807) (D : Int) (D0 : -9223372036854775808 ≤ D) (D1 : D ≤ 9223372036854775807) (w : World) (hw : Bytes w a p.B) :
    Pure Try.prog 5 #[.agg (p.cells (.slice a p.B.length ca)), .int .i64 cap, .int .i64 D] w (.bool true) := by
  go_enter Try.func5, Try.ntmps5
  go_upto_region 1 with (fail)
  refine name1 ?_
  intro w0 b1 B0
  have hw0 := hw.kept B0
  obtain ⟨fk, fr, flev, fl, fwin, fcode, ftable, fall⟩ := b1.prob hp
  clear fk fr flev fl fwin fcode ftable
  go_wp2_with ((with_reducible apply ld); rfl; (with_reducible assumption); (simp only [List.set_cons_zero, List.set_cons_succ]; rfl))
  refine (ref15_Clean p a ca hp _ hw0).mono ?_
  rintro e w1 ⟨hres, B1⟩
  clear fall
  have b11 := b1.kept B1
  have B10 := bOn B0 B1
  rcases hres with rfl | ⟨A, gA, cA, hcl, rfl, yA⟩
  · go_wp2_with fail
    refine (law17_knows _).mono ?_
    rintro e w2 ⟨rfl, B2⟩
    go_wp2
    go_ret
    exact ⟨rfl, bOn B10 B2⟩
  · have hc := hcl.chk
    go_wp2_with fail
    refine (law17_knows _).mono ?_
    rintro e w2 ⟨rfl, B2⟩
    have B20 := bOn B10 B2
    have b12 := b11.kept B2
    have yA2 := yA.kept B2
    obtain ⟨fk, fr, flev, fl, fwin, fcode, ftable, fall⟩ := b12.prob hp
    obtain ⟨⟨k1, k2⟩, l1, l2, _⟩ := probChk_ok hc
    obtain ⟨t1, t2⟩ := tmod1 cap c0 c1
    obtain ⟨t3, t4⟩ := tmod1 D D0 D1
    clear fr flev fwin fcode ftable b1 b11 yA
    go_upto_region 7 with fail
    obtain ⟨cn, hcn⟩ : ∃ cn : Nat, 1 + (wrap64 (cap.tmod 65536 + 65536)).tmod 65536 = (cn : Int) := ⟨(1 + (wrap64 (cap.tmod 65536 + 65536)).tmod 65536).toNat, by omega⟩
    obtain ⟨Dl, hDl⟩ : ∃ Dl : Int, Dl = 1 + (wrap64 (D.tmod 65536 + 65536)).tmod 65536 := ⟨_, rfl⟩
    rw [hcn, ← hDl]
    have q1 : 1 ≤ cn ∧ cn ≤ 65536 := by omega
    have q2 : 1 ≤ Dl ∧ Dl ≤ 65536 := by omega
    have hw2 := hw.kept B20
    have hdec := fun W (hW : Bytes W a p.B) => se_Decode p a ca cn (p.L + p.C.K) Dl hp W hW
    have hcase := Pb.clean17 hp hcl q1.1 q1.2 q2.1 q2.2
    clear t1 t2 t3 t4 hcn hDl
    rcases hcase with ⟨hE, hd, hbits, hwk, hdip, hex⟩ | ⟨hE, hbig⟩
    · rw [hE] at hdec
      obtain ⟨r, hr⟩ : ∃ r, r = p.seR cn (p.L + p.C.K) Dl := ⟨_, rfl⟩
      rw [← hr] at hdec hd hbits hwk hdip hex
      obtain ⟨nn, hnn⟩ : ∃ nn, nn = p.L + p.C.K := ⟨_, rfl⟩
      rw [← hnn] at hdec hwk ⊢
      clear hr hE hnn
      go_wp2_with ((with_reducible apply ld); rfl; (with_reducible assumption); (simp only [List.set_cons_zero, List.set_cons_succ]; rfl))
      refine (hdec _ hw2).mono ?_
      rintro e w3 ⟨⟨ar, cr, rfl, hO⟩, B3⟩
      have B30 := bOn B20 B3
      have yA3 := yA2.kept B3
      clear hdec fk fl fall yA2
      obtain ⟨R, hR⟩ : ∃ R, R = r.cells (.slice ar r.bits.length cr) := ⟨_, rfl⟩
      have hRs : R.size = 7 := by rw [hR]; rfl
      have hfl : Flat R := by rw [hR]; exact flatR
      rw [← hR]
      have HRS := Lib.hid hRs
      have HR := Lib.hid hR
      have bn := Box.new w3 #[.bool false, .bool false, .slice none 0 0, .int .i64 0, .int .i64 0, .int .i64 0, .int .i64 0] 35
      clear hRs hR
      go_upto_region 8 with (first | ((with_reducible apply ld); rfl; (with_reducible assumption); (simp only [List.set_cons_zero, List.set_cons_succ]; rfl)) | ((with_reducible apply stO); rfl; rfl; exact bn; rfl; exact HRS.out; exact hfl; intro w4 b4 B4 ho4 hs4))
      have B43 : Below w3.heap.size w3 w4 := ((Below.refl _ w3).alloc (Nat.le_refl _) _).trans B4
      have B40 := bOn B30 B43
      have hO4 := (hO.kept (w' := w4) fun k hk hl => B43.block k hl).bytes
      have yA4 := yA3.kept B43
      rw [HR.out] at b4
      obtain ⟨rb, hrb⟩ : ∃ rb, rb = w3.heap.size := ⟨_, rfl⟩
      rw [← hrb] at b4 ⊢
      clear bn ho4 hs4 B4 hrb HRS hfl yA3 hO
      go_wp2_with fail
      refine (law17_num 0 _).mono ?_
      rintro e w5 ⟨rfl, B5⟩
      have b5 := b4.kept B5
      have B50 := bOn B40 B5
      have d0 : w5.cell? ⟨rb, 0, none⟩ = some (.bool true) := by have := b5.cell 0; rw [← hd]; exact this
      have d1 : w5.cell? ⟨rb, 1, none⟩ = some (.bool r.exact_) := b5.cell 1
      have d2 : w5.cell? ⟨rb, 2, none⟩ = some (.slice ar r.bits.length cr) := b5.cell 2
      have d4 : w5.cell? ⟨rb, 4, none⟩ = some (.int .i64 0) := by have := b5.cell 4; rw [← hdip]; exact this
      have d5 : w5.cell? ⟨rb, 5, none⟩ = some (.int .i64 nn) := by have := b5.cell 5; rw [← hwk]; exact this
      have d6 : w5.cell? ⟨rb, 6, none⟩ = some (.int .i64 r.drops) := b5.cell 6
      rw [hbits] at d2 hO4
      have v1 := run_conv (P := Try.prog) (src := 30) (dst := 9) (cap := cr) (hO4.kept B5) rfl
      have v2 := run_conv (P := Try.prog) (src := 30) (dst := 9) (cap := cA) (yA4.kept B5) rfl
      clear b4 b5 hO4 yA4 hd hdip hwk
      cases hX : r.exact_ with
      | true =>
        rw [hX] at d1
        clear hex hX
        go_wp2
        go_ret
        exact ⟨rfl, B50⟩
      | false =>
        have hdr : decide (0 < r.drops) = true := by
          rcases hex with h | h
          · rw [hX] at h; cases h
          · simpa using h
        rw [hX] at d1
        clear hex hX
        go_wp2
        go_ret
        exact ⟨rfl, B50⟩
    · rw [hE] at hdec
      obtain ⟨r, hr⟩ : ∃ r, r = p.seR cn (p.L + p.C.K) Dl := ⟨_, rfl⟩
      rw [← hr] at hdec
      obtain ⟨nn, hnn⟩ : ∃ nn, nn = p.L + p.C.K := ⟨_, rfl⟩
      rw [← hnn] at hdec ⊢
      obtain ⟨g1, g2, g3, g4⟩ := Pb.lohi_bd hc
      have f1 := fun W => law17_floor p.hi_ Dl (by omega) (by omega) W
      have f2 := fun W => law17_floor p.lo_ Dl (by omega) (by omega) W
      have e1 : flr17 p.hi_ Dl = p.hi_ / Dl := by unfold flr17; rw [if_neg (by omega)]
      have e2 : flr17 p.lo_ Dl = p.lo_ / Dl := by unfold flr17; rw [if_neg (by omega)]
      have s1 := ediv_small q2.1 (show -100000000 ≤ p.hi_ by omega) g4
      have s2 := ediv_small q2.1 g1 (show p.lo_ ≤ 100000000 by omega)
      rw [e1] at f1
      rw [e2] at f2
      obtain ⟨X, hX⟩ : ∃ X, X = p.hi_ / Dl := ⟨_, rfl⟩
      obtain ⟨Y, hY⟩ : ∃ Y, Y = p.lo_ / Dl := ⟨_, rfl⟩
      rw [← hX] at f1 s1 hbig
      rw [← hY] at f2 s2 hbig
      clear hr hE hnn e1 e2 hX hY
      go_wp2_with ((with_reducible apply ld); rfl; (with_reducible assumption); (simp only [List.set_cons_zero, List.set_cons_succ]; rfl))
      refine (hdec _ hw2).mono ?_
      rintro e w3 ⟨⟨ar, cr, rfl, hO⟩, B3⟩
      have B30 := bOn B20 B3
      have b13 := b12.kept B3
      have hw3 := hw2.kept B3
      clear hdec fk fl fall yA2 hO
      obtain ⟨R, hR⟩ : ∃ R, R = r.cells (.slice ar r.bits.length cr) := ⟨_, rfl⟩
      have hRs : R.size = 7 := by rw [hR]; rfl
      have hfl : Flat R := by rw [hR]; exact flatR
      rw [← hR]
      have HRS := Lib.hid hRs
      have bn := Box.new w3 #[.bool false, .bool false, .slice none 0 0, .int .i64 0, .int .i64 0, .int .i64 0, .int .i64 0] 35
      clear hRs hR
      go_upto_region 8 with (first | ((with_reducible apply ld); rfl; (with_reducible assumption); (simp only [List.set_cons_zero, List.set_cons_succ]; rfl)) | ((with_reducible apply stO); rfl; rfl; exact bn; rfl; exact HRS.out; exact hfl; intro w4 b4 B4 ho4 hs4))
      have B43 : Below w3.heap.size w3 w4 := ((Below.refl _ w3).alloc (Nat.le_refl _) _).trans B4
      have B40 := bOn B30 B43
      have b14 := b13.kept B43
      have hw4 := hw3.kept B43
      clear bn ho4 hs4 B4 HRS hfl b4 b13 hw3
      go_wp2_with fail
      refine (law17_num 6 _).mono ?_
      rintro e w5 ⟨rfl, B5⟩
      have B50 := bOn B40 B5
      have b15 := b14.kept B5
      have hw5 := hw4.kept B5
      obtain ⟨fk, fr, flev, fl, fwin, fcode, ftable, fall⟩ := b15.prob hp
      clear fk fr flev fl fwin fcode ftable b14 hw4
      go_wp2_with ((with_reducible apply ld); rfl; (with_reducible assumption); (simp only [List.set_cons_zero, List.set_cons_succ]; rfl))
      refine (tree_New p a ca hp hc _ hw5).mono ?_
      rintro e w6 ⟨⟨tb, pb, rb, g, c, rfl, hT, _⟩, B6⟩
      have B60 := bOn B50 B6
      clear fall
      go_wp2_with fail
      refine (tree_Range p _ hT).mono ?_
      rintro e w7 ⟨rfl, B7⟩
      rw [show min (p.C.R * p.N * p.T.lo) 0 = p.lo_ from rfl, show max (p.C.R * p.N * p.T.hi) 0 = p.hi_ from rfl]
      have B70 := bOn B60 B7
      go_wp2_with fail
      refine (law17_num 0 _).mono ?_
      rintro e w8 ⟨rfl, B8⟩
      go_wp2_with fail
      refine (law17_num 6 _).mono ?_
      rintro e w9 ⟨rfl, B9⟩
      go_wp2_with fail
      refine (f1 _).mono ?_
      rintro e w10 ⟨rfl, B10⟩
      go_wp2_with fail
      refine (f2 _).mono ?_
      rintro e w11 ⟨rfl, B11⟩
      have hfin : decide (65536 < X - Y + 1) = true := by simpa using hbig
      go_wp2
      go_ret
      exact ⟨rfl, bOn (bOn (bOn (bOn B70 B8) B9) B10) B11⟩
end Go.Proofs.Ytnjmplapjnnjdaa
