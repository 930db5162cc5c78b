/- The searches of layer 17 side by side, the program's and the document's: looks, asks. -/
import Derived.Test.YtnjmplapjnnjdaaGreatRqD
import Derived.Test.YtnjmplapjnnjdaaGreatSeSize
import Derived.Test.YtnjmplapjnnjdaaGreatOpenOps
import Derived.Test.YtnjmplapjnnjdaaGreatLOrder
set_option linter.unusedSimpArgs false
set_option linter.unusedVariables false
set_option linter.unnecessarySimpa false
namespace Go.Proofs.YtnjmplapjnnjdaaGreat
open Go.RowKit
set_option linter.unusedSimpArgs false
set_option linter.unusedVariables false

theorem res_bytesD {r : Rs} {w : World} {B c : Nat} {a : Option Addr} (ho : w.ownsRow B 5 1 (.slice a r.bits.length c) r.bits.length (u8s r.bits)) (hl : ∀ x ∈ r.bits, x < 256) : Bytes w a r.bits := by
  rcases ho.2 with ⟨e, h0⟩ | ⟨g', c', cur, e, _⟩
  · rw [List.length_eq_zero_iff.1 h0]; exact Bytes.nil _ _
  · obtain ⟨rfl, _⟩ : a = some ⟨g', 0, none⟩ ∧ c = c' := by simpa using e
    exact own_bytes ho hl
structure PairM (w : World) (p : Pb) (D : Int) (most : Nat) (s : Bq) (sa sb : Nat) (F G : Nat → Prop) : Prop where
  prog : SeM w p D most s sa F
  doc : RqM w p D most s sb G
  sep : ∀ k, F k → ¬G k
section
variable {w w' : World} {p : Pb} {D : Int} {most : Nat} {s : Bq} {sa sb : Nat} {F G : Nat → Prop}
theorem PairM.kept (h : PairM w p D most s sa sb F G) (B : Below w.heap.size w w') : PairM w' p D most s sa sb F G := ⟨h.prog.kept B, h.doc.kept B, h.sep⟩
theorem PairM.turn {H : Nat → Prop} (h : PairM w p D most s sa sb F G) (T : Turn H w w') (hn : ∀ k, F k ∨ G k → ¬H k) : PairM w' p D most s sa sb F G := ⟨h.prog.turn T fun k hk => hn k (.inl hk), h.doc.turn T fun k hk => hn k (.inr hk), h.sep⟩
theorem PairM.goProg {s' : Bq} {F' : Nat → Prop} (h : PairM w p D most s sa sb F G) (hM : SeM w' p D most s' sa F') (hG : Grows F F' w w') : RqM w' p D most s sb G ∧ (∀ k, F' k → ¬G k) :=
  ⟨h.doc.turn hG.1 fun k hk hF => h.sep k hF hk, fun k hk hg => (hG.2 k hk).elim (fun h1 => h.sep k h1 hg) fun h1 => by have := h.doc.lt k hg; omega⟩
end
theorem Grows.left {F F' G : Nat → Prop} {w w' : World} (h : Grows F F' w w') : Grows (fun k => F k ∨ G k) (fun k => F' k ∨ G k) w w' :=
  ⟨h.1.mono fun k _ hk => .inl hk, fun k hk => hk.elim (fun h1 => (h.2 k h1).imp_left .inl) fun h1 => .inl (.inr h1)⟩
theorem Grows.right {F G G' : Nat → Prop} {w w' : World} (h : Grows G G' w w') : Grows (fun k => F k ∨ G k) (fun k => F k ∨ G' k) w w' :=
  ⟨h.1.mono fun k _ hk => .inr hk, fun k hk => hk.elim (fun h1 => .inl (.inl h1)) fun h1 => (h.2 k h1).imp_left .inr⟩
def LooksPost (p : Pb) (D : Int) (most : Nat) (s : Bq) (sa sb : Nat) (F G : Nat → Prop) (w : World) (e : Ending) (w' : World) : Prop :=
  e = .returned (.bool true) ∧ ∃ F', PairM w' p D most s sa sb F' G ∧ Grows F F' w w'
set_option maxRecDepth 5000 in
set_option maxHeartbeats 1000000 in
theorem law17_looks {w : World} {p : Pb} (hp : p.Ok) (hc : probChk p = 0) {D : Int} (hD : 1 ≤ D) {most : Nat} (hmost : most ≤ 65536) {s : Bq} {sa sb : Nat} {F G : Nat → Prop} (h : PairM w p D most s sa sb F G) :
    Calls Tryz.prog 8 #[.pointer (some ⟨sa, 0, none⟩), .pointer (some ⟨sb, 0, none⟩)] w (LooksPost p D most s sa sb F G w) := by
  obtain ⟨tk, fn, hV⟩ : ∃ (tk : Int) (fn : Bool), s.top_ D = .tuple #[.int .i64 tk, .bool fn] := ⟨_, _, rfl⟩
  have HV := Lib.hid hV
  clear hV
  have r1 := h.prog.top
  rw [HV.out] at r1
  go_enter Tryz.func8, Tryz.ntmps8
  go_wp2_with fail
  refine r1.mono ?_
  rintro e w1 ⟨rfl, F1, hS1, G1⟩
  obtain ⟨hQ1, hsep⟩ := h.goProg hS1 G1
  have h1 : PairM w1 p D most s sa sb F1 G := ⟨hS1, hQ1, hsep⟩
  have r2 := h1.doc.top hp hc hD hmost
  rw [HV.out] at r2
  clear r1 h hS1 hQ1 hsep
  go_wp2_with fail
  refine r2.mono ?_
  rintro e w2 ⟨rfl, B2⟩
  have h2 := h1.kept B2
  clear r2
  go_wp2_with fail
  refine h2.prog.mark.mono ?_
  rintro e w3 ⟨rfl, B3⟩
  have h3 := h2.kept B3
  go_wp2_with fail
  refine (h3.doc.mark hp).mono ?_
  rintro e w4 ⟨rfl, B4⟩
  have h4 := h3.kept B4
  go_wp2_with fail
  refine h4.prog.size.mono ?_
  rintro e w5 ⟨rfl, B5⟩
  have h5 := h4.kept B5
  go_wp2_with fail
  refine (h5.doc.size hp).mono ?_
  rintro e w6 ⟨rfl, B6⟩
  have h6 := h5.kept B6
  have B62 := bOn (bOn (bOn (bOn B2 B3) B4) B5) B6
  clear h1 h2 h3 h4 h5 B2 B3 B4 B5 B6
  go_wp2_with fail
  refine (h6.prog.res hc).mono ?_
  rintro e w7 ⟨⟨a7, c7, rfl, hO7⟩, B7⟩
  have h7 := h6.kept B7
  go_wp2_with fail
  refine (h7.doc.res hp hc hD).mono ?_
  rintro e w8 ⟨⟨a8, c8, rfl, hO8⟩, B8⟩
  have hby7 := hO7.bytes
  have hsame := law01_SameResults (p.bres D s) a7 a8 c7 c8 w8 (hby7.kept B8) (res_bytesD hO8 hby7.lt)
  have h8 := h7.kept B8
  clear h6 h7 hO7 hO8 hby7
  go_wp2_with fail
  refine hsame.mono ?_
  rintro e w9 ⟨rfl, B9⟩
  have h9 := h8.kept B9
  have B91 := bOn (bOn (bOn B62 B7) B8) B9
  clear hsame h8
  go_wp2
  go_ret
  exact (show LooksPost _ _ _ _ _ _ _ _ _ _ _ from ⟨rfl, F1, h9, G1.trans (Grows.below B91)⟩)
def AsksPost (p : Pb) (D : Int) (most : Nat) (sa sb : Nat) (F G : Nat → Prop) (w : World) (e : Ending) (w' : World) : Prop :=
  e = .returned (.bool true) ∧ ∃ s' F' G', PairM w' p D most s' sa sb F' G' ∧ Grows (fun k => F k ∨ G k) (fun k => F' k ∨ G' k) w w'
theorem bAns_form (p : Pb) (D : Int) (most : Nat) (n : Int) (s : Bq) : ∃ (b : Bool) (e : Int), p.bAns D most n s = .tuple #[.bool b, .int .i64 e] := by
  unfold Pb.bAns
  split
  · exact ⟨_, _, rfl⟩
  · exact ⟨_, _, rfl⟩
set_option maxRecDepth 5000 in
set_option maxHeartbeats 1000000 in
theorem law17_asks {w : World} {p : Pb} (hp : p.Ok) (hc : probChk p = 0) {D : Int} (hD : 1 ≤ D) {most : Nat} (hm1 : 1 ≤ most) (hmost : most ≤ 65536) {s : Bq} {sa sb : Nat} {F G : Nat → Prop} (h : PairM w p D most s sa sb F G) (k n : Int) :
    Calls Tryz.prog 11 #[.pointer (some ⟨sa, 0, none⟩), .pointer (some ⟨sb, 0, none⟩), .agg #[.int .i64 k, .int .i64 n]] w (AsksPost p D most sa sb F G w) := by
  obtain ⟨an, er, hA⟩ := bAns_form p D most n s
  have HA := Lib.hid hA
  clear hA
  by_cases hk : k = 1
  · have hk1 : (k == 1) = true := by simp [hk]
    clear hk
    go_enter Tryz.func11, Tryz.ntmps11
    go_upto_region 1 with fail
    refine name1 ?_
    intro w0 b0 B0
    have c0 := b0.cell 0
    have c1 := b0.cell 1
    simp only [List.getElem?_toArray, List.getElem?_cons_zero, List.getElem?_cons_succ] at c0 c1
    have h0 := h.kept B0
    have r1 := h0.prog.run hp hc hm1 n
    rw [HA.out] at r1
    have hbF : ∀ q, F q ∨ G q → q ≠ w.heap.size := fun q hq => by have := hq.elim (h.prog.lt q) (h.doc.lt q); omega
    go_wp2_with fail
    refine r1.mono ?_
    rintro e w1 ⟨rfl, F1, hS1, G1⟩
    obtain ⟨hQ1, hsep⟩ := h0.goProg hS1 G1
    have b1 : Box w1 w.heap.size #[.int .i64 k, .int .i64 n] := G1.1.box b0 fun hq => hbF _ (.inl hq) rfl
    have c1 := b1.cell 1
    simp only [List.getElem?_toArray, List.getElem?_cons_zero, List.getElem?_cons_succ] at c1
    have r2 := hQ1.run hp hc hD hm1 hmost n
    rw [HA.out] at r2
    clear r1 c0 b0
    go_wp2_with fail
    refine r2.mono ?_
    rintro e w2 ⟨rfl, G2, hQ2, GG2⟩
    have hS2 := hS1.turn GG2.1 fun q hq hg => hsep q hq hg
    have hsep2 : ∀ q, F1 q → ¬G2 q := fun q hq hg => (GG2.2 q hg).elim (hsep q hq) fun h1 => by have := hS1.lt q hq; omega
    have h2 : PairM w2 p D most (p.bRun D most n s) sa sb F1 G2 := ⟨hS2, hQ2, hsep2⟩
    have GR : Grows (fun q => F q ∨ G q) (fun q => F1 q ∨ G2 q) w w2 := (Grows.below B0).trans (G1.left.trans GG2.right)
    clear r2 c1 b1 hS1 hQ1 hsep hS2 hQ2 hsep2 hbF G1 GG2 h0
    go_wp2_with fail
    refine (law17_num er w2).mono ?_
    rintro e w3 ⟨rfl, B3⟩
    have r4 := law17_looks hp hc hD hmost (h2.kept B3)
    go_wp2_with fail
    refine r4.mono ?_
    rintro e w4 ⟨rfl, F4, h4, G4⟩
    go_wp2
    go_ret
    exact (show AsksPost _ _ _ _ _ _ _ _ _ _ from ⟨rfl, _, F4, G2, h4, (GR.trans (Grows.below B3)).trans G4.left⟩)
  · have hk1 : (k == 1) = false := by simp [hk]
    clear hk
    go_enter Tryz.func11, Tryz.ntmps11
    go_upto_region 1 with fail
    refine name1 ?_
    intro w0 b0 B0
    have c0 := b0.cell 0
    simp only [List.getElem?_toArray, List.getElem?_cons_zero] at c0
    have h0 := h.kept B0
    have r4 := law17_looks hp hc hD hmost h0
    go_wp2_with fail
    refine r4.mono ?_
    rintro e w4 ⟨rfl, F4, h4, G4⟩
    go_wp2
    go_ret
    exact (show AsksPost _ _ _ _ _ _ _ _ _ _ from ⟨rfl, _, F4, G, h4, (Grows.below B0).trans G4.left⟩)
/-- Both searches, or none. -/
def DuoM (w : World) (p : Pb) (D : Int) (most : Nat) (sv dv : Value) (H : Nat → Prop) : Prop :=
  (sv = .pointer none ∧ dv = .pointer none ∧ ∀ k, ¬H k) ∨ (probChk p = 0 ∧ 1 ≤ D ∧ 1 ≤ most ∧ most ≤ 65536 ∧ ∃ s sa sb F G, sv = .pointer (some ⟨sa, 0, none⟩) ∧ dv = .pointer (some ⟨sb, 0, none⟩) ∧ PairM w p D most s sa sb F G ∧ (∀ k, F k ∨ G k → H k) ∧ ∀ k, H k → F k ∨ G k)
theorem DuoM.lt {w : World} {p : Pb} {D : Int} {most : Nat} {sv dv : Value} {H : Nat → Prop} (h : DuoM w p D most sv dv H) {k : Nat} (hk : H k) : k < w.heap.size := by
  rcases h with ⟨_, _, h1⟩ | ⟨_, _, _, _, s, sa, sb, F, G, _, _, h3, _, h5⟩
  · exact absurd hk (h1 k)
  · exact (h5 k hk).elim (h3.prog.lt k) (h3.doc.lt k)
theorem DuoM.kept {w w' : World} {p : Pb} {D : Int} {most : Nat} {sv dv : Value} {H : Nat → Prop} (h : DuoM w p D most sv dv H) (B : Below w.heap.size w w') : DuoM w' p D most sv dv H :=
  h.imp_right fun ⟨h1, h2, h3, h4, s, sa, sb, F, G, e1, e2, h5, h6, h7⟩ => ⟨h1, h2, h3, h4, s, sa, sb, F, G, e1, e2, h5.kept B, h6, h7⟩
theorem DuoM.turn {w w' : World} {p : Pb} {D : Int} {most : Nat} {sv dv : Value} {H K : Nat → Prop} (h : DuoM w p D most sv dv H) (T : Turn K w w') (hn : ∀ k, H k → ¬K k) : DuoM w' p D most sv dv H :=
  h.imp_right fun ⟨h1, h2, h3, h4, s, sa, sb, F, G, e1, e2, h5, h6, h7⟩ => ⟨h1, h2, h3, h4, s, sa, sb, F, G, e1, e2, h5.turn T fun k hk => hn k (h6 k hk), h6, h7⟩
def DuoPost (p : Pb) (D : Int) (most : Nat) (sv dv : Value) (H : Nat → Prop) (w : World) (e : Ending) (w' : World) : Prop :=
  e = .returned (.bool true) ∧ ∃ H', DuoM w' p D most sv dv H' ∧ Grows H H' w w'
theorem DuoM.asks {w : World} {p : Pb} (hp : p.Ok) {D : Int} {most : Nat} {sv dv : Value} {H : Nat → Prop} (h : DuoM w p D most sv dv H) (k n : Int) :
    Calls Tryz.prog 11 #[sv, dv, .agg #[.int .i64 k, .int .i64 n]] w (DuoPost p D most sv dv H w) := by
  rcases h with ⟨rfl, rfl, hH⟩ | ⟨h1, h2, h3, h4, s, sa, sb, F, G, rfl, rfl, h5, h6, h7⟩
  · refine (law17_nil_asks (.pointer none) k n w (.inl rfl)).mono ?_
    rintro e w' ⟨rfl, B⟩
    exact ⟨rfl, H, .inl ⟨rfl, rfl, hH⟩, Grows.below B⟩
  · refine (law17_asks hp h1 h2 h3 h4 h5 k n).mono ?_
    rintro e w' ⟨rfl, s', F', G', h8, h9⟩
    exact ⟨rfl, fun k => F' k ∨ G' k, .inr ⟨h1, h2, h3, h4, s', sa, sb, F', G', rfl, rfl, h8, fun k hk => hk, fun k hk => hk⟩, h9.1.mono fun k _ hk => h6 k hk, fun k hk => (h9.2 k hk).imp_left (h6 k)⟩
theorem DuoM.looks {w : World} {p : Pb} (hp : p.Ok) {D : Int} {most : Nat} {sv dv : Value} {H : Nat → Prop} (h : DuoM w p D most sv dv H) :
    Calls Tryz.prog 8 #[sv, dv] w (DuoPost p D most sv dv H w) := by
  rcases h with ⟨rfl, rfl, hH⟩ | ⟨h1, h2, h3, h4, s, sa, sb, F, G, rfl, rfl, h5, h6, h7⟩
  · refine (no_looks (.pointer none) w (.inl rfl)).mono ?_
    rintro e w' ⟨rfl, B⟩
    exact ⟨rfl, H, .inl ⟨rfl, rfl, hH⟩, Grows.below B⟩
  · refine (law17_looks hp h1 h2 h4 h5).mono ?_
    rintro e w' ⟨rfl, F', h8, h9⟩
    exact ⟨rfl, fun k => F' k ∨ G k, .inr ⟨h1, h2, h3, h4, s, sa, sb, F', G, rfl, rfl, h8, fun k hk => hk, fun k hk => hk⟩, h9.1.mono fun k _ hk => h6 k (.inl hk), fun k hk => hk.elim (fun h => (h9.2 k h).imp_left fun h => h6 k (.inl h)) fun h => .inl (h6 k (.inr h))⟩
/-! ### Both New -/
def HalfP (w : World) (p : Pb) (cap D : Int) (B U : Nat) (sv : Value) : Prop :=
  (newE p cap D ≠ 0 ∧ sv = .pointer none) ∨ (newE p cap D = 0 ∧ ∃ sa F, sv = .pointer (some ⟨sa, 0, none⟩) ∧ SeM w p D cap.toNat (Bq.start D cap.toNat) sa F ∧ ∀ k, F k → B ≤ k ∧ k < U)
theorem HalfP.kept {w w' : World} {p : Pb} {cap D : Int} {B U : Nat} {sv : Value} (h : HalfP w p cap D B U sv) (hB : Below w.heap.size w w') : HalfP w' p cap D B U sv := h.imp_right fun ⟨h1, sa, F, h2, h3, h4⟩ => ⟨h1, sa, F, h2, h3.kept hB, h4⟩
theorem half_New (p : Pb) (a : Option Addr) (ca : Nat) (cap D : Int) (hp : p.Ok) (w : World) (hw : Bytes w a p.B) :
    Calls Tryz.prog 5 #[.agg (p.cells (.slice a p.B.length ca)), .int .i64 cap, .int .i64 D] w (fun e w' => ∃ sv, e = .returned (.tuple #[sv, .int .i64 (newE p cap D)]) ∧ HalfP w' p cap D w.heap.size w'.heap.size sv ∧ Below w.heap.size w w') := by
  refine (seM_New p a ca cap D hp w hw).mono ?_
  rintro e w' ⟨h, B⟩
  by_cases hz : newE p cap D = 0
  · rw [if_pos hz] at h
    obtain ⟨sb, F, rfl, h1, h2⟩ := h
    exact ⟨_, by rw [hz], .inr ⟨hz, sb, F, rfl, h1, fun k hk => ⟨h2 k hk, h1.lt k hk⟩⟩, B⟩
  · rw [if_neg hz] at h
    exact ⟨_, h, .inl ⟨hz, rfl⟩, B⟩
theorem duo_New (p : Pb) (a : Option Addr) (ca : Nat) (cap D : Int) (hp : p.Ok) (w : World) (hw : Bytes w a p.B) {B U : Nat} {sv : Value} (h : HalfP w p cap D B U sv) (hU : U ≤ w.heap.size) (hBU : B ≤ U) :
    Calls Tryz.prog 6 #[.agg (p.cells (.slice a p.B.length ca)), .int .i64 cap, .int .i64 D] w (fun e w' => ∃ dv, e = .returned (.tuple #[dv, .int .i64 (newE p cap D)]) ∧ (∃ H, DuoM w' p D cap.toNat sv dv H ∧ ∀ k, H k → B ≤ k ∧ (k < U ∨ w.heap.size ≤ k)) ∧ Below w.heap.size w w') := by
  refine (rq_New p a ca cap D hp w hw).mono ?_
  rintro e w' ⟨h', hB⟩
  rcases h with ⟨hz, rfl⟩ | ⟨hz, sa, F, rfl, h1, h2⟩
  · rw [if_neg hz] at h'
    exact ⟨_, h', ⟨fun _ => False, .inl ⟨rfl, rfl, fun _ h => h⟩, fun k hk => hk.elim⟩, hB⟩
  · rw [if_pos hz] at h'
    obtain ⟨sb, G, rfl, h3, h4⟩ := h'
    obtain ⟨hc, c1, c2, d1, d2, _⟩ := newE_zero hz
    refine ⟨_, by rw [hz], ⟨fun k => F k ∨ G k, .inr ⟨hc, d1, by omega, by omega, _, sa, sb, F, G, rfl, rfl, ⟨h1.kept hB, h3, fun k hk hg => by have := h2 k hk; have := h4 k hg; omega⟩, fun k hk => hk, fun k hk => hk⟩, fun k hk => ?_⟩, hB⟩
    rcases hk with hk | hk
    · exact ⟨(h2 k hk).1, .inl (h2 k hk).2⟩
    · have := h4 k hk
      exact ⟨by omega, .inr this⟩
end Go.Proofs.YtnjmplapjnnjdaaGreat
