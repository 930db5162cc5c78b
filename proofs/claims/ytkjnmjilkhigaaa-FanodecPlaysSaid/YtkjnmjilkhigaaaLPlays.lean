/- outpostlaw18.FanodecPlays: every machine, piece by piece, with all looks. -/
import Derived.Test.YtkjnmjilkhigaaaLooks18
import Derived.Test.YtkjnmjilkhigaaaTreeI
set_option linter.unusedSimpArgs false
set_option linter.unusedVariables false
set_option linter.unnecessarySimpa false
namespace Go.Proofs.Ytkjnmjilkhigaaa
open Go.RowKit

theorem new18_no (p : Pb) (D : Int) (hp : p.Ok) (h : ¬(probChk p = 0 ∧ 1 ≤ D ∧ D ≤ 65536)) : ∃ E : Int, E ≠ 0 ∧ (∀ (a : Option Addr) (cap : Nat) (w : World), Bytes w a p.B →
    Pure Try.prog 27 #[.agg (p.cells (.slice a p.B.length cap)), .int .i64 D] w (.tuple #[.pointer none, .int .i64 E])) ∧ ∀ (a : Option Addr) (cap : Nat) (w : World), Bytes w a p.B →
    Pure Try.prog 28 #[.agg (p.cells (.slice a p.B.length cap)), .int .i64 D] w (.tuple #[.pointer none, .int .i64 E]) := by
  by_cases hc : probChk p = 0
  · exact ⟨140, by decide, fun a cap w hw => fano_New_delta p a cap D (by omega) hp hc w hw, fun a cap w hw => fd_New_delta p a cap D (by omega) hp hc w hw⟩
  · exact ⟨probChk p, hc, fun a cap w hw => fano_New_bad p a cap D hp hc w hw, fun a cap w hw => fd_New_bad p a cap D hp hc w hw⟩
theorem DA.apart_way {B : FA} {A : DA} {g c n : Nat} (h : ∀ k, B.has k → ¬ A.has k) (hn : ∀ k, B.has k → k < n) (hg : g = A.way ∨ n ≤ g) : ∀ k, B.has k → ¬ ({ A with way := g, cap := c } : DA).has k := by
  intro k hk hb
  rcases hb with h1 | h1 | h1 | h1
  · exact h k hk (.inl h1)
  · have h1' : k = g := h1
    rcases hg with hg | hg
    · exact h k hk (.inr (.inl (h1'.trans hg)))
    · have := hn k hk; omega
  · exact h k hk (.inr (.inr (.inl h1)))
  · exact h k hk (.inr (.inr (.inr h1)))
theorem FA.apart_way' {A : FA} {B : DA} {g c n : Nat} (h : ∀ k, A.has k → ¬ B.has k) (hn : ∀ k, B.has k → k < n) (hg : g = A.way ∨ n ≤ g) : ∀ k, ({ A with way := g, cap := c } : FA).has k → ¬ B.has k := by
  intro k hk hb
  rcases hk with h1 | h1 | h1 | h1 | h1 | h1 | h1
  · exact h k (.inl h1) hb
  · have h1' : k = g := h1
    rcases hg with hg | hg
    · exact h k (.inr (.inl (h1'.trans hg))) hb
    · have := hn k hb; omega
  · exact h k (.inr (.inr (.inl h1))) hb
  · exact h k (.inr (.inr (.inr (.inl h1)))) hb
  · exact h k (.inr (.inr (.inr (.inr (.inl h1))))) hb
  · exact h k (.inr (.inr (.inr (.inr (.inr (.inl h1)))))) hb
  · exact h k (.inr (.inr (.inr (.inr (.inr (.inr h1)))))) hb
theorem DA.wr_has {A : DA} {k : Nat} (h : A.wr k) : A.has k := by rcases h with h | h; exact .inl h; exact .inr (.inl h)
/-- Two machines side by side: the program's and the document's. -/
structure Two (u : Hu) (A : FA) (A' : DA) (W : World) (S : Fm) (g c g' c' : Nat) (w : World) : Prop where
  ok : S.Ok u.p u.D
  f : FanoIn w u.p u.D S { A with way := g, cap := c }
  d : FdIn w u.p u.D S { A' with way := g', cap := c' }
  sep : ∀ k, ({ A with way := g, cap := c } : FA).has k → ¬ ({ A' with way := g', cap := c' } : DA).has k
  hg : g = A.way ∨ W.heap.size ≤ g
  hg' : g' = A'.way ∨ W.heap.size ≤ g'
  t : Turn (fun k => A.wr k ∨ A'.wr k) W w
theorem Two.kept {u : Hu} {A : FA} {A' : DA} {W : World} {S : Fm} {g c g' c' : Nat} {w w' : World} (h : Two u A A' W S g c g' c' w) (B : Below w.heap.size w w') : Two u A A' W S g c g' c' w' :=
  ⟨h.ok, h.f.kept B, h.d.kept B, h.sep, h.hg, h.hg', h.t.on B⟩
theorem Two.run {u : Hu} {A : FA} {A' : DA} {W : World} {S S6 : Fm} {g c g' c' : Nat} {w w6 : World} (h : Two u A A' W S g c g' c' w) (hok : S6.Ok u.p u.D) {g6 c6 : Nat} (F6 : FanoIn w6 u.p u.D S6 { A with way := g6, cap := c6 }) (hg6 : g6 = g ∨ w.heap.size ≤ g6) (T6 : Turn ({ A with way := g, cap := c } : FA).wr w w6) :
    FdIn w6 u.p u.D S { A' with way := g', cap := c' } ∧ Turn (fun k => A.wr k ∨ A'.wr k) W w6 ∧ (∀ g7 c7 w7, FdIn w7 u.p u.D S6 { A' with way := g7, cap := c7 } → (g7 = g' ∨ w6.heap.size ≤ g7) → Turn ({ A' with way := g', cap := c' } : DA).wr w6 w7 → Two u A A' W S6 g6 c6 g7 c7 w7) := by
  have hs := h.t.size
  have d6 : FdIn w6 u.p u.D S { A' with way := g', cap := c' } := h.d.turn T6 (fun k hk hh => h.sep k (FA.wr_has hh) hk)
  have sep6 : ∀ k, ({ A with way := g6, cap := c6 } : FA).has k → ¬ ({ A' with way := g', cap := c' } : DA).has k := FA.apart_way' (A := { A with way := g, cap := c }) h.sep (fun k hk => h.d.lt hk) hg6
  have t6 : Turn (fun k => A.wr k ∨ A'.wr k) W w6 := h.t.trans' T6 fun q hq hn hw => by
    rcases hw with hw | hw
    · exact hn (.inl (.inl hw))
    · have hw : q = g := hw
      rcases h.hg with e | e
      · exact hn (.inl (.inr (hw.trans e)))
      · omega
  refine ⟨d6, t6, fun g7 c7 w7 F7 hg7 T7 => ⟨hok, F6.turn T7 (fun k hk hh => sep6 k hk (DA.wr_has hh)), F7, DA.apart_way (A := { A' with way := g', cap := c' }) sep6 (fun k hk => F6.lt hk) hg7, ?_, ?_, t6.trans' T7 fun q hq hn hw => ?_⟩⟩
  · rcases hg6 with e | e
    · rcases h.hg with e' | e'
      · exact .inl (e.trans e')
      · exact .inr (by omega)
    · exact .inr (by omega)
  · have := t6.size
    rcases hg7 with e | e
    · rcases h.hg' with e' | e'
      · exact .inl (e.trans e')
      · exact .inr (by omega)
    · exact .inr (by omega)
  · rcases hw with hw | hw
    · exact hn (.inr (.inl hw))
    · have hw : q = g' := hw
      rcases h.hg' with e | e
      · exact hn (.inr (.inr (hw.trans e)))
      · omega
set_option maxRecDepth 5000 in
set_option maxHeartbeats 1000000 in
theorem law18_PlaysNo (u : Hu) (a ab ap : Option Addr) (c cb cp : Nat) (hu : u.Ok) (hB : u.p.B.length ≤ 140737488351232) (hno : ¬(probChk u.p = 0 ∧ 1 ≤ u.D ∧ u.D ≤ 65536)) (w : World) (hw : u.At w a ab ap) :
    Pure Try.prog 7 #[.agg (u.v a ab ap c cb cp)] w (.bool true) := by
  obtain ⟨E, hE0, hn1, hn2⟩ := new18_no u.p u.D hu.p hno
  clear hno
  have hE0 := Lib.hid hE0
  go_enter Try.func7, Try.ntmps7
  go_upto_region 1 with fail
  refine name1 ?_
  intro w0 b0 B0
  have hw0 := hw.kept B0
  have L0 : loadAgg w0 w.heap.size 0 40 = .ok (.agg (u.p.cells (.slice a u.p.B.length c))) w0 := b0.load (by rw [Hu.v, Hu.size hu.p]; omega) (Hu.prob hu.p _ _ _)
  go_wp2_with ((with_reducible apply ld); rfl; (with_reducible assumption); (simp only [List.set_cons_zero, List.set_cons_succ]; rfl))
  refine (o18_own u.p a c hu.p hB w0 hw0.win).mono ?_
  rintro e w1 ⟨⟨g, cg, rfl, o1⟩, B1⟩
  have bz : Box (w1.alloc (.cells zero32 32)) w1.heap.size zero32 := Box.new _ _ _
  have fl := hu.p.flat (v := .slice (some ⟨g, 0, none⟩) u.p.B.length cg) ⟨fun _ h => (by cases h), fun _ h => (by cases h)⟩
  go_upto_region 2 with (first | ((with_reducible apply ld); rfl; (with_reducible assumption); (simp only [List.set_cons_zero, List.set_cons_succ]; rfl)) | ((with_reducible apply stO); rfl; rfl; exact bz; rfl; exact hu.p.size _; exact fl; intro w2 b2 B2 ho2 hs2))
  have B2' : Below w1.heap.size w1 w2 := ((Below.refl _ _).alloc (Nat.le_refl _) _).trans B2
  have LG1 := Lib.hid (show w0.heap.size ≤ g ∧ g < w1.heap.size from World.ownsRow.lt o1 g rfl)
  have o2 := o1.kept B2'
  have b02 := (b0.kept B1).kept B2'
  have hw2 := (hw0.kept B1).kept B2'
  have B20 := bOn (bOn B0 B1) B2'
  have LW0 := Lib.hid (show w.heap.size < w0.heap.size from b0.lt)
  clear bz B2 ho2 hs2 o1 hw0 b0 L0 B0 B1 B2'
  have L2 := b2.load (off := 0) (n := 40) (by rw [hu.p.size]; decide) (Array.extract_eq_self_of_le (by rw [hu.p.size]; decide))
  have c40 : w2.cell? ⟨w.heap.size, 40, none⟩ = some (.int .i64 u.D) := by rw [b02.cell]; exact Hu.c40 hu.p _ _ _
  go_wp2_with ((with_reducible apply ld); rfl; (with_reducible assumption); (simp only [List.set_cons_zero, List.set_cons_succ]; rfl))
  refine (hn1 (some ⟨g, 0, none⟩) cg w2 (o2.bytes hu.p.b)).mono ?_
  rintro e w3 ⟨rfl, B3⟩
  have b03 := b02.kept B3
  have b3 := b2.kept B3
  have hw3 := hw2.kept B3
  have o3 := o2.kept B3
  have B30 := bOn B20 B3
  clear c40 L2 b02 b2 hw2 o2 B20 B3
  have L3 : loadAgg w3 w.heap.size 0 40 = .ok (.agg (u.p.cells (.slice a u.p.B.length c))) w3 := b03.load (by rw [Hu.v, Hu.size hu.p]; omega) (Hu.prob hu.p _ _ _)
  have c40 : w3.cell? ⟨w.heap.size, 40, none⟩ = some (.int .i64 u.D) := by rw [b03.cell]; exact Hu.c40 hu.p _ _ _
  go_wp2_with ((with_reducible apply ld); rfl; (with_reducible assumption); (simp only [List.set_cons_zero, List.set_cons_succ]; rfl))
  refine (hn2 a c w3 hw3.win).mono ?_
  rintro e w4 ⟨rfl, B4⟩
  have b04 := b03.kept B4
  have b4 := b3.kept B4
  have hw4 := hw3.kept B4
  have o4 := o3.kept B4
  have B40 := bOn B30 B4
  clear c40 L3 b03 b3 hw3 o3 B30 B4
  go_wp2_with fail
  refine (o18_num E w4).mono ?_
  rintro e w5 ⟨rfl, B5⟩
  have b05 := b04.kept B5
  have b5 := b4.kept B5
  have hw5 := hw4.kept B5
  have o5 := o4.kept B5
  have B50 := bOn B40 B5
  have L5 := b5.load (off := 0) (n := 40) (by rw [hu.p.size]; decide) (Array.extract_eq_self_of_le (by rw [hu.p.size]; decide))
  have L6 : loadAgg w5 w.heap.size 0 40 = .ok (.agg (u.p.cells (.slice a u.p.B.length c))) w5 := b05.load (by rw [Hu.v, Hu.size hu.p]; omega) (Hu.prob hu.p _ _ _)
  go_wp2_with (first | ((with_reducible apply ld); rfl; (with_reducible assumption); (simp only [List.set_cons_zero, List.set_cons_succ]; rfl)) | ((with_reducible apply ldG); rfl; rfl; (with_reducible assumption); (simp only [List.set_cons_zero, List.set_cons_succ]; rfl)))
  refine (o18_kept u.p a u.p.B.length cg c g _ hu.p hB w5 hw5.win o5).mono ?_
  rintro e w6 ⟨rfl, B6⟩
  go_wp2_with fail
  refine (o18_live w6).mono ?_
  rintro e w7 ⟨rfl, B7⟩
  go_wp2
  go_ret
  exact ⟨rfl, bOn (bOn B50 B6) B7⟩
set_option maxRecDepth 5000 in
set_option maxHeartbeats 4000000 in
theorem law18_Plays (u : Hu) (a ab ap : Option Addr) (c cb cp : Nat) (hu : u.Ok) (hB : u.p.B.length ≤ 140737488351232) (w : World) (hw : u.At w a ab ap) :
    Pure Try.prog 7 #[.agg (u.v a ab ap c cb cp)] w (.bool true) := by
  by_cases hgood : ¬(probChk u.p = 0 ∧ 1 ≤ u.D ∧ u.D ≤ 65536)
  · exact law18_PlaysNo u a ab ap c cb cp hu hB hgood w hw
  obtain ⟨hc, hD1, hD2⟩ := Decidable.not_not.1 hgood
  clear hgood
  go_enter Try.func7, Try.ntmps7
  go_upto_region 1 with fail
  refine name1 ?_
  intro w0 b0 B0
  have hw0 := hw.kept B0
  have L0 : loadAgg w0 w.heap.size 0 40 = .ok (.agg (u.p.cells (.slice a u.p.B.length c))) w0 := b0.load (by rw [Hu.v, Hu.size hu.p]; omega) (Hu.prob hu.p _ _ _)
  go_wp2_with ((with_reducible apply ld); rfl; (with_reducible assumption); (simp only [List.set_cons_zero, List.set_cons_succ]; rfl))
  refine (o18_own u.p a c hu.p hB w0 hw0.win).mono ?_
  rintro e w1 ⟨⟨g, cg, rfl, o1⟩, B1⟩
  have bz : Box (w1.alloc (.cells zero32 32)) w1.heap.size zero32 := Box.new _ _ _
  have fl := hu.p.flat (v := .slice (some ⟨g, 0, none⟩) u.p.B.length cg) ⟨fun _ h => (by cases h), fun _ h => (by cases h)⟩
  go_upto_region 2 with (first | ((with_reducible apply ld); rfl; (with_reducible assumption); (simp only [List.set_cons_zero, List.set_cons_succ]; rfl)) | ((with_reducible apply stO); rfl; rfl; exact bz; rfl; exact hu.p.size _; exact fl; intro w2 b2 B2 ho2 hs2))
  have B2' : Below w1.heap.size w1 w2 := ((Below.refl _ _).alloc (Nat.le_refl _) _).trans B2
  have LG1 := Lib.hid (show w0.heap.size ≤ g ∧ g < w1.heap.size from World.ownsRow.lt o1 g rfl)
  have o2 := o1.kept B2'
  have b02 := (b0.kept B1).kept B2'
  have hw2 := (hw0.kept B1).kept B2'
  have B20 := bOn (bOn B0 B1) B2'
  have LW0 := Lib.hid (show w.heap.size < w0.heap.size from b0.lt)
  clear bz B2 ho2 hs2 o1 hw0 b0 L0 B0 B1 B2'
  have L2 := b2.load (off := 0) (n := 40) (by rw [hu.p.size]; decide) (Array.extract_eq_self_of_le (by rw [hu.p.size]; decide))
  have c40 : w2.cell? ⟨w.heap.size, 40, none⟩ = some (.int .i64 u.D) := by rw [b02.cell]; exact Hu.c40 hu.p _ _ _
  go_wp2_with ((with_reducible apply ld); rfl; (with_reducible assumption); (simp only [List.set_cons_zero, List.set_cons_succ]; rfl))
  refine (fano_New u.p (some ⟨g, 0, none⟩) cg u.D hD1 hD2 hu.p hc w2 (o2.bytes hu.p.b)).mono ?_
  rintro e w3 ⟨⟨A, rfl, F3, hA⟩, B3⟩
  have b03 := b02.kept B3
  have b3 := b2.kept B3
  have hw3 := hw2.kept B3
  have o3 := o2.kept B3
  have B30 := bOn B20 B3
  have lg2 : w.heap.size < g ∧ g < w2.heap.size := by
    have h1 := World.ownsRow.lt o2 g rfl
    have := LG1.out
    have := LW0.out
    omega
  have lb2 : w1.heap.size < w2.heap.size := b2.lt
  have lw2 : w.heap.size < w2.heap.size := b02.lt
  have S23 := Lib.hid (show w2.heap.size ≤ w3.heap.size from B3.size)
  clear c40 L2 b02 b2 hw2 o2 B20 B3
  have L3 : loadAgg w3 w.heap.size 0 40 = .ok (.agg (u.p.cells (.slice a u.p.B.length c))) w3 := b03.load (by rw [Hu.v, Hu.size hu.p]; omega) (Hu.prob hu.p _ _ _)
  have c40 : w3.cell? ⟨w.heap.size, 40, none⟩ = some (.int .i64 u.D) := by rw [b03.cell]; exact Hu.c40 hu.p _ _ _
  go_wp2_with ((with_reducible apply ld); rfl; (with_reducible assumption); (simp only [List.set_cons_zero, List.set_cons_succ]; rfl))
  refine (fd_New u.p a c u.D hD1 hD2 hu.p hc w3 hw3.win).mono ?_
  rintro e w4 ⟨⟨A', rfl, F4', hA'⟩, B4⟩
  have F4 := F3.kept B4
  have hA3 : ∀ k, A.has k → k < w3.heap.size := fun k hk => F3.lt hk
  have b04 := b03.kept B4
  have b4 := b3.kept B4
  have hw4 := hw3.kept B4
  have o4 := o3.kept B4
  have B40 := bOn B30 B4
  clear c40 L3 b03 b3 hw3 o3 B30 B4 F3
  go_wp2_with fail
  refine (o18_num 0 w4).mono ?_
  rintro e w5 ⟨rfl, B5⟩
  have b05 := b04.kept B5
  have b5 := b4.kept B5
  have hw5 := hw4.kept B5
  have o5 := o4.kept B5
  have F5 := F4.kept B5
  have F5' := F4'.kept B5
  have B50 := bOn B40 B5
  clear b04 b4 hw4 o4 F4 F4' B5 B40
  have L5 := b5.load (off := 0) (n := 40) (by rw [hu.p.size]; decide) (Array.extract_eq_self_of_le (by rw [hu.p.size]; decide))
  have L6 : loadAgg w5 w.heap.size 0 40 = .ok (.agg (u.p.cells (.slice a u.p.B.length c))) w5 := b05.load (by rw [Hu.v, Hu.size hu.p]; omega) (Hu.prob hu.p _ _ _)
  go_wp2_with (first | ((with_reducible apply ld); rfl; (with_reducible assumption); (simp only [List.set_cons_zero, List.set_cons_succ]; rfl)) | ((with_reducible apply ldG); rfl; rfl; (with_reducible assumption); (simp only [List.set_cons_zero, List.set_cons_succ]; rfl)))
  refine (o18_kept u.p a u.p.B.length cg c g _ hu.p hB w5 hw5.win o5).mono ?_
  rintro e w6 ⟨rfl, B6⟩
  have b06 := b05.kept B6
  have b6 := b5.kept B6
  have o6 := o5.kept B6
  have F6 := F5.kept B6
  have F6' := F5'.kept B6
  have B60 := bOn B50 B6
  clear b05 b5 hw5 o5 F5 F5' B6 B50 L5 L6
  go_wp2_with fail
  refine (o18_live w6).mono ?_
  rintro e w7 ⟨rfl, B7⟩
  have b07 := b06.kept B7
  have b7 := b6.kept B7
  have o7 := o6.kept B7
  have F7 := F6.kept B7
  have F7' := F6'.kept B7
  have B70 := bOn B60 B7
  have hwl : u.p.B.length ≤ 140737488351232 := hB
  have hB63 : (u.p.B.length : Int) ≤ 9223372036854775807 := by omega
  have hl3 : ∀ k, A'.has k → w3.heap.size ≤ k := hA'
  have l23 := LW0.out
  have l24 := LG1.out
  have s23 := S23.out
  clear b06 b6 o6 F6 F6' B7 B60
  have HA := Lib.hid hA
  have HA3 := Lib.hid hA3
  have HA' := Lib.hid hl3
  clear hA hA3 hl3 hA'
  go_wp2_with fail
  go_loopw [8] (fun i wr => ∃ k : Nat, k ≤ u.p.B.length ∧ i = .int .i64 k ∧ (∃ xs, wr.ownsRow 0 5 1 (.slice (some ⟨g, 0, none⟩) (u.p.B.length + 2) cg) (u.p.B.length + 2) xs) ∧ But g w7 wr) (fun i _ => u.p.B.length - (intOf i).toNat)
  case atStart => exact ⟨0, Nat.zero_le _, rfl, ⟨_, owns_zero o7⟩, But.refl _ _⟩
  case round =>
    obtain ⟨k, hk, rfl, ⟨xs, hr⟩, hN⟩ := hrel
    have br := hN.box b7 (by omega)
    have c39 : wr.cell? ⟨w1.heap.size, 39, none⟩ = some (.slice (some ⟨g, 0, none⟩) u.p.B.length cg) := (br.cell 39).trans (hu.p.cell39 _)
    by_cases hkl : k < u.p.B.length
    · obtain ⟨k1, k2⟩ := ap_lt hkl
      have hb1 := ap_bd hkl hB63
      obtain ⟨x, hx⟩ := owns_at hr (i := k) (by omega)
      have e1 := ownsN_cell hr hx
      have e2 := hr.frozenAt k
      have hn := ownsN_set hr k (.int .u8 250)
      have hN2 := hN.trans (But.setCell wr ⟨g, k, none⟩ (.int .u8 250))
      clear hx
      go_wp2
      go_roundw
      case measure => first | exact ap_meas' hkl | exact ap_meas hkl hb1
      case rel => exact ⟨k + 1, hkl, (by first | rfl | exact congrArg (Value.int .i64) (ap_succ hb1)), ⟨_, hn⟩, hN2⟩
    · obtain rfl := ap_end hkl hk
      have k3 : decide ((u.p.B.length : Int) < (u.p.B.length : Int)) = false := by simp
      have b0r := hN.box b07 (by omega)
      have Fr : FanoIn wr u.p u.D Fm.start A := F7.same hN.size (fun k hk => hN.block k (F7.lt hk) (by have := HA.out k hk; omega))
      have Fr' : FdIn wr u.p u.D Fm.start A' := F7'.same hN.size (fun k hk => hN.block k (F7'.lt hk) (by have := HA'.out k hk; omega))
      have BN : Below w.heap.size w wr := B70.trans (hN.below w.heap.size (by omega) B70.size)
      obtain ⟨wS, hwS⟩ : ∃ W, W = wr := ⟨_, rfl⟩
      rw [← hwS] at Fr Fr' BN b0r
      have h2 : Two u A A' wS Fm.start A.way A.cap A'.way A'.cap wr := hwS ▸ ⟨Fm.Ok.start hc hD1, Fr, Fr', fun k hk hk' => by have h1 := HA3.out k hk; have h2 := HA'.out k hk'; omega, .inl rfl, .inl rfl, Turn.refl _ _⟩
      have hA0 : ∀ k, A.wr k ∨ A'.wr k → w.heap.size < k := fun k hk => by
        rcases hk with h | h
        · have := HA.out k (FA.wr_has h); omega
        · have := HA'.out k (DA.wr_has h); omega
      have HA0 := Lib.hid hA0
      clear Fr Fr' hA0 HA HA3 HA' hwS hr br
      go_wp2_with fail
      clear c39
      go_loopw [9] (fun i wr => ∃ k : Nat, k ≤ u.bs.length ∧ i = .int .i64 k ∧ ∃ S g c g' c', Two u A A' wS S g c g' c' wr) (fun i _ => u.bs.length - (intOf i).toNat)
      case atStart => exact ⟨0, Nat.zero_le _, rfl, _, _, _, _, _, h2⟩
      case round =>
        clear h2 hN b7 b07
        obtain ⟨k, hk, rfl, S, g1, c1, g2, c2, h2⟩ := hrel
        have BR : Below w.heap.size w wr := BN.trans (h2.t.below' BN.size (fun k _ hh => Nat.le_of_lt (HA0.out k hh)))
        have hur := hw.kept BR
        have br := b0r.turn h2.t (fun hh => by have := HA0.out _ hh; omega)
        by_cases hkl : k < u.bs.length
        · obtain ⟨k1, k2⟩ := ap_lt hkl
          have hb1 := ap_bd hkl hu.bl
          obtain ⟨x, hx⟩ : ∃ x, u.bs[k]? = some x := ⟨_, List.getElem?_eq_getElem hkl⟩
          obtain ⟨bb, oo, rfl, cx⟩ := hur.bud.1 k x hx
          have c41 : wr.cell? ⟨w.heap.size, 41, none⟩ = some (.slice (some ⟨bb, oo, none⟩) u.bs.length cb) := by rw [br.cell]; exact Hu.c41 hu.p _ _ _
          have HX := Lib.hid hx
          clear hx
          by_cases hbad : x < 0 ∨ 1048576 < x
          · have hr1 : Pure Try.prog 29 #[.pointer (some ⟨A.mb, 0, none⟩), .int .i64 x] wr (.tuple #[.bool false, .int .i64 1]) := fano_Run_bad u.p hu.p u.D S { A with way := g1, cap := c1 } x hbad wr h2.f
            have hr2 : ∀ W, Pure Try.prog 30 #[.pointer (some ⟨A'.mb, 0, none⟩), .int .i64 x] W (.tuple #[.bool false, .int .i64 1]) := fun W => fd_Run_bad _ x hbad W
            clear hbad
            go_wp2_with fail
            refine hr1.mono ?_
            rintro e w8 ⟨rfl, B8⟩
            have e41 : w8.cell? ⟨w.heap.size, 41, none⟩ = some (.slice (some ⟨bb, oo, none⟩) u.bs.length cb) := (B8.cell (lt_of_cell c41)).trans c41
            have ex : w8.cell? ⟨bb, oo + k, none⟩ = some (.int .i64 x) := (B8.cell (lt_of_cell cx)).trans cx
            have h8 := h2.kept B8
            clear c41 cx h2 hr1
            go_wp2_with fail
            refine (hr2 w8).mono ?_
            rintro e w9 ⟨rfl, B9⟩
            have h9 := h8.kept B9
            clear hr2 e41 ex h8
            go_wp2_with fail
            refine (o18_num 1 w9).mono ?_
            rintro e w10 ⟨rfl, B10⟩
            have h10 := h9.kept B10
            go_wp2_with fail
            refine (o18_looks u.p hu.p hc u.D S h10.ok { A with way := g1, cap := c1 } { A' with way := g2, cap := c2 } w10 h10.f h10.d).mono ?_
            rintro e w11 ⟨rfl, B11⟩
            have h11 := h10.kept B11
            go_wp2_with fail
            go_roundw
            case measure => first | exact ap_meas' hkl | exact ap_meas hkl hb1
            case rel => exact ⟨k + 1, hkl, (by first | rfl | exact congrArg (Value.int .i64) (ap_succ hb1)), _, _, _, _, _, h11⟩
          · obtain ⟨y, rfl⟩ : ∃ n : Nat, x = (n : Int) := ⟨x.toNat, by omega⟩
            have hy : y ≤ 1048576 := by omega
            have hr1 := fano_Run u.p hu.p hc u.D hD1 hD2 S h2.ok { A with way := g1, cap := c1 } y hy wr h2.f
            have hok6 := h2.ok.run hc hD1 y
            have hr2 : ∀ W, FdIn W u.p u.D S { A' with way := g2, cap := c2 } → Calls Try.prog 30 #[.pointer (some ⟨A'.mb, 0, none⟩), .int .i64 y] W (FdRunPost u.p u.D (u.p.frun u.D y S) { A' with way := g2, cap := c2 } W) := fun W hW => fd_Run u.p hu.p hc u.D hD1 hD2 S h2.ok { A' with way := g2, cap := c2 } y hy W hW
            obtain ⟨S6, hS6⟩ : ∃ S6, S6 = u.p.frun u.D y S := ⟨_, rfl⟩
            rw [← hS6] at hr1 hok6 hr2
            have hr1 : Calls Try.prog 29 #[.pointer (some ⟨A.mb, 0, none⟩), .int .i64 y] wr (FRunPost u.p u.D S6 { A with way := g1, cap := c1 } wr) := hr1
            clear hbad hS6
            go_wp2_with fail
            refine hr1.mono ?_
            rintro e w8 ⟨rfl, ⟨g8, c8, F8, hg8⟩, T8⟩
            obtain ⟨d8, t8, hnext⟩ := h2.run hok6 F8 hg8 T8
            have B8 : Below w.heap.size w w8 := BN.trans (t8.below' BN.size (fun k _ hh => Nat.le_of_lt (HA0.out k hh)))
            have h8 := hw.kept B8
            have b8 := b0r.turn t8 (fun hh => by have := HA0.out _ hh; omega)
            obtain ⟨bb', oo', hbo', ex⟩ := h8.bud.1 k _ HX.out
            obtain ⟨rfl, rfl⟩ : bb = bb' ∧ oo = oo' := by simpa using hbo'
            have e41 : w8.cell? ⟨w.heap.size, 41, none⟩ = some (.slice (some ⟨bb, oo, none⟩) u.bs.length cb) := by rw [b8.cell]; exact Hu.c41 hu.p _ _ _
            clear c41 cx h2 hr1 hbo' F8 hg8 T8 br hur BR
            go_wp2_with fail
            refine (hr2 w8 d8).mono ?_
            rintro e w9 ⟨rfl, ⟨g9, c9, F9, hg9⟩, T9⟩
            have h9 := hnext g9 c9 w9 F9 hg9 T9
            clear hr2 e41 ex d8 t8 hnext F9 hg9 T9 h8 b8 B8
            go_wp2_with fail
            refine (o18_num 0 w9).mono ?_
            rintro e w10 ⟨rfl, B10⟩
            have h10 := h9.kept B10
            go_wp2_with fail
            refine (o18_looks u.p hu.p hc u.D S6 h10.ok { A with way := g8, cap := c8 } { A' with way := g9, cap := c9 } w10 h10.f h10.d).mono ?_
            rintro e w11 ⟨rfl, B11⟩
            have h11 := h10.kept B11
            go_wp2_with fail
            go_roundw
            case measure => first | exact ap_meas' hkl | exact ap_meas hkl hb1
            case rel => exact ⟨k + 1, hkl, (by first | rfl | exact congrArg (Value.int .i64) (ap_succ hb1)), _, _, _, _, _, h11⟩
        · obtain rfl := ap_end hkl hk
          have k3 : decide ((u.bs.length : Int) < (u.bs.length : Int)) = false := by simp
          have c41 : wr.cell? ⟨w.heap.size, 41, none⟩ = some (.slice ab u.bs.length cb) := by rw [br.cell]; exact Hu.c41 hu.p _ _ _
          go_wp2_with fail
          refine (o18_looks u.p hu.p hc u.D S h2.ok { A with way := g1, cap := c1 } { A' with way := g2, cap := c2 } wr h2.f h2.d).mono ?_
          rintro e w11 ⟨rfl, B11⟩
          go_wp2
          go_ret
          exact ⟨rfl, bOn BR B11⟩
end Go.Proofs.Ytkjnmjilkhigaaa
