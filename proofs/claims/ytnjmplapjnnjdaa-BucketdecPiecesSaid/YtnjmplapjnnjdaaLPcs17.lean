/- outpostlaw17.BucketdecPieces: in how many Runs it is done does not matter. -/
import Derived.Test.YtnjmplapjnnjdaaSeSize
import Derived.Test.YtnjmplapjnnjdaaLExact17b
import Derived.Test.YtnjmplapjnnjdaaOpenOps
set_option linter.unusedSimpArgs false
set_option linter.unusedVariables false
set_option linter.unnecessarySimpa false
namespace Go.Proofs.Ytnjmplapjnnjdaa
open Go.RowKit
set_option linter.unusedSimpArgs false
set_option linter.unusedVariables false

theorem tmod5 (x : Int) (x0 : -9223372036854775808 ≤ x) (x1 : x ≤ 9223372036854775807) : 0 ≤ (wrap64 (x.tmod 500000 + 500000)).tmod 500000 ∧ (wrap64 (x.tmod 500000 + 500000)).tmod 500000 ≤ 499999 := by
  have h1 : -500000 < x.tmod 500000 ∧ x.tmod 500000 < 500000 := ⟨by have := Int.tmod_eq_emod (a := x) (b := 500000); split at this <;> omega, Int.tmod_lt_of_pos _ (by decide)⟩
  have h2 : wrap64 (x.tmod 500000 + 500000) = x.tmod 500000 + 500000 := by unfold wrap64; omega
  rw [h2]
  have h3 := Int.tmod_lt_of_pos (x.tmod 500000 + 500000) (b := 500000) (by decide)
  have h4 := Int.tmod_nonneg (a := x.tmod 500000 + 500000) 500000 (by omega)
  omega
theorem neq_ptr17 (a b : Nat) (w : World) : (binOp .eql 46 (.pointer (some ⟨a, 0, none⟩)) (.pointer none)).run Try.prog w = .ok (.bool false) w := by
  go_simp
set_option maxRecDepth 5000 in
set_option maxHeartbeats 1000000 in
theorem law17_Pieces (p : Pb) (a : Option Addr) (ca : Nat) (hp : p.Ok) (cap : Int) (c0 : -9223372036854775808 ≤ cap) (c1 : cap ≤ 9223372036854775807) (D : Int) (D0 : -9223372036854775808 ≤ D) (D1 : D ≤ 9223372036854775807)
    (x : Int) (x0 : -9223372036854775808 ≤ x) (x1 : x ≤ 9223372036854775807) (y : Int) (y0 : -9223372036854775808 ≤ y) (y1 : y ≤ 9223372036854775807) (w : World) (hw : Bytes w a p.B) :
    Pure Try.prog 8 #[.agg (p.cells (.slice a p.B.length ca)), .int .i64 cap, .int .i64 D, .int .i64 x, .int .i64 y] w (.bool true) := by
  obtain ⟨t1, t2⟩ := tmod5 x x0 x1
  obtain ⟨t3, t4⟩ := tmod5 y y0 y1
  go_enter Try.func8, Try.ntmps8
  go_upto_region 1 with fail
  refine name1 ?_
  intro w0 bp B0
  have hw0 := hw.kept B0
  obtain ⟨fk, fr, flev, fl, fwin, fcode, ftable, fall⟩ := bp.prob hp
  clear fk fr flev fl fwin fcode ftable
  go_wp2_with ((with_reducible apply ld); rfl; (with_reducible assumption); (simp only [List.set_cons_zero, List.set_cons_succ]; rfl))
  refine (seM_New p a ca cap D hp _ hw0).mono ?_
  rintro e w1 ⟨hN1, B1⟩
  have hw1 := hw0.kept B1
  have bp1 := bp.kept B1
  have B10 := bOn B0 B1
  clear fall bp
  by_cases hz : newE p cap D = 0
  · rw [if_pos hz] at hN1
    obtain ⟨sb, F, rfl, hS, hge⟩ := hN1
    obtain ⟨hc, m1, m2, d1, d2, _⟩ := newE_zero hz
    have hge : ∀ k, F k → w.heap.size ≤ k := fun k hk => Nat.le_trans B0.size (hge k hk)
    obtain ⟨fk, fr, flev, fl, fwin, fcode, ftable, fall⟩ := bp1.prob hp
    clear fk fr flev fl fwin fcode ftable
    go_wp2_with ((with_reducible apply ld); rfl; (with_reducible assumption); (simp only [List.set_cons_zero, List.set_cons_succ]; rfl))
    refine (seM_New p a ca cap D hp _ hw1).mono ?_
    rintro e w2 ⟨hN2, B2⟩
    rw [if_pos hz] at hN2
    obtain ⟨tb, G, rfl, hT, hgT⟩ := hN2
    have hS2 := hS.kept B2
    have hFG : ∀ k, F k → ¬G k := fun k hk hg => by have := hS.lt k hk; have := hgT k hg; omega
    have hgG : ∀ k, G k → w.heap.size ≤ k := fun k hk => Nat.le_trans B10.size (hgT k hk)
    have B20 := bOn B10 B2
    clear fall hz hS hgT B2 bp1 hw0 hw1
    go_upto_region 3 with fail
    go_wp2_with fail
    refine (law17_num 0 _).mono ?_
    rintro e w3 ⟨rfl, B3⟩
    go_wp2_with fail
    refine (law17_num 0 _).mono ?_
    rintro e w4 ⟨rfl, B4⟩
    go_wp2_with fail
    refine (law17_knows _).mono ?_
    rintro e w5 ⟨rfl, B5⟩
    go_wp2_with fail
    refine (law17_num 0 _).mono ?_
    rintro e w6 ⟨rfl, B6⟩
    have hS6 := (((hS2.kept B3).kept B4).kept B5).kept B6
    have hT6 := (((hT.kept B3).kept B4).kept B5).kept B6
    have B60 := bOn (bOn (bOn (bOn B20 B3) B4) B5) B6
    clear hS2 hT B3 B4 B5 B6 B20
    go_upto_region 9 with fail
    obtain ⟨n1, hn1⟩ : ∃ n, n = (wrap64 (x.tmod 500000 + 500000)).tmod 500000 := ⟨_, rfl⟩
    obtain ⟨n2, hn2⟩ : ∃ n, n = (wrap64 (y.tmod 500000 + 500000)).tmod 500000 := ⟨_, rfl⟩
    rw [← hn1] at t1 t2 ⊢
    rw [← hn2] at t3 t4 ⊢
    clear hn1 hn2
    have hm : 1 ≤ cap.toNat := by omega
    obtain ⟨most, hmost⟩ : ∃ n, n = cap.toNat := ⟨_, rfl⟩
    have hmi : (most : Int) = cap := by omega
    rw [← hmost] at hm hS6 hT6
    have HMI := Lib.hid hmi
    clear hmost hmi m1 m2
    have r1 := hS6.run hp hc hm n1
    simp only [Pb.bRun, Pb.bAns, if_neg (show ¬(n1 < 0 ∨ 1048576 < n1) by omega)] at r1
    go_wp2_with fail
    refine r1.mono ?_
    rintro e w7 ⟨rfl, F7, hS7, T7, G7⟩
    have hT7 := hT6.turn T7 fun k hk hk' => hFG k hk' hk
    have hFG7 : ∀ k, F7 k → ¬G k := fun k hk hg => (G7 k hk).elim (fun h => hFG k h hg) fun h => by have := hT6.lt k hg; omega
    have hge7 : ∀ k, F7 k → w.heap.size ≤ k := fun k hk => (G7 k hk).elim (hge k) fun h => by have := B60.size; omega
    have B70 := B60.trans (T7.below' B60.size fun k _ hk => hge k hk)
    clear r1 hS6 hT6 T7 G7 hFG hge B60
    have r2 := hS7.run hp hc hm n2
    simp only [Pb.bRun, Pb.bAns, if_neg (show ¬(n2 < 0 ∨ 1048576 < n2) by omega)] at r2
    go_wp2_with fail
    refine r2.mono ?_
    rintro e w8 ⟨rfl, F8, hS8, T8, G8⟩
    have hT8 := hT7.turn T8 fun k hk hk' => hFG7 k hk' hk
    have hFG8 : ∀ k, F8 k → ¬G k := fun k hk hg => (G8 k hk).elim (fun h => hFG7 k h hg) fun h => by have := hT7.lt k hg; omega
    have hge8 : ∀ k, F8 k → w.heap.size ≤ k := fun k hk => (G8 k hk).elim (hge7 k) fun h => by have := B70.size; omega
    have B80 := B70.trans (T8.below' B70.size fun k _ hk => hge7 k hk)
    clear r2 hS7 hT7 T8 G8 hFG7 hge7 B70
    have r3 := hT8.run hp hc hm (n1 + n2)
    simp only [Pb.bRun, Pb.bAns, if_neg (show ¬(n1 + n2 < 0 ∨ 1048576 < n1 + n2) by omega)] at r3
    rw [show (n1 + n2).toNat = n1.toNat + n2.toNat by omega, p.brun_add] at r3
    obtain ⟨S, hS_⟩ : ∃ S, S = p.brun D most n2.toNat (p.brun D most n1.toNat (Bq.start D most)) := ⟨_, rfl⟩
    rw [← hS_] at r3 hS8 ⊢
    clear hS_
    obtain ⟨fs, hfs⟩ : ∃ fs, fs = S.found.isSome := ⟨_, rfl⟩
    obtain ⟨tk, fn, hV⟩ : ∃ (tk : Int) (fn : Bool), S.top_ D = .tuple #[.int .i64 tk, .bool fn] := ⟨_, _, rfl⟩
    rw [← hfs] at r3 ⊢
    have HFS := Lib.hid hfs
    have HV := Lib.hid hV
    clear hfs hV
    go_wp2_with fail
    refine r3.mono ?_
    rintro e w9 ⟨rfl, F9, hT9, T9, G9⟩
    have hS9 := hS8.turn T9 fun k hk hk' => hFG8 k hk hk'
    have hFG9 : ∀ k, F8 k → ¬F9 k := fun k hk hg => (G9 k hg).elim (fun h => hFG8 k hk h) fun h => by have := hS8.lt k hk; omega
    have hgG9 : ∀ k, F9 k → w.heap.size ≤ k := fun k hk => (G9 k hk).elim (hgG k) fun h => by have := B80.size; omega
    have B90 := B80.trans (T9.below' B80.size fun k _ hk => hgG k hk)
    clear r3 hS8 hT8 T9 G9 hFG8 hgG B80
    go_wp2_with fail
    refine hS9.mark.mono ?_
    rintro e w10 ⟨rfl, B10'⟩
    go_wp2_with fail
    refine (hT9.kept B10').mark.mono ?_
    rintro e w11 ⟨rfl, B11'⟩
    have hS11 := (hS9.kept B10').kept B11'
    have hT11 := (hT9.kept B10').kept B11'
    have B110 := bOn (bOn B90 B10') B11'
    clear hS9 hT9 B10' B11' B90
    have r4 := hS11.top
    rw [HV.out] at r4
    go_wp2_with fail
    refine r4.mono ?_
    rintro e w12 ⟨rfl, F12, hS12, T12, G12⟩
    have hT12 := hT11.turn T12 fun k hk hk' => hFG9 k hk' hk
    have hFG12 : ∀ k, F12 k → ¬F9 k := fun k hk hg => (G12 k hk).elim (fun h => hFG9 k h hg) fun h => by have := hT11.lt k hg; omega
    have hge12 : ∀ k, F12 k → w.heap.size ≤ k := fun k hk => (G12 k hk).elim (hge8 k) fun h => by have := B110.size; omega
    have B120 := B110.trans (T12.below' B110.size fun k _ hk => hge8 k hk)
    clear r4 hS11 hT11 T12 G12 hFG9 hge8 B110
    have r5 := hT12.top
    rw [HV.out] at r5
    go_wp2_with fail
    refine r5.mono ?_
    rintro e w13 ⟨rfl, F13, hT13, T13, G13⟩
    have hS13 := hS12.turn T13 fun k hk hk' => hFG12 k hk hk'
    have B130 := B120.trans (T13.below' B120.size fun k _ hk => hgG9 k hk)
    clear r5 hS12 hT12 T13 G13 hFG12 hge12 hgG9 B120
    go_wp2_with fail
    refine (law17_num 0 _).mono ?_
    rintro e w14 ⟨rfl, B14⟩
    go_wp2_with fail
    refine (law17_num 0 _).mono ?_
    rintro e w15 ⟨rfl, B15⟩
    have hS15 := (hS13.kept B14).kept B15
    have hT15 := (hT13.kept B14).kept B15
    have B150 := bOn (bOn B130 B14) B15
    clear hS13 hT13 B14 B15 B130
    go_wp2_with fail
    refine hS15.size.mono ?_
    rintro e w16 ⟨rfl, B16⟩
    go_wp2_with fail
    refine (hT15.kept B16).size.mono ?_
    rintro e w17 ⟨rfl, B17⟩
    have hS17 := (hS15.kept B16).kept B17
    have hT17 := (hT15.kept B16).kept B17
    have B170 := bOn (bOn B150 B16) B17
    clear hS15 hT15 B16 B17 B150
    have hok := hS17.ok
    have hl1 : (S.L.length : Int) ≤ cap := by have := hok.len; have := HMI.out; omega
    have hl2 : decide ((S.L.length : Int) ≤ cap) = true := by simpa using hl1
    have hl3 : fs = false → decide (1 ≤ (S.L.length : Int)) = true := fun h => by
      have h2 : S.found.isSome = false := HFS.out.symm.trans h
      have h3 := hok.ne (by cases hf : S.found with | none => rfl | some v => rw [hf] at h2; cases h2)
      simp; omega
    have HL3 := Lib.hid hl3
    clear hl3 hok
    go_wp2_with fail
    refine (hS17.res hc).mono ?_
    rintro e w18 ⟨⟨a8, c8, rfl, hO8⟩, B18⟩
    have hS18 := hS17.kept B18
    have hT18 := hT17.kept B18
    have B180 := bOn B170 B18
    go_wp2_with fail
    refine (hT18.res hc).mono ?_
    rintro e w19 ⟨⟨a9, c9, rfl, hO9⟩, B19⟩
    have hO89 := hO8.kept (w' := w19) fun k hk hl => B19.block k hl
    have hS19 := hS18.kept B19
    have B190 := bOn B180 B19
    clear hT17 hT18 hS17 hS18 hO8 B18 B19 B170 B180
    have hsame := law01_SameResults (p.bres D S) a8 a9 c8 c9 w19 hO89.bytes hO9.bytes
    go_wp2_with fail
    refine hsame.mono ?_
    rintro e w20 ⟨rfl, B20'⟩
    have hS20 := hS19.kept B20'
    have B200 := bOn B190 B20'
    clear hS19 hsame hO89 hO9 B20' B190
    go_wp2_with fail
    refine hS20.size.mono ?_
    rintro e w21 ⟨rfl, B21⟩
    have hS21 := hS20.kept B21
    have B210 := bOn B200 B21
    clear hS20 B200 B21
    cases fs with
    | true =>
      go_wp2
      go_ret
      exact ⟨rfl, B210⟩
    | false =>
      have hl4 := HL3.out rfl
      go_wp2_with fail
      refine hS21.size.mono ?_
      rintro e w22 ⟨rfl, B22⟩
      go_wp2
      go_ret
      exact ⟨rfl, bOn B210 B22⟩
  · rw [if_neg hz] at hN1
    subst hN1
    obtain ⟨fk, fr, flev, fl, fwin, fcode, ftable, fall⟩ := bp1.prob hp
    clear fk fr flev fl fwin fcode ftable
    go_wp2_with ((with_reducible apply ld); rfl; (with_reducible assumption); (simp only [List.set_cons_zero, List.set_cons_succ]; rfl))
    refine (seM_New p a ca cap D hp _ hw1).mono ?_
    rintro e w2 ⟨hN2, B2⟩
    rw [if_neg hz] at hN2
    subst hN2
    obtain ⟨E, hE⟩ : ∃ E, E = newE p cap D := ⟨_, rfl⟩
    rw [← hE] at hz ⊢
    have hz2 : (E != 0) = true := by simpa using hz
    clear hE hz fall
    go_wp2_with fail
    refine (law17_num E _).mono ?_
    rintro e w3 ⟨rfl, B3⟩
    go_wp2_with fail
    refine (law17_num E _).mono ?_
    rintro e w4 ⟨rfl, B4⟩
    go_wp2_with fail
    refine (law17_knows _).mono ?_
    rintro e w5 ⟨rfl, B5⟩
    go_wp2_with fail
    refine (law17_num E _).mono ?_
    rintro e w6 ⟨rfl, B6⟩
    go_wp2
    go_ret
    exact ⟨rfl, bOn (bOn (bOn (bOn (bOn B10 B2) B3) B4) B5) B6⟩
end Go.Proofs.Ytnjmplapjnnjdaa
