/- outpostlaw18.FanodecGreatest: the greatest dip, in steps of delta. -/
import Derived.Test.YtkjnmjilkhigaaaStart
set_option linter.unusedSimpArgs false
set_option linter.unusedVariables false
set_option linter.unnecessarySimpa false
namespace Go.Proofs.Ytkjnmjilkhigaaa
open Go.RowKit

theorem Pb.dip_bd {p : Pb} (bs : List Nat) : -12963840 ≤ p.dip bs ∧ p.dip bs ≤ 0 := by
  unfold Pb.dip
  split
  · exact ⟨by decide, Int.le_refl _⟩
  · rename_i hc
    have h0 : p.pathChk bs = 0 := by simpa using hc
    have h := (Pb.pathChk_ok h0).1
    refine ⟨?_, (p.pm_dip bs).1⟩
    rw [p.pm_nd]
    refine foldl_min_ge (by decide) fun x hx => ?_
    obtain ⟨i, _, rfl⟩ := List.mem_map.1 hx
    have := (p.nd_bd h bs i).1
    omega
theorem Fm.great {p : Pb} (hc : probChk p = 0) {D : Int} (hD : 1 ≤ D) {S : Fm} (hs : S.Ok p D) (hg : S.Deep p D) (hd : S.done = true) {bs : List Nat} (hb : p.pathChk bs = 0) : p.dip bs / D ≤ p.fdip S / D := by
  obtain ⟨k, hk⟩ := hs.lmul
  have h1 := hg.path hc (Pb.pathChk_ok hb).2
  have h2 := hs.dip_ge hc hd
  have e : p.dip bs = dipOf (p.pm bs) := by unfold Pb.dip; rw [if_neg (by simp [hb])]
  rw [e]
  rw [hk] at h1 h2
  exact flr_le hD h1 h2
theorem Fm.Ok.dip_eq {p : Pb} (hc : probChk p = 0) {D : Int} {S : Fm} (hs : S.Ok p D) (hd : S.done = true) : p.dip (S.bits.take p.L.toNat) = p.fdip S ∧ p.tot (S.bits.take p.L.toNat) = p.ftot S := by
  have h := hs.chk hc hd
  unfold Pb.dip Pb.tot Pb.fdip Pb.ftot
  simp [h, hd]
set_option maxRecDepth 5000 in
set_option maxHeartbeats 1000000 in
theorem law18_Greatest (u : Hu) (a ab ap : Option Addr) (c cb cp : Nat) (hu : u.Ok) (hB : u.p.B.length ≤ 140737488351232) (w : World) (hw : u.At w a ab ap) :
    Pure Try.prog 4 #[.agg (u.v a ab ap c cb cp)] w (.bool true) := by
  go_enter Try.func4, Try.ntmps4
  go_upto_region 1 with fail
  refine name1 ?_
  intro w0 b0 B0
  have hw0 := hw.kept B0
  have L0 := b0.load (off := 0) (n := 43) (by rw [Hu.v, Hu.size hu.p]; omega) (Array.extract_eq_self_of_le (by rw [Hu.v, Hu.size hu.p]; omega))
  by_cases hgood : probChk u.p = 0 ∧ 1 ≤ u.D ∧ u.D ≤ 65536
  · obtain ⟨hc, hD1, hD2⟩ := hgood
    go_wp2_with ((with_reducible apply ld); rfl; (with_reducible assumption); (simp only [List.set_cons_zero, List.set_cons_succ]; rfl))
    refine (o18_started u a ab ap c cb cp hu hB hc hD1 hD2 w0 hw0).mono ?_
    rintro e w1 ⟨⟨A, rfl, F1, hA⟩, B1⟩
    have b1 := b0.kept B1
    have hw1 := hw0.kept B1
    have B10 := bOn B0 B1
    have hs := Fm.Ok.run hc hD1 (sumB u.bs).toNat (Fm.Ok.start hc hD1)
    have hg := Fm.Deep.run hc hD1 (sumB u.bs).toNat (Fm.Ok.start hc hD1) (Fm.Deep.start u.p hD1)
    obtain ⟨S, hS⟩ : ∃ S, S = u.p.frun u.D (sumB u.bs).toNat Fm.start := ⟨_, rfl⟩
    rw [← hS] at F1 hs hg
    clear hS L0 b0 B0 B1 hw0
    go_wp2_with fail
    refine (fano_Result u.p hu.p hc u.D S hs _ w1 F1).mono ?_
    rintro e w2 ⟨⟨r, k, rfl, o2⟩, B2⟩
    have b2 := b1.kept B2
    have hw2 := hw1.kept B2
    have B20 := bOn B10 B2
    have hbl : ∀ x ∈ (u.p.fres S).bits, x < 256 := by
      intro x hx
      have hx' : x ∈ u.p.fbits S := hx
      unfold Pb.fbits at hx'
      split at hx'
      · rename_i hd
        have := (hs.path hc hd).lt x hx'
        omega
      · cases hx'
    have y2 := res_bytes o2 hbl
    have bz : Box (w2.alloc (.cells #[.bool false, .bool false, .slice none 0 0, .int .i64 0, .int .i64 0, .int .i64 0, .int .i64 0] 35)) w2.heap.size #[.bool false, .bool false, .slice none 0 0, .int .i64 0, .int .i64 0, .int .i64 0, .int .i64 0] := Box.new _ _ _
    clear b1 hw1 B10 o2 F1 hA
    go_upto_region 5 with (first | ((with_reducible apply ld); rfl; (with_reducible assumption); (simp only [List.set_cons_zero, List.set_cons_succ]; rfl)) | ((with_reducible apply stO); rfl; rfl; exact bz; rfl; rfl; exact flatR; intro w3 b3 B3 ho3 hs3))
    have B3' : Below w2.heap.size w2 w3 := ((Below.refl _ _).alloc (Nat.le_refl _) _).trans B3
    have y3 := y2.kept B3'
    have hw3 := hw2.kept B3'
    have bu := b2.kept B3'
    have B30 := bOn B20 B3'
    have d0 := b3.cell 0
    simp only [Rs.cells, List.getElem?_toArray, List.getElem?_cons_zero, List.getElem?_cons_succ] at d0
    clear bz B3 ho3 hs3 y2 hw2 b2 B20 B2 B3'
    cases hd : S.done with
    | false =>
      have d0' : w3.cell? ⟨w2.heap.size, 0, none⟩ = some (.bool false) := by rw [d0]; exact congrArg (fun x => some (Value.bool x)) hd
      clear d0
      go_wp2_with fail
      refine (o18_live w3).mono ?_
      rintro e w4 ⟨rfl, B4⟩
      go_wp2
      go_ret
      exact ⟨rfl, bOn B30 B4⟩
    | true =>
      have d0' : w3.cell? ⟨w2.heap.size, 0, none⟩ = some (.bool true) := by rw [d0]; exact congrArg (fun x => some (Value.bool x)) hd
      have hchk := hs.chk hc hd
      obtain ⟨e1, e2⟩ := hs.dip_eq hc hd
      have ebits : (u.p.fres S).bits = S.bits.take u.p.L.toNat := by show u.p.fbits S = _; unfold Pb.fbits; rw [if_pos hd]
      have hlen : (((u.p.fres S).bits.length : Nat) : Int) ≤ 9223372036854775807 := by
        rw [ebits, (hs.path hc hd).len]
        have := Pb.L_le hc; omega
      have d1 := b3.cell 1
      have d2 := b3.cell 2
      have d3 := b3.cell 3
      have d4 := b3.cell 4
      have dd1 : (u.p.fres S).exact_ = true := hd
      have dd3 : (u.p.fres S).m = u.p.tot (u.p.fres S).bits := by rw [ebits, e2]; rfl
      have dd4 : (u.p.fres S).dip = u.p.dip (u.p.fres S).bits := by rw [ebits, e1]; rfl
      have hchk' : u.p.pathChk (u.p.fres S).bits = 0 := by rw [ebits]; exact hchk
      simp only [Rs.cells, List.getElem?_toArray, List.getElem?_cons_zero, List.getElem?_cons_succ] at d1 d2 d3 d4
      rw [dd1] at d1
      rw [dd3] at d3
      rw [dd4] at d4
      have HG : Hid (∀ bs : List Nat, u.p.pathChk bs = 0 → u.p.dip bs / u.D ≤ u.p.dip (u.p.fres S).bits / u.D) := Lib.hid (fun bs hb => by rw [← dd4]; exact Fm.great hc hD1 hs hg hd hb)
      obtain ⟨R, hR⟩ : ∃ R, R = (u.p.fres S).bits := ⟨_, rfl⟩
      rw [← hR] at d2 d3 d4 hlen y3 HG hchk'
      have ldp : loadAgg w3 w.heap.size 0 40 = .ok (.agg (u.p.cells (.slice a u.p.B.length c))) w3 := bu.load (by rw [Hu.v, Hu.size hu.p]; omega) (Hu.prob hu.p _ _ _)
      have hb := ref11_Both u.p a c hu.p R r k hlen w3 hw3.win y3
      rw [hchk'] at hb
      clear d0 e1 e2 ebits hR hbl hs hg hchk dd1 dd3 dd4 hchk' hd b3
      go_wp2_with ((with_reducible apply ld); rfl; (with_reducible assumption); (simp only [List.set_cons_zero, List.set_cons_succ]; rfl))
      refine hb.mono ?_
      rintro e w4 ⟨rfl, B4⟩
      have g1 : w4.cell? ⟨w2.heap.size, 1, none⟩ = some (.bool true) := KeptW.cell d1 ⟨w4, B4⟩
      have g3 : w4.cell? ⟨w2.heap.size, 3, none⟩ = some (.int .i64 (u.p.tot R)) := KeptW.cell d3 ⟨w4, B4⟩
      have g4 : w4.cell? ⟨w2.heap.size, 4, none⟩ = some (.int .i64 (u.p.dip R)) := KeptW.cell d4 ⟨w4, B4⟩
      have hw4 := hw3.kept B4
      have b4 := bu.kept B4
      have B40 := bOn B30 B4
      have ldp : loadAgg w4 w.heap.size 0 40 = .ok (.agg (u.p.cells (.slice a u.p.B.length c))) w4 := b4.load (by rw [Hu.v, Hu.size hu.p]; omega) (Hu.prob hu.p _ _ _)
      have c42 : w4.cell? ⟨w.heap.size, 42, none⟩ = some (.slice ap u.path.length cp) := by rw [b4.cell]; exact Hu.c42 hu.p _ _ _
      clear d0' d1 d2 d3 d4 hb hw3 bu B30 B4 y3
      go_wp2_with ((with_reducible apply ld); rfl; (with_reducible assumption); (simp only [List.set_cons_zero, List.set_cons_succ]; rfl))
      refine (ref11_Dip u.p a c hu.p u.path ap cp hu.pl w4 hw4.win hw4.path).mono ?_
      rintro e w5 ⟨rfl, B5⟩
      have b5 := b4.kept B5
      have B50 := bOn B40 B5
      have c40 : w5.cell? ⟨w.heap.size, 40, none⟩ = some (.int .i64 u.D) := by rw [b5.cell]; exact Hu.c40 hu.p _ _ _
      clear c42 g1 g3 g4 hw4 b4 B5 B40 ldp
      by_cases hf : u.p.pathChk u.path = 0
      · have hle := HG.out u.path hf
        have x1 := u.p.dip_bd u.path
        have x2 := u.p.dip_bd R
        rw [hf]
        have t1 : decide (u.p.dip u.path / u.D ≤ u.p.dip R / u.D) = true := by simpa using hle
        clear hle
        go_upto_region 11 with fail
        have q40 := KeptW.cell c40
        refine wp_region_kept (by kernel_rfl) (by kernel_rfl) ?_
        repeat first
          | go_big_quiet_skip
          | ((with_reducible apply q_ldG); rfl; rfl; (with_reducible assumption); (simp only [List.set_cons_zero, List.set_cons_succ]; rfl))
          | go_big_quiet_step (first | exact Calls.kept (ref11_Down _ _ hD1 (by omega) (by omega) _) | exact Calls.kept (o18_live _))
        refine wpQuiet_nil ?_
        intro w6 B6
        go_wp2
        go_ret
        exact ⟨rfl, bOn B50 B6⟩
      · have t1 : (u.p.pathChk u.path != 0) = true := by simpa using hf
        go_upto_region 11 with fail
        have q40 := KeptW.cell c40
        refine wp_region_kept (by kernel_rfl) (by kernel_rfl) ?_
        repeat first
          | go_big_quiet_skip
          | ((with_reducible apply q_ldG); rfl; rfl; (with_reducible assumption); (simp only [List.set_cons_zero, List.set_cons_succ]; rfl))
          | go_big_quiet_step (exact Calls.kept (o18_live _))
        refine wpQuiet_nil ?_
        intro w6 B6
        go_wp2
        go_ret
        exact ⟨rfl, bOn B50 B6⟩
  · go_wp2_with ((with_reducible apply ld); rfl; (with_reducible assumption); (simp only [List.set_cons_zero, List.set_cons_succ]; rfl))
    refine (o18_started_no u a ab ap c cb cp hu hgood w0 hw0).mono ?_
    rintro e w1 ⟨rfl, B1⟩
    go_wp2_with fail
    refine (o18_live w1).mono ?_
    rintro e w2 ⟨rfl, B2⟩
    go_wp2
    go_ret
    exact ⟨rfl, bOn (bOn B0 B1) B2⟩
end Go.Proofs.Ytkjnmjilkhigaaa
