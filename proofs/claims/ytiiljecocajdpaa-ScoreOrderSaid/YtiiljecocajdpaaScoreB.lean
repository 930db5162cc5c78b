/- The walks of the document's check of a problem. -/
import Derived.Test.YtiiljecocajdpaaScore
namespace Go.Proofs.Ytiiljecocajdpaa
open Go.RowKit

set_option maxRecDepth 5000 in
set_option maxHeartbeats 1000000 in
theorem ref11_Check (p : Pb) (a : Option Addr) (cap : Nat) (hp : p.Ok) (w : World) (hw : Bytes w a p.B) :
    Pure Try.prog 30 #[.agg (p.cells (.slice a p.B.length cap))] w (.int .i64 (probChk p)) := by
  have hb := Box.new w (p.cells (.slice a p.B.length cap)) 32
  obtain ⟨fk, fr, flev, fl, fwin, fcode, ftable, fall⟩ := hb.prob hp
  have HB := Lib.hid hb; clear hb
  go_enter Try.func30, Try.ntmps30
  go_wp2_with ((with_reducible apply ld); rfl; (with_reducible assumption); (simp only [List.set_cons_zero, List.set_cons_succ]; rfl))
  refine (ref05_Check p.C hp.c _).mono ?_
  rintro e w1 ⟨rfl, B1⟩
  clear fk fr flev fl fwin fcode ftable fall
  have B10 : Below w.heap.size w w1 := ((Below.refl _ w).alloc (Nat.le_refl _) _).trans (B1.mono (by simp))
  have hb1 := HB.out.kept B1
  obtain ⟨fk, fr, flev, fl, fwin, fcode, ftable, fall⟩ := hb1.prob hp
  have HB1 := Lib.hid hb1; clear hb1
  by_cases hc : codeChk p.C = 0
  · have hcb : (codeChk p.C != 0) = false := by simp [hc]
    obtain ⟨ck1, ck2, cr⟩ := codeChk_ok hc
    have HC := Lib.hid hc; clear hc
    go_wp2_with ((with_reducible apply ld); rfl; (with_reducible assumption); (simp only [List.set_cons_zero, List.set_cons_succ]; rfl))
    refine (ref10_Check p.T hp.t _).mono ?_
    rintro e w2 ⟨rfl, B2⟩
    clear fk fr flev fl fwin fcode ftable fall
    have hb2 := HB1.out.kept B2
    have B20 := B10.trans (B2.mono B10.size)
    obtain ⟨fk, fr, flev, fl, fwin, fcode, ftable, fall⟩ := hb2.prob hp
    have HB2 := Lib.hid hb2; clear hb2
    by_cases ht : tabChk p.T = 0
    · have htb : (tabChk p.T != 0) = false := by simp [ht]
      obtain ⟨lv1, lv2⟩ := tabChk_ok ht
      have hbd := probChk_r HC.out ht
      clear ht
      by_cases l1 : p.L < 1
      · have hx : p.badLen = true := by simp [Pb.badLen, l1]
        rw [hx, if_pos rfl] at hbd
        have HH := Lib.hid hbd; clear hbd hx cr
        go_wp2
        go_ret
        exact ⟨ret_int HH.out.symm, B20⟩
      by_cases l2 : 1024 < p.L
      · have hx : p.badLen = true := by simp [Pb.badLen, l2]
        rw [hx, if_pos rfl] at hbd
        have HH := Lib.hid hbd; clear hbd hx cr
        go_wp2
        go_ret
        exact ⟨ret_int HH.out.symm, B20⟩
      have hx : p.badLen = false := by simp [Pb.badLen]; omega
      rw [hx, if_neg (by simp)] at hbd
      have HD := Lib.hid hbd; clear hbd hx
      have hmul := mul_N (by omega) (by omega) ck1 ck2 cr
      have CR := Lib.hid cr; clear cr
      go_wp2
      refine wp_region_kept (by kernel_rfl) (by kernel_rfl) ?_
      have q0 := KeptW.cell fk
      have q1 := KeptW.cell fr
      have q39 := KeptW.cell fwin
      repeat first
        | ((with_reducible apply q_ld); rfl; (with_reducible assumption); (simp only [List.set_cons_zero, List.set_cons_succ]; rfl))
        | go_big_quiet_step (exact Calls.kept (ref11_N p _ hp (by omega) (by omega) ck1 ck2 _))
      refine wpQuiet_nil ?_
      intro w3 B3
      clear q0 q1 q39 fk fr flev fl fwin fcode ftable fall
      have hb3 := HB2.out.kept B3
      have B30 := B20.trans (B3.mono B20.size)
      obtain ⟨fk, fr, flev, fl, fwin, fcode, ftable, fall⟩ := hb3.prob hp
      have HB3 := Lib.hid hb3; clear hb3
      cases hbw : p.badWin
      · have hbw' : ((p.B.length : Int) != p.N * p.C.R) = false := hbw
        have hbd := HD.out
        rw [hbw, if_neg (by simp)] at hbd
        have HD2 := Lib.hid hbd; clear hbd hbw HD
        go_wp2_with fail
        go_loopw [4] (fun i wr => (∃ k : Nat, k ≤ p.B.length ∧ i = .int .i64 k ∧ Hid ((p.B.take k).any p.badLevel = false)) ∧ Below w3.heap.size w3 wr) (fun i _ => p.B.length - (intOf i).toNat)
        case atStart => exact ⟨⟨0, by omega, rfl, rfl⟩, Below.refl _ _⟩
        case round =>
          obtain ⟨⟨k, hk, rfl, HY⟩, HW⟩ := hrel
          clear fk fr flev fl fwin fcode ftable fall
          have hb4 := HB3.out.kept HW
          obtain ⟨fk, fr, flev, fl, fwin, fcode, ftable, fall⟩ := hb4.prob hp
          clear hb4
          have B4 := B30.trans (HW.mono B30.size)
          by_cases hkl : k < p.B.length
          · obtain ⟨b, o, rfl, hcell⟩ := (hw.below B4 (Nat.le_refl _)).cell k hkl
            have hk3 : decide ((k : Int) < (p.B.length : Int)) = true := by simp; omega
            have hn := hp.n
            have hx0 := hp.b _ (List.getElem_mem hkl)
            have hkk : (k : Int) < (p.B.length : Int) := by omega
            cases hbl : p.badLevel p.B[k]
            · have h2 : Hid ((p.B.take (k + 1)).any p.badLevel = false) := any_take_hid hkl HY.out hbl
              have hge : decide ((p.B[k] : Int) ≥ p.T.lev) = false := hbl
              clear hbl
              go_wp2
              refine wp_region_kept (by kernel_rfl) (by kernel_rfl) ?_
              have q0 := KeptW.cell fwin
              have q1 := KeptW.cell flev
              have q2 := KeptW.cell hcell
              clear fwin flev hcell
              repeat first
                | ((with_reducible apply q_ld); rfl; (with_reducible assumption); (simp only [List.set_cons_zero, List.set_cons_succ]; rfl))
                | go_big_quiet_step (fail)
              refine wpQuiet_nil ?_
              intro w4 B5
              go_wp2
              go_roundw
              case measure => simp only [intOf]; omega
              case rel => exact ⟨⟨k + 1, by omega, by go_num, h2⟩, HW.trans (B5.mono HW.size)⟩
            · have hge : decide ((p.B[k] : Int) ≥ p.T.lev) = true := hbl
              have HX : probChk p = 91 := by rw [HD2.out, any_get hkl hbl]; rfl
              have HH := Lib.hid HX; clear HX hbl
              go_wp2
              refine wp_region_kept (by kernel_rfl) (by kernel_rfl) ?_
              have q0 := KeptW.cell fwin
              have q1 := KeptW.cell flev
              have q2 := KeptW.cell hcell
              clear fwin flev hcell
              repeat first
                | ((with_reducible apply q_ld); rfl; (with_reducible assumption); (simp only [List.set_cons_zero, List.set_cons_succ]; rfl))
                | go_big_quiet_step (fail)
              refine wpQuiet_nil ?_
              intro w4 B5
              go_wp2
              go_ret
              exact ⟨ret_int HH.out.symm, B4.trans (B5.mono B4.size)⟩
          · have HX : probChk p = 0 := by
              have hy := HY.out
              rw [List.take_of_length_le (by omega)] at hy
              rw [HD2.out, hy]; rfl
            have HH := Lib.hid HX; clear HX
            go_wp2
            go_ret
            exact ⟨ret_int HH.out.symm, B4⟩
      · have hbw' : ((p.B.length : Int) != p.N * p.C.R) = true := hbw
        have hbd := HD.out
        rw [hbw, if_pos rfl] at hbd
        have HH := Lib.hid hbd; clear hbd hbw HD
        go_wp2
        go_ret
        exact ⟨ret_int HH.out.symm, B30⟩
    · have htb : (tabChk p.T != 0) = true := by simp [ht]
      have HH := Lib.hid (probChk_t HC.out ht); clear ht cr
      go_wp2
      go_ret
      exact ⟨ret_int HH.out.symm, B20⟩
  · have hcb : (codeChk p.C != 0) = true := by simp [hc]
    have HH := Lib.hid (probChk_c hc); clear hc
    go_wp2
    go_ret
    exact ⟨ret_int HH.out.symm, B10⟩
theorem ref11_Steps (p : Pb) (a : Option Addr) (cap : Nat) (hp : p.Ok) (w : World) (hw : Bytes w a p.B) :
    Pure Try.prog 27 #[.agg (p.cells (.slice a p.B.length cap))] w (.tuple #[.int .i64 p.steps, .int .i64 (probChk p)]) := by
  have hb := Box.new w (p.cells (.slice a p.B.length cap)) 32
  obtain ⟨fk, fr, flev, fl, fwin, fcode, ftable, fall⟩ := hb.prob hp
  have HB := Lib.hid hb; clear hb
  go_enter Try.func27, Try.ntmps27
  go_wp2_with ((with_reducible apply ld); rfl; (with_reducible assumption); (simp only [List.set_cons_zero, List.set_cons_succ]; rfl))
  refine (ref11_Check p a cap hp _ (hw.below ((Below.refl _ _).alloc (Nat.le_refl _) _) (Nat.le_refl _))).mono ?_
  rintro e w1 ⟨rfl, B1⟩
  clear fk fr flev fl fwin fcode ftable fall
  have B10 : Below w.heap.size w w1 := ((Below.refl _ w).alloc (Nat.le_refl _) _).trans (B1.mono (by simp))
  have hb1 := HB.out.kept B1
  obtain ⟨fk, fr, flev, fl, fwin, fcode, ftable, fall⟩ := hb1.prob hp
  clear hb1
  cases hc : probChk p != 0
  · obtain ⟨hs, ck, l1, l2⟩ := steps_ok hc
    have HS := Lib.hid hs; clear hs
    go_wp2_with ((with_reducible apply ld); rfl; (with_reducible assumption); (simp only [List.set_cons_zero, List.set_cons_succ]; rfl))
    refine (ref11_N p _ hp l1 l2 ck.1 ck.2 _).mono ?_
    rintro e w2 ⟨rfl, B2⟩
    go_wp2
    go_ret2
    refine ⟨?_, B10.trans (B2.mono B10.size)⟩
    rw [HS.out.1, HS.out.2]; rfl
  · have HS := Lib.hid (steps_bad hc)
    go_wp2
    go_ret2
    refine ⟨?_, B10⟩
    rw [HS.out]; rfl

end Go.Proofs.Ytiiljecocajdpaa
