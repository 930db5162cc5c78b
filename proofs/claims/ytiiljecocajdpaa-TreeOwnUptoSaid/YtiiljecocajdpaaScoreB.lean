import Derived.Test.YtiiljecocajdpaaCode3
import Derived.Test.YtiiljecocajdpaaMetric2
/- The walks of the checks of a problem: the program's and the document's. -/
namespace Go.Proofs.Ytiiljecocajdpaa
open Go.RowKit

theorem score_steps (p : Pb) (v : Value) (hp : p.Ok) (h1 : 1 ≤ p.L) (h2 : p.L ≤ 1024) (h3 : 3 ≤ p.C.K) (h4 : p.C.K ≤ 32) (w : World) : Pure Try.prog 67 #[.agg (p.cells v)] w (.int .i64 p.N) := by
  obtain ⟨fk, fr, flev, fl, fwin, fcode, ftable, fall⟩ := (Box.new w (p.cells v) 32).prob hp
  go_enter Try.func67, Try.ntmps67
  go_wp2
  go_ret
  exact ⟨rfl, (Below.refl _ _).alloc (Nat.le_refl _) _⟩
theorem ref11_N (p : Pb) (v : Value) (hp : p.Ok) (h1 : 1 ≤ p.L) (h2 : p.L ≤ 1024) (h3 : 3 ≤ p.C.K) (h4 : p.C.K ≤ 32) (w : World) : Pure Try.prog 68 #[.agg (p.cells v)] w (.int .i64 p.N) := by
  obtain ⟨fk, fr, flev, fl, fwin, fcode, ftable, fall⟩ := (Box.new w (p.cells v) 32).prob hp
  go_enter Try.func68, Try.ntmps68
  go_wp2
  go_ret
  exact ⟨rfl, (Below.refl _ _).alloc (Nat.le_refl _) _⟩

theorem probChk_c {p : Pb} (h : codeChk p.C ≠ 0) : probChk p = codeChk p.C := by unfold probChk; rw [if_pos (by simpa using h)]
theorem probChk_t {p : Pb} (h : codeChk p.C = 0) (h2 : tabChk p.T ≠ 0) : probChk p = tabChk p.T := by unfold probChk; rw [if_neg (by simpa using h), if_pos (by simpa using h2)]
theorem probChk_r {p : Pb} (h : codeChk p.C = 0) (h2 : tabChk p.T = 0) : probChk p = if p.badLen then 1 else if p.badWin then 5 else if p.B.any p.badLevel then 91 else 0 := by unfold probChk; rw [if_neg (by simpa using h), if_neg (by simpa using h2)]
theorem mul_N {p : Pb} (h1 : 1 ≤ p.L) (h2 : p.L ≤ 1024) (h3 : 3 ≤ p.C.K) (h4 : p.C.K ≤ 32) (h5 : p.C.R = 2 ∨ p.C.R = 3) : wrap64 (p.N * p.C.R) = p.N * p.C.R := by
  unfold Pb.N wrap64
  rcases h5 with h | h <;> rw [h] <;> omega
theorem any_take_hid {l : List Nat} {p : Nat → Bool} {k : Nat} (h : k < l.length) (h1 : (l.take k).any p = false) (h2 : p l[k] = false) : Hid ((l.take (k + 1)).any p = false) := by
  show _ = _
  rw [any_take_succ h, h1, h2]
  rfl
theorem any_get {l : List Nat} {p : Nat → Bool} {k : Nat} (h : k < l.length) (hp : p l[k] = true) : l.any p = true := List.any_eq_true.2 ⟨_, List.getElem_mem h, hp⟩

/-- The number of steps of a problem that is checked; 0 of another. -/
def Pb.steps (p : Pb) : Int := if probChk p != 0 then 0 else p.N
theorem probChk_ok {p : Pb} (h : probChk p = 0) : (3 ≤ p.C.K ∧ p.C.K ≤ 32) ∧ 1 ≤ p.L ∧ p.L ≤ 1024 ∧ (p.C.R = 2 ∨ p.C.R = 3) ∧ (p.B.length : Int) = p.N * p.C.R ∧ (2 ≤ p.T.lev ∧ p.T.lev ≤ 16) ∧ (∀ x ∈ p.B, (x : Int) < p.T.lev) ∧ codeChk p.C = 0 ∧ tabChk p.T = 0 := by
  by_cases hc : codeChk p.C = 0
  · by_cases ht : tabChk p.T = 0
    · obtain ⟨k1, k2, k3⟩ := codeChk_ok hc
      rw [probChk_r hc ht] at h
      cases h1 : p.badLen
      · rw [h1, if_neg (by simp)] at h
        cases h2 : p.badWin
        · rw [h2, if_neg (by simp)] at h
          cases h3 : p.B.any p.badLevel
          · simp [Pb.badLen] at h1
            simp [Pb.badWin] at h2
            simp [Pb.badLevel] at h3
            exact ⟨⟨k1, k2⟩, by omega, by omega, k3, h2, tabChk_ok ht, fun x hx => by have := h3 x hx; omega, hc, ht⟩
          · rw [h3] at h; simp at h
        · rw [h2] at h; simp at h
      · rw [h1] at h; simp at h
    · rw [probChk_t hc ht] at h; exact absurd h ht
  · rw [probChk_c hc] at h; exact absurd h hc
theorem steps_ok {p : Pb} (h : (probChk p != 0) = false) : (p.steps = p.N ∧ probChk p = 0) ∧ (3 ≤ p.C.K ∧ p.C.K ≤ 32) ∧ 1 ≤ p.L ∧ p.L ≤ 1024 := by
  have h0 : probChk p = 0 := by simpa using h
  obtain ⟨a, b, c, _⟩ := probChk_ok h0
  exact ⟨⟨by unfold Pb.steps; rw [h]; rfl, h0⟩, a, b, c⟩
theorem steps_bad {p : Pb} (h : (probChk p != 0) = true) : p.steps = 0 := by unfold Pb.steps; rw [h]; rfl

set_option maxRecDepth 5000 in
set_option maxHeartbeats 1000000 in
theorem score_Check (p : Pb) (a : Option Addr) (cap : Nat) (hp : p.Ok) (w : World) (hw : Bytes w a p.B) :
    Pure Try.prog 29 #[.agg (p.cells (.slice a p.B.length cap))] w (.int .i64 (probChk p)) := by
  have hb := Box.new w (p.cells (.slice a p.B.length cap)) 32
  obtain ⟨fk, fr, flev, fl, fwin, fcode, ftable, fall⟩ := hb.prob hp
  have HB := Lib.hid hb; clear hb
  go_enter Try.func29, Try.ntmps29
  go_wp2_with ((with_reducible apply ld); rfl; (with_reducible assumption); (simp only [List.set_cons_zero, List.set_cons_succ]; rfl))
  refine (code_Check p.C hp.c _).mono ?_
  rintro e w1 ⟨rfl, B1⟩
  clear fk fr flev fl fwin fcode ftable fall
  have B10 : Below w.heap.size w w1 := ((Below.refl _ w).alloc (Nat.le_refl _) _).trans (B1.mono (by simp))
  have hb1 := HB.out.kept B1
  obtain ⟨fk, fr, flev, fl, fwin, fcode, ftable, fall⟩ := hb1.prob hp
  have HB1 := Lib.hid hb1; clear hb1
  by_cases hc : codeChk p.C = 0
  · have hcb : (codeChk p.C != 0) = false := by simp [hc]
    obtain ⟨ck1, ck2, cr⟩ := codeChk_ok hc
    have HC := Lib.hid hc; clear hc
    go_wp2_with ((with_reducible apply ld); rfl; (with_reducible assumption); (simp only [List.set_cons_zero, List.set_cons_succ]; rfl))
    refine (metric_Check p.T hp.t _).mono ?_
    rintro e w2 ⟨rfl, B2⟩
    clear fk fr flev fl fwin fcode ftable fall
    have hb2 := HB1.out.kept B2
    have B20 := B10.trans (B2.mono B10.size)
    obtain ⟨fk, fr, flev, fl, fwin, fcode, ftable, fall⟩ := hb2.prob hp
    have HB2 := Lib.hid hb2; clear hb2
    by_cases ht : tabChk p.T = 0
    · have htb : (tabChk p.T != 0) = false := by simp [ht]
      obtain ⟨lv1, lv2⟩ := tabChk_ok ht
      have hbd := probChk_r HC.out ht
      clear ht
      by_cases l1 : p.L < 1
      · have hx : p.badLen = true := by simp [Pb.badLen, l1]
        rw [hx, if_pos rfl] at hbd
        have HH := Lib.hid hbd; clear hbd hx cr
        go_wp2
        go_ret
        exact ⟨ret_int HH.out.symm, B20⟩
      by_cases l2 : 1024 < p.L
      · have hx : p.badLen = true := by simp [Pb.badLen, l2]
        rw [hx, if_pos rfl] at hbd
        have HH := Lib.hid hbd; clear hbd hx cr
        go_wp2
        go_ret
        exact ⟨ret_int HH.out.symm, B20⟩
      have hx : p.badLen = false := by simp [Pb.badLen]; omega
      rw [hx, if_neg (by simp)] at hbd
      have HD := Lib.hid hbd; clear hbd hx
      have hmul := mul_N (by omega) (by omega) ck1 ck2 cr
      have CR := Lib.hid cr; clear cr
      go_wp2
      refine wp_region_kept (by kernel_rfl) (by kernel_rfl) ?_
      have q0 := KeptW.cell fk
      have q1 := KeptW.cell fr
      have q39 := KeptW.cell fwin
      repeat first
        | ((with_reducible apply q_ld); rfl; (with_reducible assumption); (simp only [List.set_cons_zero, List.set_cons_succ]; rfl))
        | go_big_quiet_step (exact Calls.kept (score_steps p _ hp (by omega) (by omega) ck1 ck2 _))
      refine wpQuiet_nil ?_
      intro w3 B3
      clear q0 q1 q39 fk fr flev fl fwin fcode ftable fall
      have hb3 := HB2.out.kept B3
      have B30 := B20.trans (B3.mono B20.size)
      obtain ⟨fk, fr, flev, fl, fwin, fcode, ftable, fall⟩ := hb3.prob hp
      have HB3 := Lib.hid hb3; clear hb3
      cases hbw : p.badWin
      · have hbw' : ((p.B.length : Int) != p.N * p.C.R) = false := hbw
        have hbd := HD.out
        rw [hbw, if_neg (by simp)] at hbd
        have HD2 := Lib.hid hbd; clear hbd hbw HD
        go_wp2_with fail
        go_loop [6, 42] (fun _ i => ∃ k : Nat, k ≤ p.B.length ∧ i = .int .i64 k ∧ Hid ((p.B.take k).any p.badLevel = false)) (fun _ i => p.B.length - (intOf i).toNat)
        case atStart => exact ⟨0, by omega, rfl, rfl⟩
        case round =>
          obtain ⟨k, hk, rfl, HY⟩ := hrel
          by_cases hkl : k < p.B.length
          · obtain ⟨b, o, rfl, hcell⟩ := (hw.below B30 (Nat.le_refl _)).cell k hkl
            have hk3 : decide ((k : Int) < (p.B.length : Int)) = true := by simp; omega
            have hn := hp.n
            have hx0 := hp.b _ (List.getElem_mem hkl)
            have hkk : (k : Int) < (p.B.length : Int) := by omega
            cases hbl : p.badLevel p.B[k]
            · have h2 : Hid ((p.B.take (k + 1)).any p.badLevel = false) := any_take_hid hkl HY.out hbl
              have hge : decide ((p.B[k] : Int) ≥ p.T.lev) = false := hbl
              clear hbl
              go_wp2
              go_round
              case measure => simp only [intOf]; omega
              case rel => exact ⟨k + 1, by omega, by go_num, h2⟩
            · have hge : decide ((p.B[k] : Int) ≥ p.T.lev) = true := hbl
              have HX : probChk p = 91 := by rw [HD2.out, any_get hkl hbl]; rfl
              have HH := Lib.hid HX; clear HX hbl
              go_wp2
              go_ret
              exact ⟨ret_int HH.out.symm, B30⟩
          · have HX : probChk p = 0 := by
              have hy := HY.out
              rw [List.take_of_length_le (by omega)] at hy
              rw [HD2.out, hy]; rfl
            have HH := Lib.hid HX; clear HX
            go_wp2
            go_ret
            exact ⟨ret_int HH.out.symm, B30⟩
      · have hbw' : ((p.B.length : Int) != p.N * p.C.R) = true := hbw
        have hbd := HD.out
        rw [hbw, if_pos rfl] at hbd
        have HH := Lib.hid hbd; clear hbd hbw HD
        go_wp2
        go_ret
        exact ⟨ret_int HH.out.symm, B30⟩
    · have htb : (tabChk p.T != 0) = true := by simp [ht]
      have HH := Lib.hid (probChk_t HC.out ht); clear ht cr
      go_wp2
      go_ret
      exact ⟨ret_int HH.out.symm, B20⟩
  · have hcb : (codeChk p.C != 0) = true := by simp [hc]
    have HH := Lib.hid (probChk_c hc); clear hc
    go_wp2
    go_ret
    exact ⟨ret_int HH.out.symm, B10⟩
theorem score_Steps (p : Pb) (a : Option Addr) (cap : Nat) (hp : p.Ok) (w : World) (hw : Bytes w a p.B) :
    Pure Try.prog 26 #[.agg (p.cells (.slice a p.B.length cap))] w (.tuple #[.int .i64 p.steps, .int .i64 (probChk p)]) := by
  have hb := Box.new w (p.cells (.slice a p.B.length cap)) 32
  obtain ⟨fk, fr, flev, fl, fwin, fcode, ftable, fall⟩ := hb.prob hp
  have HB := Lib.hid hb; clear hb
  go_enter Try.func26, Try.ntmps26
  go_wp2_with ((with_reducible apply ld); rfl; (with_reducible assumption); (simp only [List.set_cons_zero, List.set_cons_succ]; rfl))
  refine (score_Check p a cap hp _ (hw.below ((Below.refl _ _).alloc (Nat.le_refl _) _) (Nat.le_refl _))).mono ?_
  rintro e w1 ⟨rfl, B1⟩
  clear fk fr flev fl fwin fcode ftable fall
  have B10 : Below w.heap.size w w1 := ((Below.refl _ w).alloc (Nat.le_refl _) _).trans (B1.mono (by simp))
  have hb1 := HB.out.kept B1
  obtain ⟨fk, fr, flev, fl, fwin, fcode, ftable, fall⟩ := hb1.prob hp
  clear hb1
  cases hc : probChk p != 0
  · obtain ⟨hs, ck, l1, l2⟩ := steps_ok hc
    have HS := Lib.hid hs; clear hs
    go_wp2_with ((with_reducible apply ld); rfl; (with_reducible assumption); (simp only [List.set_cons_zero, List.set_cons_succ]; rfl))
    refine (score_steps p _ hp l1 l2 ck.1 ck.2 _).mono ?_
    rintro e w2 ⟨rfl, B2⟩
    go_wp2
    go_ret2
    refine ⟨?_, B10.trans (B2.mono B10.size)⟩
    rw [HS.out.1, HS.out.2]; rfl
  · have HS := Lib.hid (steps_bad hc)
    go_wp2
    go_ret2
    refine ⟨?_, B10⟩
    rw [HS.out]; rfl

end Go.Proofs.Ytiiljecocajdpaa
/- The walks of the document's check of a problem. -/
namespace Go.Proofs.Ytiiljecocajdpaa
open Go.RowKit

set_option maxRecDepth 5000 in
set_option maxHeartbeats 1000000 in
theorem ref11_Check (p : Pb) (a : Option Addr) (cap : Nat) (hp : p.Ok) (w : World) (hw : Bytes w a p.B) :
    Pure Try.prog 30 #[.agg (p.cells (.slice a p.B.length cap))] w (.int .i64 (probChk p)) := by
  have hb := Box.new w (p.cells (.slice a p.B.length cap)) 32
  obtain ⟨fk, fr, flev, fl, fwin, fcode, ftable, fall⟩ := hb.prob hp
  have HB := Lib.hid hb; clear hb
  go_enter Try.func30, Try.ntmps30
  go_wp2_with ((with_reducible apply ld); rfl; (with_reducible assumption); (simp only [List.set_cons_zero, List.set_cons_succ]; rfl))
  refine (ref05_Check p.C hp.c _).mono ?_
  rintro e w1 ⟨rfl, B1⟩
  clear fk fr flev fl fwin fcode ftable fall
  have B10 : Below w.heap.size w w1 := ((Below.refl _ w).alloc (Nat.le_refl _) _).trans (B1.mono (by simp))
  have hb1 := HB.out.kept B1
  obtain ⟨fk, fr, flev, fl, fwin, fcode, ftable, fall⟩ := hb1.prob hp
  have HB1 := Lib.hid hb1; clear hb1
  by_cases hc : codeChk p.C = 0
  · have hcb : (codeChk p.C != 0) = false := by simp [hc]
    obtain ⟨ck1, ck2, cr⟩ := codeChk_ok hc
    have HC := Lib.hid hc; clear hc
    go_wp2_with ((with_reducible apply ld); rfl; (with_reducible assumption); (simp only [List.set_cons_zero, List.set_cons_succ]; rfl))
    refine (ref10_Check p.T hp.t _).mono ?_
    rintro e w2 ⟨rfl, B2⟩
    clear fk fr flev fl fwin fcode ftable fall
    have hb2 := HB1.out.kept B2
    have B20 := B10.trans (B2.mono B10.size)
    obtain ⟨fk, fr, flev, fl, fwin, fcode, ftable, fall⟩ := hb2.prob hp
    have HB2 := Lib.hid hb2; clear hb2
    by_cases ht : tabChk p.T = 0
    · have htb : (tabChk p.T != 0) = false := by simp [ht]
      obtain ⟨lv1, lv2⟩ := tabChk_ok ht
      have hbd := probChk_r HC.out ht
      clear ht
      by_cases l1 : p.L < 1
      · have hx : p.badLen = true := by simp [Pb.badLen, l1]
        rw [hx, if_pos rfl] at hbd
        have HH := Lib.hid hbd; clear hbd hx cr
        go_wp2
        go_ret
        exact ⟨ret_int HH.out.symm, B20⟩
      by_cases l2 : 1024 < p.L
      · have hx : p.badLen = true := by simp [Pb.badLen, l2]
        rw [hx, if_pos rfl] at hbd
        have HH := Lib.hid hbd; clear hbd hx cr
        go_wp2
        go_ret
        exact ⟨ret_int HH.out.symm, B20⟩
      have hx : p.badLen = false := by simp [Pb.badLen]; omega
      rw [hx, if_neg (by simp)] at hbd
      have HD := Lib.hid hbd; clear hbd hx
      have hmul := mul_N (by omega) (by omega) ck1 ck2 cr
      have CR := Lib.hid cr; clear cr
      go_wp2
      refine wp_region_kept (by kernel_rfl) (by kernel_rfl) ?_
      have q0 := KeptW.cell fk
      have q1 := KeptW.cell fr
      have q39 := KeptW.cell fwin
      repeat first
        | ((with_reducible apply q_ld); rfl; (with_reducible assumption); (simp only [List.set_cons_zero, List.set_cons_succ]; rfl))
        | go_big_quiet_step (exact Calls.kept (ref11_N p _ hp (by omega) (by omega) ck1 ck2 _))
      refine wpQuiet_nil ?_
      intro w3 B3
      clear q0 q1 q39 fk fr flev fl fwin fcode ftable fall
      have hb3 := HB2.out.kept B3
      have B30 := B20.trans (B3.mono B20.size)
      obtain ⟨fk, fr, flev, fl, fwin, fcode, ftable, fall⟩ := hb3.prob hp
      have HB3 := Lib.hid hb3; clear hb3
      cases hbw : p.badWin
      · have hbw' : ((p.B.length : Int) != p.N * p.C.R) = false := hbw
        have hbd := HD.out
        rw [hbw, if_neg (by simp)] at hbd
        have HD2 := Lib.hid hbd; clear hbd hbw HD
        go_wp2_with fail
        go_loopw [4] (fun i wr => (∃ k : Nat, k ≤ p.B.length ∧ i = .int .i64 k ∧ Hid ((p.B.take k).any p.badLevel = false)) ∧ Below w3.heap.size w3 wr) (fun i _ => p.B.length - (intOf i).toNat)
        case atStart => exact ⟨⟨0, by omega, rfl, rfl⟩, Below.refl _ _⟩
        case round =>
          obtain ⟨⟨k, hk, rfl, HY⟩, HW⟩ := hrel
          clear fk fr flev fl fwin fcode ftable fall
          have hb4 := HB3.out.kept HW
          obtain ⟨fk, fr, flev, fl, fwin, fcode, ftable, fall⟩ := hb4.prob hp
          clear hb4
          have B4 := B30.trans (HW.mono B30.size)
          by_cases hkl : k < p.B.length
          · obtain ⟨b, o, rfl, hcell⟩ := (hw.below B4 (Nat.le_refl _)).cell k hkl
            have hk3 : decide ((k : Int) < (p.B.length : Int)) = true := by simp; omega
            have hn := hp.n
            have hx0 := hp.b _ (List.getElem_mem hkl)
            have hkk : (k : Int) < (p.B.length : Int) := by omega
            cases hbl : p.badLevel p.B[k]
            · have h2 : Hid ((p.B.take (k + 1)).any p.badLevel = false) := any_take_hid hkl HY.out hbl
              have hge : decide ((p.B[k] : Int) ≥ p.T.lev) = false := hbl
              clear hbl
              go_wp2
              refine wp_region_kept (by kernel_rfl) (by kernel_rfl) ?_
              have q0 := KeptW.cell fwin
              have q1 := KeptW.cell flev
              have q2 := KeptW.cell hcell
              clear fwin flev hcell
              repeat first
                | ((with_reducible apply q_ld); rfl; (with_reducible assumption); (simp only [List.set_cons_zero, List.set_cons_succ]; rfl))
                | go_big_quiet_step (fail)
              refine wpQuiet_nil ?_
              intro w4 B5
              go_wp2
              go_roundw
              case measure => simp only [intOf]; omega
              case rel => exact ⟨⟨k + 1, by omega, by go_num, h2⟩, HW.trans (B5.mono HW.size)⟩
            · have hge : decide ((p.B[k] : Int) ≥ p.T.lev) = true := hbl
              have HX : probChk p = 91 := by rw [HD2.out, any_get hkl hbl]; rfl
              have HH := Lib.hid HX; clear HX hbl
              go_wp2
              refine wp_region_kept (by kernel_rfl) (by kernel_rfl) ?_
              have q0 := KeptW.cell fwin
              have q1 := KeptW.cell flev
              have q2 := KeptW.cell hcell
              clear fwin flev hcell
              repeat first
                | ((with_reducible apply q_ld); rfl; (with_reducible assumption); (simp only [List.set_cons_zero, List.set_cons_succ]; rfl))
                | go_big_quiet_step (fail)
              refine wpQuiet_nil ?_
              intro w4 B5
              go_wp2
              go_ret
              exact ⟨ret_int HH.out.symm, B4.trans (B5.mono B4.size)⟩
          · have HX : probChk p = 0 := by
              have hy := HY.out
              rw [List.take_of_length_le (by omega)] at hy
              rw [HD2.out, hy]; rfl
            have HH := Lib.hid HX; clear HX
            go_wp2
            go_ret
            exact ⟨ret_int HH.out.symm, B4⟩
      · have hbw' : ((p.B.length : Int) != p.N * p.C.R) = true := hbw
        have hbd := HD.out
        rw [hbw, if_pos rfl] at hbd
        have HH := Lib.hid hbd; clear hbd hbw HD
        go_wp2
        go_ret
        exact ⟨ret_int HH.out.symm, B30⟩
    · have htb : (tabChk p.T != 0) = true := by simp [ht]
      have HH := Lib.hid (probChk_t HC.out ht); clear ht cr
      go_wp2
      go_ret
      exact ⟨ret_int HH.out.symm, B20⟩
  · have hcb : (codeChk p.C != 0) = true := by simp [hc]
    have HH := Lib.hid (probChk_c hc); clear hc
    go_wp2
    go_ret
    exact ⟨ret_int HH.out.symm, B10⟩
theorem ref11_Steps (p : Pb) (a : Option Addr) (cap : Nat) (hp : p.Ok) (w : World) (hw : Bytes w a p.B) :
    Pure Try.prog 27 #[.agg (p.cells (.slice a p.B.length cap))] w (.tuple #[.int .i64 p.steps, .int .i64 (probChk p)]) := by
  have hb := Box.new w (p.cells (.slice a p.B.length cap)) 32
  obtain ⟨fk, fr, flev, fl, fwin, fcode, ftable, fall⟩ := hb.prob hp
  have HB := Lib.hid hb; clear hb
  go_enter Try.func27, Try.ntmps27
  go_wp2_with ((with_reducible apply ld); rfl; (with_reducible assumption); (simp only [List.set_cons_zero, List.set_cons_succ]; rfl))
  refine (ref11_Check p a cap hp _ (hw.below ((Below.refl _ _).alloc (Nat.le_refl _) _) (Nat.le_refl _))).mono ?_
  rintro e w1 ⟨rfl, B1⟩
  clear fk fr flev fl fwin fcode ftable fall
  have B10 : Below w.heap.size w w1 := ((Below.refl _ w).alloc (Nat.le_refl _) _).trans (B1.mono (by simp))
  have hb1 := HB.out.kept B1
  obtain ⟨fk, fr, flev, fl, fwin, fcode, ftable, fall⟩ := hb1.prob hp
  clear hb1
  cases hc : probChk p != 0
  · obtain ⟨hs, ck, l1, l2⟩ := steps_ok hc
    have HS := Lib.hid hs; clear hs
    go_wp2_with ((with_reducible apply ld); rfl; (with_reducible assumption); (simp only [List.set_cons_zero, List.set_cons_succ]; rfl))
    refine (ref11_N p _ hp l1 l2 ck.1 ck.2 _).mono ?_
    rintro e w2 ⟨rfl, B2⟩
    go_wp2
    go_ret2
    refine ⟨?_, B10.trans (B2.mono B10.size)⟩
    rw [HS.out.1, HS.out.2]; rfl
  · have HS := Lib.hid (steps_bad hc)
    go_wp2
    go_ret2
    refine ⟨?_, B10⟩
    rw [HS.out]; rfl

end Go.Proofs.Ytiiljecocajdpaa
