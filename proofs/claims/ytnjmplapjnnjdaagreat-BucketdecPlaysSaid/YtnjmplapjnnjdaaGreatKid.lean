import Derived.Test.YtnjmplapjnnjdaaGreatElems
import Derived.Test.YtnjmplapjnnjdaaGreatRange
import Derived.Test.YtnjmplapjnnjdaaGreatTrel3
set_option linter.unusedSimpArgs false
set_option linter.unusedVariables false
set_option linter.unnecessarySimpa false
/- The walks of the checks of a problem: the program's and the document's. -/
namespace Go.Proofs.YtnjmplapjnnjdaaGreat
open Go.RowKit

theorem score_steps (p : Pb) (v : Value) (hp : p.Ok) (h1 : 1 ≤ p.L) (h2 : p.L ≤ 1024) (h3 : 3 ≤ p.C.K) (h4 : p.C.K ≤ 32) (w : World) : Pure Tryz.prog 59 #[.agg (p.cells v)] w (.int .i64 p.N) := by
  obtain ⟨fk, fr, flev, fl, fwin, fcode, ftable, fall⟩ := (Box.new w (p.cells v) 32).prob hp
  go_enter Tryz.func59, Tryz.ntmps59
  go_wp2
  go_ret
  exact ⟨rfl, (Below.refl _ _).alloc (Nat.le_refl _) _⟩
theorem ref11_N (p : Pb) (v : Value) (hp : p.Ok) (h1 : 1 ≤ p.L) (h2 : p.L ≤ 1024) (h3 : 3 ≤ p.C.K) (h4 : p.C.K ≤ 32) (w : World) : Pure Tryz.prog 67 #[.agg (p.cells v)] w (.int .i64 p.N) := by
  obtain ⟨fk, fr, flev, fl, fwin, fcode, ftable, fall⟩ := (Box.new w (p.cells v) 32).prob hp
  go_enter Tryz.func67, Tryz.ntmps67
  go_wp2
  go_ret
  exact ⟨rfl, (Below.refl _ _).alloc (Nat.le_refl _) _⟩

theorem probChk_c {p : Pb} (h : codeChk p.C ≠ 0) : probChk p = codeChk p.C := by unfold probChk; rw [if_pos (by simpa using h)]
theorem probChk_t {p : Pb} (h : codeChk p.C = 0) (h2 : tabChk p.T ≠ 0) : probChk p = tabChk p.T := by unfold probChk; rw [if_neg (by simpa using h), if_pos (by simpa using h2)]
theorem probChk_r {p : Pb} (h : codeChk p.C = 0) (h2 : tabChk p.T = 0) : probChk p = if p.badLen then 1 else if p.badWin then 5 else if p.B.any p.badLevel then 91 else 0 := by unfold probChk; rw [if_neg (by simpa using h), if_neg (by simpa using h2)]
theorem mul_N {p : Pb} (h1 : 1 ≤ p.L) (h2 : p.L ≤ 1024) (h3 : 3 ≤ p.C.K) (h4 : p.C.K ≤ 32) (h5 : p.C.R = 2 ∨ p.C.R = 3) : wrap64 (p.N * p.C.R) = p.N * p.C.R := by
  unfold Pb.N wrap64
  rcases h5 with h | h <;> rw [h] <;> omega
theorem any_take_hid {l : List Nat} {p : Nat → Bool} {k : Nat} (h : k < l.length) (h1 : (l.take k).any p = false) (h2 : p l[k] = false) : Hid ((l.take (k + 1)).any p = false) := by
  show _ = _
  rw [any_take_succ h, h1, h2]
  rfl
theorem any_get {l : List Nat} {p : Nat → Bool} {k : Nat} (h : k < l.length) (hp : p l[k] = true) : l.any p = true := List.any_eq_true.2 ⟨_, List.getElem_mem h, hp⟩

theorem probChk_ok {p : Pb} (h : probChk p = 0) : (3 ≤ p.C.K ∧ p.C.K ≤ 32) ∧ 1 ≤ p.L ∧ p.L ≤ 1024 ∧ (p.C.R = 2 ∨ p.C.R = 3) ∧ (p.B.length : Int) = p.N * p.C.R ∧ (2 ≤ p.T.lev ∧ p.T.lev ≤ 16) ∧ (∀ x ∈ p.B, (x : Int) < p.T.lev) ∧ codeChk p.C = 0 ∧ tabChk p.T = 0 := by
  by_cases hc : codeChk p.C = 0
  · by_cases ht : tabChk p.T = 0
    · obtain ⟨k1, k2, k3⟩ := codeChk_ok hc
      rw [probChk_r hc ht] at h
      cases h1 : p.badLen
      · rw [h1, if_neg (by simp)] at h
        cases h2 : p.badWin
        · rw [h2, if_neg (by simp)] at h
          cases h3 : p.B.any p.badLevel
          · simp [Pb.badLen] at h1
            simp [Pb.badWin] at h2
            simp [Pb.badLevel] at h3
            exact ⟨⟨k1, k2⟩, by omega, by omega, k3, h2, tabChk_ok ht, fun x hx => by have := h3 x hx; omega, hc, ht⟩
          · rw [h3] at h; simp at h
        · rw [h2] at h; simp at h
      · rw [h1] at h; simp at h
    · rw [probChk_t hc ht] at h; exact absurd h ht
  · rw [probChk_c hc] at h; exact absurd h hc
set_option maxRecDepth 5000 in
set_option maxHeartbeats 1000000 in
theorem score_Check (p : Pb) (a : Option Addr) (cap : Nat) (hp : p.Ok) (w : World) (hw : Bytes w a p.B) :
    Pure Tryz.prog 34 #[.agg (p.cells (.slice a p.B.length cap))] w (.int .i64 (probChk p)) := by
  have hb := Box.new w (p.cells (.slice a p.B.length cap)) 32
  obtain ⟨fk, fr, flev, fl, fwin, fcode, ftable, fall⟩ := hb.prob hp
  have HB := Lib.hid hb; clear hb
  go_enter Tryz.func34, Tryz.ntmps34
  go_wp2_with ((with_reducible apply ld); rfl; (with_reducible assumption); (simp only [List.set_cons_zero, List.set_cons_succ]; rfl))
  refine (code_Check p.C hp.c _).mono ?_
  rintro e w1 ⟨rfl, B1⟩
  clear fk fr flev fl fwin fcode ftable fall
  have B10 : Below w.heap.size w w1 := ((Below.refl _ w).alloc (Nat.le_refl _) _).trans (B1.mono (by simp))
  have hb1 := HB.out.kept B1
  obtain ⟨fk, fr, flev, fl, fwin, fcode, ftable, fall⟩ := hb1.prob hp
  have HB1 := Lib.hid hb1; clear hb1
  by_cases hc : codeChk p.C = 0
  · have hcb : (codeChk p.C != 0) = false := by simp [hc]
    obtain ⟨ck1, ck2, cr⟩ := codeChk_ok hc
    have HC := Lib.hid hc; clear hc
    go_wp2_with ((with_reducible apply ld); rfl; (with_reducible assumption); (simp only [List.set_cons_zero, List.set_cons_succ]; rfl))
    refine (metric_Check p.T hp.t _).mono ?_
    rintro e w2 ⟨rfl, B2⟩
    clear fk fr flev fl fwin fcode ftable fall
    have hb2 := HB1.out.kept B2
    have B20 := B10.trans (B2.mono B10.size)
    obtain ⟨fk, fr, flev, fl, fwin, fcode, ftable, fall⟩ := hb2.prob hp
    have HB2 := Lib.hid hb2; clear hb2
    by_cases ht : tabChk p.T = 0
    · have htb : (tabChk p.T != 0) = false := by simp [ht]
      obtain ⟨lv1, lv2⟩ := tabChk_ok ht
      have hbd := probChk_r HC.out ht
      clear ht
      by_cases l1 : p.L < 1
      · have hx : p.badLen = true := by simp [Pb.badLen, l1]
        rw [hx, if_pos rfl] at hbd
        have HH := Lib.hid hbd; clear hbd hx cr
        go_wp2
        go_ret
        exact ⟨ret_int HH.out.symm, B20⟩
      by_cases l2 : 1024 < p.L
      · have hx : p.badLen = true := by simp [Pb.badLen, l2]
        rw [hx, if_pos rfl] at hbd
        have HH := Lib.hid hbd; clear hbd hx cr
        go_wp2
        go_ret
        exact ⟨ret_int HH.out.symm, B20⟩
      have hx : p.badLen = false := by simp [Pb.badLen]; omega
      rw [hx, if_neg (by simp)] at hbd
      have HD := Lib.hid hbd; clear hbd hx
      have hmul := mul_N (by omega) (by omega) ck1 ck2 cr
      have CR := Lib.hid cr; clear cr
      go_wp2
      refine wp_region_kept (by kernel_rfl) (by kernel_rfl) ?_
      have q0 := KeptW.cell fk
      have q1 := KeptW.cell fr
      have q39 := KeptW.cell fwin
      repeat first
        | ((with_reducible apply q_ld); rfl; (with_reducible assumption); (simp only [List.set_cons_zero, List.set_cons_succ]; rfl))
        | go_big_quiet_step (exact Calls.kept (score_steps p _ hp (by omega) (by omega) ck1 ck2 _))
      refine wpQuiet_nil ?_
      intro w3 B3
      clear q0 q1 q39 fk fr flev fl fwin fcode ftable fall
      have hb3 := HB2.out.kept B3
      have B30 := B20.trans (B3.mono B20.size)
      obtain ⟨fk, fr, flev, fl, fwin, fcode, ftable, fall⟩ := hb3.prob hp
      have HB3 := Lib.hid hb3; clear hb3
      cases hbw : p.badWin
      · have hbw' : ((p.B.length : Int) != p.N * p.C.R) = false := hbw
        have hbd := HD.out
        rw [hbw, if_neg (by simp)] at hbd
        have HD2 := Lib.hid hbd; clear hbd hbw HD
        go_wp2_with fail
        go_loop [6, 42] (fun _ i => ∃ k : Nat, k ≤ p.B.length ∧ i = .int .i64 k ∧ Hid ((p.B.take k).any p.badLevel = false)) (fun _ i => p.B.length - (intOf i).toNat)
        case atStart => exact ⟨0, by omega, rfl, rfl⟩
        case round =>
          obtain ⟨k, hk, rfl, HY⟩ := hrel
          by_cases hkl : k < p.B.length
          · obtain ⟨b, o, rfl, hcell⟩ := (hw.below B30 (Nat.le_refl _)).cell k hkl
            have hk3 : decide ((k : Int) < (p.B.length : Int)) = true := by simp; omega
            have hn := hp.n
            have hx0 := hp.b _ (List.getElem_mem hkl)
            have hkk : (k : Int) < (p.B.length : Int) := by omega
            cases hbl : p.badLevel p.B[k]
            · have h2 : Hid ((p.B.take (k + 1)).any p.badLevel = false) := any_take_hid hkl HY.out hbl
              have hge : decide ((p.B[k] : Int) ≥ p.T.lev) = false := hbl
              clear hbl
              go_wp2
              go_round
              case measure => simp only [intOf]; omega
              case rel => exact ⟨k + 1, by omega, by go_num, h2⟩
            · have hge : decide ((p.B[k] : Int) ≥ p.T.lev) = true := hbl
              have HX : probChk p = 91 := by rw [HD2.out, any_get hkl hbl]; rfl
              have HH := Lib.hid HX; clear HX hbl
              go_wp2
              go_ret
              exact ⟨ret_int HH.out.symm, B30⟩
          · have HX : probChk p = 0 := by
              have hy := HY.out
              rw [List.take_of_length_le (by omega)] at hy
              rw [HD2.out, hy]; rfl
            have HH := Lib.hid HX; clear HX
            go_wp2
            go_ret
            exact ⟨ret_int HH.out.symm, B30⟩
      · have hbw' : ((p.B.length : Int) != p.N * p.C.R) = true := hbw
        have hbd := HD.out
        rw [hbw, if_pos rfl] at hbd
        have HH := Lib.hid hbd; clear hbd hbw HD
        go_wp2
        go_ret
        exact ⟨ret_int HH.out.symm, B30⟩
    · have htb : (tabChk p.T != 0) = true := by simp [ht]
      have HH := Lib.hid (probChk_t HC.out ht); clear ht cr
      go_wp2
      go_ret
      exact ⟨ret_int HH.out.symm, B20⟩
  · have hcb : (codeChk p.C != 0) = true := by simp [hc]
    have HH := Lib.hid (probChk_c hc); clear hc
    go_wp2
    go_ret
    exact ⟨ret_int HH.out.symm, B10⟩
end Go.Proofs.YtnjmplapjnnjdaaGreat
/- The walks of the document's check of a problem. -/
namespace Go.Proofs.YtnjmplapjnnjdaaGreat
open Go.RowKit

set_option maxRecDepth 5000 in
set_option maxHeartbeats 1000000 in
theorem ref11_Check (p : Pb) (a : Option Addr) (cap : Nat) (hp : p.Ok) (w : World) (hw : Bytes w a p.B) :
    Pure Tryz.prog 43 #[.agg (p.cells (.slice a p.B.length cap))] w (.int .i64 (probChk p)) := by
  have hb := Box.new w (p.cells (.slice a p.B.length cap)) 32
  obtain ⟨fk, fr, flev, fl, fwin, fcode, ftable, fall⟩ := hb.prob hp
  have HB := Lib.hid hb; clear hb
  go_enter Tryz.func43, Tryz.ntmps43
  go_wp2_with ((with_reducible apply ld); rfl; (with_reducible assumption); (simp only [List.set_cons_zero, List.set_cons_succ]; rfl))
  refine (ref05_Check p.C hp.c _).mono ?_
  rintro e w1 ⟨rfl, B1⟩
  clear fk fr flev fl fwin fcode ftable fall
  have B10 : Below w.heap.size w w1 := ((Below.refl _ w).alloc (Nat.le_refl _) _).trans (B1.mono (by simp))
  have hb1 := HB.out.kept B1
  obtain ⟨fk, fr, flev, fl, fwin, fcode, ftable, fall⟩ := hb1.prob hp
  have HB1 := Lib.hid hb1; clear hb1
  by_cases hc : codeChk p.C = 0
  · have hcb : (codeChk p.C != 0) = false := by simp [hc]
    obtain ⟨ck1, ck2, cr⟩ := codeChk_ok hc
    have HC := Lib.hid hc; clear hc
    go_wp2_with ((with_reducible apply ld); rfl; (with_reducible assumption); (simp only [List.set_cons_zero, List.set_cons_succ]; rfl))
    refine (ref10_Check p.T hp.t _).mono ?_
    rintro e w2 ⟨rfl, B2⟩
    clear fk fr flev fl fwin fcode ftable fall
    have hb2 := HB1.out.kept B2
    have B20 := B10.trans (B2.mono B10.size)
    obtain ⟨fk, fr, flev, fl, fwin, fcode, ftable, fall⟩ := hb2.prob hp
    have HB2 := Lib.hid hb2; clear hb2
    by_cases ht : tabChk p.T = 0
    · have htb : (tabChk p.T != 0) = false := by simp [ht]
      obtain ⟨lv1, lv2⟩ := tabChk_ok ht
      have hbd := probChk_r HC.out ht
      clear ht
      by_cases l1 : p.L < 1
      · have hx : p.badLen = true := by simp [Pb.badLen, l1]
        rw [hx, if_pos rfl] at hbd
        have HH := Lib.hid hbd; clear hbd hx cr
        go_wp2
        go_ret
        exact ⟨ret_int HH.out.symm, B20⟩
      by_cases l2 : 1024 < p.L
      · have hx : p.badLen = true := by simp [Pb.badLen, l2]
        rw [hx, if_pos rfl] at hbd
        have HH := Lib.hid hbd; clear hbd hx cr
        go_wp2
        go_ret
        exact ⟨ret_int HH.out.symm, B20⟩
      have hx : p.badLen = false := by simp [Pb.badLen]; omega
      rw [hx, if_neg (by simp)] at hbd
      have HD := Lib.hid hbd; clear hbd hx
      have hmul := mul_N (by omega) (by omega) ck1 ck2 cr
      have CR := Lib.hid cr; clear cr
      go_wp2
      refine wp_region_kept (by kernel_rfl) (by kernel_rfl) ?_
      have q0 := KeptW.cell fk
      have q1 := KeptW.cell fr
      have q39 := KeptW.cell fwin
      repeat first
        | ((with_reducible apply q_ld); rfl; (with_reducible assumption); (simp only [List.set_cons_zero, List.set_cons_succ]; rfl))
        | go_big_quiet_step (exact Calls.kept (ref11_N p _ hp (by omega) (by omega) ck1 ck2 _))
      refine wpQuiet_nil ?_
      intro w3 B3
      clear q0 q1 q39 fk fr flev fl fwin fcode ftable fall
      have hb3 := HB2.out.kept B3
      have B30 := B20.trans (B3.mono B20.size)
      obtain ⟨fk, fr, flev, fl, fwin, fcode, ftable, fall⟩ := hb3.prob hp
      have HB3 := Lib.hid hb3; clear hb3
      cases hbw : p.badWin
      · have hbw' : ((p.B.length : Int) != p.N * p.C.R) = false := hbw
        have hbd := HD.out
        rw [hbw, if_neg (by simp)] at hbd
        have HD2 := Lib.hid hbd; clear hbd hbw HD
        go_wp2_with fail
        go_loopw [4] (fun i wr => (∃ k : Nat, k ≤ p.B.length ∧ i = .int .i64 k ∧ Hid ((p.B.take k).any p.badLevel = false)) ∧ Below w3.heap.size w3 wr) (fun i _ => p.B.length - (intOf i).toNat)
        case atStart => exact ⟨⟨0, by omega, rfl, rfl⟩, Below.refl _ _⟩
        case round =>
          obtain ⟨⟨k, hk, rfl, HY⟩, HW⟩ := hrel
          clear fk fr flev fl fwin fcode ftable fall
          have hb4 := HB3.out.kept HW
          obtain ⟨fk, fr, flev, fl, fwin, fcode, ftable, fall⟩ := hb4.prob hp
          clear hb4
          have B4 := B30.trans (HW.mono B30.size)
          by_cases hkl : k < p.B.length
          · obtain ⟨b, o, rfl, hcell⟩ := (hw.below B4 (Nat.le_refl _)).cell k hkl
            have hk3 : decide ((k : Int) < (p.B.length : Int)) = true := by simp; omega
            have hn := hp.n
            have hx0 := hp.b _ (List.getElem_mem hkl)
            have hkk : (k : Int) < (p.B.length : Int) := by omega
            cases hbl : p.badLevel p.B[k]
            · have h2 : Hid ((p.B.take (k + 1)).any p.badLevel = false) := any_take_hid hkl HY.out hbl
              have hge : decide ((p.B[k] : Int) ≥ p.T.lev) = false := hbl
              clear hbl
              go_wp2
              refine wp_region_kept (by kernel_rfl) (by kernel_rfl) ?_
              have q0 := KeptW.cell fwin
              have q1 := KeptW.cell flev
              have q2 := KeptW.cell hcell
              clear fwin flev hcell
              repeat first
                | ((with_reducible apply q_ld); rfl; (with_reducible assumption); (simp only [List.set_cons_zero, List.set_cons_succ]; rfl))
                | go_big_quiet_step (fail)
              refine wpQuiet_nil ?_
              intro w4 B5
              go_wp2
              go_roundw
              case measure => simp only [intOf]; omega
              case rel => exact ⟨⟨k + 1, by omega, by go_num, h2⟩, HW.trans (B5.mono HW.size)⟩
            · have hge : decide ((p.B[k] : Int) ≥ p.T.lev) = true := hbl
              have HX : probChk p = 91 := by rw [HD2.out, any_get hkl hbl]; rfl
              have HH := Lib.hid HX; clear HX hbl
              go_wp2
              refine wp_region_kept (by kernel_rfl) (by kernel_rfl) ?_
              have q0 := KeptW.cell fwin
              have q1 := KeptW.cell flev
              have q2 := KeptW.cell hcell
              clear fwin flev hcell
              repeat first
                | ((with_reducible apply q_ld); rfl; (with_reducible assumption); (simp only [List.set_cons_zero, List.set_cons_succ]; rfl))
                | go_big_quiet_step (fail)
              refine wpQuiet_nil ?_
              intro w4 B5
              go_wp2
              go_ret
              exact ⟨ret_int HH.out.symm, B4.trans (B5.mono B4.size)⟩
          · have HX : probChk p = 0 := by
              have hy := HY.out
              rw [List.take_of_length_le (by omega)] at hy
              rw [HD2.out, hy]; rfl
            have HH := Lib.hid HX; clear HX
            go_wp2
            go_ret
            exact ⟨ret_int HH.out.symm, B4⟩
      · have hbw' : ((p.B.length : Int) != p.N * p.C.R) = true := hbw
        have hbd := HD.out
        rw [hbw, if_pos rfl] at hbd
        have HH := Lib.hid hbd; clear hbd hbw HD
        go_wp2
        go_ret
        exact ⟨ret_int HH.out.symm, B30⟩
    · have htb : (tabChk p.T != 0) = true := by simp [ht]
      have HH := Lib.hid (probChk_t HC.out ht); clear ht cr
      go_wp2
      go_ret
      exact ⟨ret_int HH.out.symm, B20⟩
  · have hcb : (codeChk p.C != 0) = true := by simp [hc]
    have HH := Lib.hid (probChk_c hc); clear hc
    go_wp2
    go_ret
    exact ⟨ret_int HH.out.symm, B10⟩
end Go.Proofs.YtnjmplapjnnjdaaGreat

/- The walk of the making of a tree: the program's. -/
namespace Go.Proofs.YtnjmplapjnnjdaaGreat
open Go.RowKit

theorem Box.cast {w : World} {b : Nat} {cs cs' : Array Value} (h : Box w b cs) (he : cs = cs') : Box w b cs' := he ▸ h
theorem Box.store {P : Program} {w : World} {b i : Nat} {cs : Array Value} {v : Value} (h : Box w b cs) (hi : i < cs.size) (hv : (∀ xs, v ≠ .agg xs) ∧ (∀ xs, v ≠ .tuple xs)) : (store ⟨b, i, none⟩ v).run P w = .ok () (w.setCell ⟨b, i, none⟩ v) := by
  have hc := h.cell i
  rw [Array.getElem?_eq_getElem hi] at hc
  have hf := h.frozen i
  cases v with
  | agg xs => exact absurd rfl (hv.1 xs)
  | tuple xs => exact absurd rfl (hv.2 xs)
  | _ => simp [Go.store, Sem.run, hc, hf]
theorem Bytes.block {w w' : World} {g : Nat} {l : List Nat} (h : Bytes w (some ⟨g, 0, none⟩) l) (hk : w'.heap[g]? = w.heap[g]?) : Bytes w' (some ⟨g, 0, none⟩) l :=
  ⟨fun k hk' => by
    obtain ⟨b, o, ha, hc⟩ := h.cell k hk'
    obtain ⟨rfl, rfl⟩ : g = b ∧ 0 = o := by simpa using ha
    exact ⟨g, 0, rfl, (World.cell?_of_block hk).trans hc⟩, h.lt⟩
theorem own_bytes {w : World} {base e g n c : Nat} {bs : List Nat} (h : w.ownsRow base e 1 (.slice (some ⟨g, 0, none⟩) n c) n (u8s bs)) (hl : ∀ x ∈ bs, x < 256) : Bytes w (some ⟨g, 0, none⟩) bs :=
  ⟨fun k hk => ⟨g, 0, rfl, by rw [Nat.zero_add]; exact own_cell h (u8s_get hk)⟩, hl⟩
/-- THE ARM for 'append([]byte(nil), b...)' of a row that is not empty. -/
theorem apNilB {P : Program} {ops : Array Oper} {rest : List Oper} {l : List Value} {ds : List Deferred} {w : World} {Q : Exit → Act → World → Prop} {t e d m c : Nat} {s x : Operand} {z : Value} {a : Option Addr} {bs : List Nat} {ty : TypeId} {ps : String} {af : Array Edge}
    [S : SlTy P t e] [E : ElTy P e z 1 1] (hb : Bytes w a bs) (hs : (Act.mk l.toArray ds).eval s = .slice none 0 0) (hx : (Act.mk l.toArray ds).eval x = .slice a m c) (hl : bs.length = m) (h0 : m ≠ 0) (hbytes : m ≤ 140737488355328)
    (h : ∀ cap w', m ≤ cap → w'.ownsRow w.heap.size e 1 (.slice (some ⟨w.heap.size, 0, none⟩) m cap) m (u8s bs) → Below w.heap.size w w' → w.heap.size < w'.heap.size → wpList P ops Q rest ⟨(l.set d (.slice (some ⟨w.heap.size, 0, none⟩) m cap)).toArray, ds⟩ w') :
    wpList P ops Q (⟨some d, .call { callee := .builtin .append, args := #[s, x], argTypes := #[t, t] }, ty, ps, af, none⟩ :: rest) ⟨l.toArray, ds⟩ w := by
  refine apB (World.ownsRow_nil w w.heap.size e 1) hb hs hx hl (by omega) (Nat.le_refl _) ?_
  intro v' w' hown hgr hat
  simp only [Nat.zero_add, List.nil_append] at hown
  have hbk : v'.ownBlock = some w.heap.size := by
    rcases hat with hat | hat
    · exfalso
      rcases hown.2 with ⟨rfl, h1⟩ | ⟨g, cap, cur, rfl, _⟩
      · exact h0 h1
      · cases hat
    · exact hat
  obtain ⟨cap, rfl, hcap⟩ := own_form hown hbk
  exact h cap w' hcap hown (own_below (World.ownsRow_nil w w.heap.size e 1) hgr (Nat.le_refl _)) (hown.lt _ rfl).2
/-- The cells of a tree. -/
def treeCells (p : Pb) (pb rb : Nat) : Array Value := #[.int .i64 p.N, .int .u64 (2 ^ (p.C.K.toNat - 1)), .func (.func 36) #[] #[.pointer (some ⟨pb, 0, none⟩), .pointer (some ⟨rb, 0, none⟩)], .int .i64 (min (p.C.R * p.N * p.T.lo) 0), .int .i64 (max (p.C.R * p.N * p.T.hi) 0), .int .i64 p.L]
/-- A tree that was made of a problem. -/
structure TreeIn (w : World) (p : Pb) (tb pb rb g c : Nat) : Prop where
  tree : Box w tb (treeCells p pb rb)
  prob : Box w pb (p.cells (.slice (some ⟨g, 0, none⟩) p.B.length c))
  rate : Box w rb #[.int .i64 p.C.R]
  win : Bytes w (some ⟨g, 0, none⟩) p.B
  cap : p.B.length ≤ c
theorem TreeIn.kept {w w' : World} {p : Pb} {tb pb rb g c : Nat} (h : TreeIn w p tb pb rb g c) (hB : Below w.heap.size w w') : TreeIn w' p tb pb rb g c := ⟨h.tree.kept hB, h.prob.kept hB, h.rate.kept hB, h.win.kept hB, h.cap⟩
theorem nameAny {P : Program} {c : Code} {Q : Exit → Act → World → Prop} {a : Act} {w : World} (R : World → Prop) (hR : R w) (h : ∀ w0, R w0 → c.wp P Q a w0) : c.wp P Q a w := h w hR

/-- What the making of a tree of a good problem leaves. -/
def NewPost (p : Pb) (w : World) (e : Ending) (w' : World) : Prop := (∃ tb pb rb g c, e = .returned (.tuple #[.pointer (some ⟨tb, 0, none⟩), .int .i64 0]) ∧ TreeIn w' p tb pb rb g c ∧ (w.heap.size ≤ tb ∧ w.heap.size ≤ pb ∧ w.heap.size ≤ rb ∧ w.heap.size ≤ g)) ∧ Below w.heap.size w w'
theorem tree_New_bad (p : Pb) (a : Option Addr) (cap : Nat) (hp : p.Ok) (h : probChk p ≠ 0) (w : World) (hw : Bytes w a p.B) :
    Pure Tryz.prog 13 #[.agg (p.cells (.slice a p.B.length cap))] w (.tuple #[.pointer none, .int .i64 (probChk p)]) := by
  have hb := Box.new w (p.cells (.slice a p.B.length cap)) 32
  obtain ⟨fk, fr, flev, fl, fwin, fcode, ftable, fall⟩ := hb.prob hp
  have hc : (probChk p != 0) = true := by simp [h]
  go_enter Tryz.func13, Tryz.ntmps13
  go_wp2_with ((with_reducible apply ld); rfl; (with_reducible assumption); (simp only [List.set_cons_zero, List.set_cons_succ]; rfl))
  refine (score_Check p a cap hp _ (hw.below ((Below.refl _ _).alloc (Nat.le_refl _) _) (Nat.le_refl _))).mono ?_
  rintro e w1 ⟨rfl, B1⟩
  clear fk fr flev fl fwin fcode ftable fall hb
  go_wp2
  go_ret2
  exact ⟨rfl, ((Below.refl _ w).alloc (Nat.le_refl _) _).trans (B1.mono (by simp))⟩

set_option maxRecDepth 5000 in
set_option maxHeartbeats 1000000 in
theorem tree_New (p : Pb) (a : Option Addr) (cap : Nat) (hp : p.Ok) (h : probChk p = 0) (w : World) (hw : Bytes w a p.B) :
    Calls Tryz.prog 13 #[.agg (p.cells (.slice a p.B.length cap))] w (NewPost p w) := by
  obtain ⟨⟨k1, k2⟩, l1, l2, cr, hwin, ⟨v1, v2⟩, hlev, hcc, htt⟩ := probChk_ok h
  have hb := Box.new w (p.cells (.slice a p.B.length cap)) 32
  obtain ⟨fk, fr, flev, fl, fwin, fcode, ftable, fall⟩ := hb.prob hp
  have HB := Lib.hid hb; clear hb
  have hne : p.B.length ≠ 0 := by
    have h1 : 3 ≤ p.N := by unfold Pb.N; omega
    rcases cr with h | h <;> rw [h] at hwin <;> omega
  have hn : p.B.length ≤ 140737488351232 := by
    have h1 : p.N ≤ 1056 := by unfold Pb.N; omega
    rcases cr with h | h <;> rw [h] at hwin <;> omega
  have HWIN := Lib.hid hwin; clear hwin
  have HCR := Lib.hid cr; clear cr
  go_enter Tryz.func13, Tryz.ntmps13
  go_wp2_with ((with_reducible apply ld); rfl; (with_reducible assumption); (simp only [List.set_cons_zero, List.set_cons_succ]; rfl))
  refine (score_Check p a cap hp _ (hw.below ((Below.refl _ _).alloc (Nat.le_refl _) _) (Nat.le_refl _))).mono ?_
  rintro e w1 ⟨rfl, B1⟩
  rw [h]
  clear fk fr flev fl fwin fcode ftable fall
  have B10 : Below w.heap.size w w1 := ((Below.refl _ w).alloc (Nat.le_refl _) _).trans (B1.mono (by simp))
  have hb1 := HB.out.kept B1
  clear HB B1
  obtain ⟨fk, fr, flev, fl, fwin, fcode, ftable, fall⟩ := hb1.prob hp
  have hsz1 := B10.size
  have hbw1 := hw.below B10 (Nat.le_refl _)
  have c39 := hb1.cell 39
  rw [hp.cell39] at c39
  go_upto_region 6 with (at_builtin; refine apNilB hbw1 rfl rfl rfl hne (by omega) ?_; intro c w2 hcap hown2 B2 hlt2; have hz39 := (hb1.kept B2).frozen 39; have hc39 := (B2.cell hb1.lt).trans c39; have hR : (w2.setCell ⟨w.heap.size, 39, none⟩ (.slice (some ⟨w1.heap.size, 0, none⟩) p.B.length c)).cell? ⟨w.heap.size, 1, none⟩ = some (.int .i64 p.C.R) := by rw [((hb1.kept B2).setCell (i := 39) _).cell, hp.set39, hp.cellc _ (by omega)]; rfl)
  have hbp := (hb1.kept B2).setCell (i := 39) (.slice (some ⟨w1.heap.size, 0, none⟩) p.B.length c)
  rw [hp.set39] at hbp
  refine nameAny (fun W => Box W w.heap.size (p.cells (.slice (some ⟨w1.heap.size, 0, none⟩) p.B.length c)) ∧ Box W w2.heap.size #[.int .i64 p.C.R] ∧ Bytes W (some ⟨w1.heap.size, 0, none⟩) p.B ∧ Below w.heap.size w W) ⟨hbp.alloc _, by simpa using Box.new (w2.setCell ⟨w.heap.size, 39, none⟩ (.slice (some ⟨w1.heap.size, 0, none⟩) p.B.length c)) #[.int .i64 p.C.R] 3, ((own_bytes hown2 hw.lt).block (Below.heap_setCell _ _ _ _ (by have := hb1.lt; simp; omega))).kept ((Below.refl _ _).alloc (Nat.le_refl _) _), (B10.trans (B2.mono hsz1)).trans (((Below.refl w.heap.size w2).setCell (p := ⟨w.heap.size, 39, none⟩) (Nat.le_refl _) _).alloc (by simp; omega) _)⟩ ?_
  have b1lt := hb1.lt
  clear fk fr flev fl fwin fcode ftable fall hbp hR hc39 hz39 hown2 c39 hbw1
  rintro w3 ⟨b1, b5, bB, B30⟩
  obtain ⟨fk, fr, flev, fl, fwin, fcode, ftable, fall⟩ := b1.prob hp
  have hshl := one_shl64 k1 k2
  rw [Int.one_mul] at hshl
  have hNw : wrap64 (wrap64 (p.L + p.C.K) - 1) = p.N := by unfold wrap64 Pb.N; omega
  (refine wp_region_kept_tail 15 (by kernel_rfl) (by kernel_rfl) ?_; simp only [List.take_succ_cons, List.take_zero, List.drop_succ_cons, List.drop_zero])
  have q0 := KeptW.cell fk
  have q38 := KeptW.cell fl
  clear fk fl
  repeat first
    | ((with_reducible apply q_ld); rfl; (with_reducible assumption); (simp only [List.set_cons_zero, List.set_cons_succ]; rfl))
    | go_big_quiet_step (fail)
  refine wpQuiet_nil ?_
  intro w4 B4
  go_upto_region 7 with (fail)
  refine name1 ?_
  intro w5 bt B5
  have B50 : Below w.heap.size w w5 := (B30.trans (B4.mono B30.size)).trans (B5.mono (Nat.le_trans B30.size B4.size))
  have b15 := (b1.kept B4).kept B5
  have b55 := (b5.kept B4).kept B5
  have bB5 := (bB.kept B4).kept B5
  clear fr flev fwin fcode ftable fall q0 q38 hNw hshl
  obtain ⟨fk, fr, flev, fl, fwin, fcode, ftable, fall⟩ := b15.prob hp
  have g5 := b55.cell 0
  have gt0 := bt.cell 0
  simp only [List.getElem?_toArray, List.getElem?_cons_zero] at g5 gt0
  have htw : w4.heap.size < w5.heap.size := bt.lt
  have hw4 : w.heap.size ≤ w4.heap.size := Nat.le_trans B30.size B4.size
  refine wp_region_kept (by kernel_rfl) (by kernel_rfl) ?_
  have q0 := KeptW.cell g5
  have q1 := KeptW.cell gt0
  repeat first
    | ((with_reducible apply q_ld); rfl; (with_reducible assumption); (simp only [List.set_cons_zero, List.set_cons_succ]; rfl))
    | go_big_quiet_step (exact Calls.kept (metric_Range p.T hp.t htt p.C.R HCR.out (p.L + p.C.K - 1) (by omega) (by omega) _))
  refine wpQuiet_nil ?_
  intro w6 B6
  have bt6 := bt.kept B6
  have b16 := b15.kept B6
  have b56 := b55.kept B6
  have bB6 := bB5.kept B6
  have B60 := B50.trans (B6.mono B50.size)
  clear fk fr flev fl fwin fcode ftable fall q0 q1 g5 gt0
  have c2 := bt6.cell 2
  have c3 := bt6.cell 3
  have c4 := bt6.cell 4
  simp only [List.getElem?_toArray, List.getElem?_cons_zero, List.getElem?_cons_succ] at c2 c3 c4
  have z2 := bt6.frozen 2
  have z3 := bt6.frozen 3
  have z4 := bt6.frozen 4
  have hb5lt := b5.lt
  have hB4s := B4.size
  have hB6s := B6.size
  have hs2 := fun x y => ((bt6.setCell (i := 3) x).setCell (i := 4) y).store (P := Tryz.prog) (i := 2) (v := .func (.func 36) #[] #[.pointer (some ⟨w.heap.size, 0, none⟩), .pointer (some ⟨w2.heap.size, 0, none⟩)]) (by simp) ⟨fun _ h => (by cases h), fun _ h => (by cases h)⟩
  have hNN : p.L + p.C.K - 1 = p.N := rfl
  have HNN := Lib.hid hNN; clear hNN
  go_wp2
  all_goals go_ret2
  all_goals refine (show NewPost _ _ _ _ from ⟨⟨w4.heap.size, w.heap.size, w2.heap.size, w1.heap.size, c, rfl, ⟨?_, ((b16.setOther (by simp; omega) _).setOther (by simp; omega) _).setOther (by simp; omega) _, ((b56.setOther (by simp; omega) _).setOther (by simp; omega) _).setOther (by simp; omega) _, bB6.block ?_, hcap⟩, by omega, Nat.le_refl _, by omega, by omega⟩, B60.trans ((((Below.refl _ _).setCell (by simp; omega) _).setCell (by simp; omega) _).setCell (by simp; omega) _)⟩)
  all_goals first
    | (rw [Below.heap_setCell _ _ _ _ (by simp; omega), Below.heap_setCell _ _ _ _ (by simp; omega), Below.heap_setCell _ _ _ _ (by simp; omega)]; done)
    | (refine (((bt6.setCell _).setCell _).setCell _).cast ?_; simp [treeCells, Pb.N]; omega)
end Go.Proofs.YtnjmplapjnnjdaaGreat

/- The walk of a tree's kid by a bit: the program's closure. -/
namespace Go.Proofs.YtnjmplapjnnjdaaGreat
open Go.RowKit

/-- THE ARM, in a region that draws, for a part of a slice whose elements are one cell. -/
theorem q_sl {P : Program} {ops : Array Oper} {rest : List Oper} {l l' : List Value} {ds : List Deferred} {w : World} {Q : Act → Prop} {t e d g o n cap i j m o' : Nat} {x lo hi : Operand} {k k' : IntKind} {ty : TypeId} {ps : String} {af : Array Edge}
    [S : SlTy P t e] [T : CellTy P e] (hx : (Act.mk l.toArray ds).eval x = .slice (some ⟨g, o, none⟩) n cap) (hlo : (Act.mk l.toArray ds).eval lo = .int k (i : Int)) (hhi : (Act.mk l.toArray ds).eval hi = .int k' (j : Int)) (h1 : i < j) (h2 : j ≤ cap) (hm : j - i = m) (ho : o + i = o') (hs : l.set d (.slice (some ⟨g, o', none⟩) m (cap - i)) = l')
    (h : wpQuiet P ops (fun w' => ∃ s : KeptW w, w' = s.val) Q rest ⟨l'.toArray, ds⟩) : wpQuiet P ops (fun w' => ∃ s : KeptW w, w' = s.val) Q (⟨some d, .slice t x (some lo) (some hi) none, ty, ps, af, none⟩ :: rest) ⟨l.toArray, ds⟩ := by
  subst hm ho
  refine BigFrame.wpQuiet_want rfl fun K hK => ⟨.slice (some ⟨g, o + i, none⟩) (j - i) (cap - i), fun w' ⟨s, hw⟩ => ?_, hK _ (by rw [put_list, hs]; exact h)⟩
  have hr : (Instr.sliceAt t (.slice (some ⟨g, o, none⟩) n cap) (some (.int k (i : Int))) (some (.int k' (j : Int))) none).run P w' = .ok (.slice (some ⟨g, o + i, none⟩) (j - i) (cap - i)) w' := by
    have hi1 : ¬ cap < j := by omega
    have hi2 : ¬ j < i := by omega
    have hi3 : ¬ cap = i := by omega
    simp [Instr.sliceAt, Instr.slice, Sem.run_bind, run_underlying S.out, Instr.sliceBounds, Instr.sliceBound, asIntOf, Sem.run_pure, hi1, hi2, hi3, run_sizeCell T, Addr.add, show j ≤ cap from h2, show i ≤ j by omega]
  unfold Oper.quietAt execOp
  simp [hx, hlo, hhi, Sem.run_bind, hr, Oper.quietUpon]
/-- A part of a row of bytes. -/
theorem Bytes.part {w : World} {g o : Nat} {l : List Nat} (h : Bytes w (some ⟨g, o, none⟩) l) (i r : Nat) : Bytes w (some ⟨g, o + i, none⟩) ((l.drop i).take r) :=
  ⟨fun k hk => by
    have hk' : i + k < l.length := by simp at hk; omega
    obtain ⟨b, o', ha, hc⟩ := h.cell (i + k) hk'
    obtain ⟨rfl, rfl⟩ : g = b ∧ o = o' := by simpa using ha
    refine ⟨g, o + i, rfl, ?_⟩
    rw [Nat.add_assoc, hc]
    simp, fun x hx => h.lt x (List.mem_of_mem_drop (List.mem_of_mem_take hx))⟩

/-- The levels of step d. -/
def Pb.lv (p : Pb) (d : Nat) : List Nat := (p.B.drop (d * p.C.R.toNat)).take p.C.R.toNat
/-- The metric of step d with register v. -/
def Pb.br (p : Pb) (d v : Nat) : Int := brS p.T (p.C.y v) (p.lv d) p.C.R.toNat
def nodeCells (s d m : Int) : Array Value := #[.int .u32 s, .int .i64 d, .int .i64 m]
theorem nodeCells_flat (s d m : Int) : Flat (nodeCells s d m) := by
  intro u hu
  simp [nodeCells] at hu
  rcases hu with rfl | rfl | rfl <;> exact ⟨fun _ h => (by cases h), fun _ h => (by cases h)⟩
theorem Pb.lv_len {p : Pb} (h : probChk p = 0) {d : Nat} (hd : (d : Int) < p.N) : (p.lv d).length = p.C.R.toNat := by
  obtain ⟨⟨k1, k2⟩, l1, l2, cr, hwin, ⟨v1, v2⟩, hlev, hcc, htt⟩ := probChk_ok h
  unfold Pb.lv
  rw [List.length_take, List.length_drop]
  have : (d + 1) * p.C.R.toNat ≤ p.B.length := by
    obtain ⟨r, hr⟩ : ∃ r : Nat, p.C.R = r := ⟨p.C.R.toNat, by omega⟩
    obtain ⟨N, hN⟩ : ∃ N : Nat, p.N = N := ⟨p.N.toNat, by unfold Pb.N; omega⟩
    have e : p.C.R.toNat = r := by omega
    rw [hr, hN] at hwin
    rw [e, show p.B.length = N * r by exact_mod_cast hwin]
    exact Nat.mul_le_mul_right _ (by omega)
  rw [Nat.add_mul, Nat.one_mul] at this
  omega

set_option maxRecDepth 5000 in
set_option maxHeartbeats 1000000 in
theorem tree_kid (p : Pb) (hp : p.Ok) (h : probChk p = 0) (tb pb rb g c : Nat) (s : Int) (s0 : 0 ≤ s) (s1 : s < 2 ^ (p.C.K.toNat - 1)) (d : Nat) (hd : (d : Int) < p.N) (m : Int) (b : Int) (b0 : 0 ≤ b) (b1 : b < 2) (w : World) (hT : TreeIn w p tb pb rb g c) :
    Pure Tryz.prog 36 #[.agg (nodeCells s d m), .int .u8 b, .pointer (some ⟨pb, 0, none⟩), .pointer (some ⟨rb, 0, none⟩)] w (.agg (nodeCells ((2 * s + b) % 2 ^ (p.C.K.toNat - 1)) (d + 1) (wrap64 (m + p.br d (2 * s + b).toNat)))) := by
  obtain ⟨⟨k1, k2⟩, l1, l2, cr, hwin, ⟨v1, v2⟩, hlev, hcc, htt⟩ := probChk_ok h
  have hlen := Pb.lv_len h hd
  have HWIN := Lib.hid hwin; clear hwin
  have HCR := Lib.hid cr
  have HLEN := Lib.hid hlen; clear hlen
  have hc := hT.cap
  have hNb : p.N ≤ 1055 := by unfold Pb.N; omega
  go_enter Tryz.func36, Tryz.ntmps36
  go_upto_region 1 with (fail)
  refine name2 ?_
  intro w0 b4 b6 B0
  have hT0 := hT.kept B0
  obtain ⟨fk, fr, flev, fl, fwin, fcode, ftable, fall⟩ := hT0.prob.prob hp
  have n0 := b4.cell 0
  have n1 := b4.cell 1
  have n2 := b4.cell 2
  simp only [nodeCells, List.getElem?_toArray, List.getElem?_cons_zero, List.getElem?_cons_succ] at n0 n1 n2
  go_wp2_with ((with_reducible apply ld); rfl; (with_reducible assumption); (simp only [List.set_cons_zero, List.set_cons_succ]; rfl))
  refine (trellis_Step p.C hp.c hcc s b s0 s1 b0 b1 _).mono ?_
  rintro e w1 ⟨rfl, B1⟩
  clear fk fr flev fl fwin fcode ftable fall n0 n1 n2
  have hv0 : 0 ≤ 2 * s + b := by omega
  obtain ⟨v, hv⟩ : ∃ v : Nat, v = (2 * s + b).toNat := ⟨_, rfl⟩
  rw [← hv]
  have HV := Lib.hid hv; clear hv
  have hsz : (p.C.yv v).size = 3 := rfl
  have hfl := p.C.ys_flat v p.C.R.toNat
  have hT1 := hT0.kept B1
  have b41 := b4.kept B1
  have b61 := b6.kept B1
  have B10 := B0.trans (B1.mono B0.size)
  go_upto_region 2 with ((with_reducible apply st); rfl; rfl; exact Box.new _ _ _; rfl; exact hsz; exact hfl; intro w2 b8 B2)
  have B12 : Below w1.heap.size w1 w2 := ((Below.refl _ _).alloc (Nat.le_refl _) _).trans B2
  have B20 := B10.trans (B12.mono B10.size)
  have hT2 := hT1.kept B12
  have b42 := b41.kept B12
  have b62 := b61.kept B12
  obtain ⟨fk, fr, flev, fl, fwin, fcode, ftable, fall⟩ := hT2.prob.prob hp
  have n0 := b42.cell 0
  have n1 := b42.cell 1
  have n2 := b42.cell 2
  have r0 := hT2.rate.cell 0
  simp only [nodeCells, List.getElem?_toArray, List.getElem?_cons_zero, List.getElem?_cons_succ] at n0 n1 n2 r0
  have gY := b8.load (off := 0) (n := 3) (cs' := p.C.yv v) (by rw [hsz]; omega) (Array.extract_eq_self_of_le (by rw [hsz]; omega))
  obtain ⟨r, hr⟩ : ∃ r : Nat, p.C.R = r := ⟨p.C.R.toNat, by omega⟩
  have hrn : p.C.R.toNat = r := by omega
  obtain ⟨N, hN⟩ : ∃ N : Nat, p.N = N := ⟨p.N.toNat, by unfold Pb.N; omega⟩
  have hw1 := HWIN.out
  rw [hr, hN] at hw1
  have hBl : p.B.length = N * r := by exact_mod_cast hw1
  have hle : (d + 1) * r ≤ N * r := Nat.mul_le_mul_right _ (by omega)
  have hr3 : r ≤ 3 := by omega
  have hr2 : 2 ≤ r := by omega
  have hdr : (d + 1) * r = d * r + r := by rw [Nat.add_mul, Nat.one_mul]
  have hd3 : d * r ≤ 3165 := by
    have : d * r ≤ 1055 * 3 := Nat.mul_le_mul (by omega) hr3
    omega
  have hlv : p.lv d = (p.B.drop (d * r)).take r := by unfold Pb.lv; rw [hrn]
  have hbr : p.br d v = brS p.T (p.C.y v) (p.lv d) (p.lv d).length := by unfold Pb.br; rw [HLEN.out]
  have hlr : (p.lv d).length = r := by rw [HLEN.out, hrn]
  obtain ⟨i, hi⟩ : ∃ i : Nat, d * r = i := ⟨_, rfl⟩
  have e1 : (d : Int) * p.C.R = (i : Int) := by rw [hr, ← hi]; push_cast; rfl
  have e2 : ((d : Int) + 1) * p.C.R = ((i + r : Nat) : Int) := by rw [hr, ← hi]; push_cast; rw [Int.add_mul, Int.one_mul]
  have hi4 : (i : Int) ≤ 4000 := by omega
  obtain ⟨j, hj⟩ : ∃ j : Nat, i + r = j := ⟨_, rfl⟩
  rw [hj] at e2
  have hj4 : (j : Int) ≤ 4003 := by omega
  have hji : j - i = r := by omega
  have hlt : i < j := by omega
  have hjc : j ≤ c := by omega
  have hbytes : Bytes w2 (some ⟨g, i, none⟩) (p.lv d) := by rw [hlv, hi]; simpa using hT2.win.part i r
  have HBY := Lib.hid hbytes; clear hbytes
  have HLV := Lib.hid hlv; clear hlv
  have HBR := Lib.hid hbr; clear hbr
  have HLR := Lib.hid hlr; clear hlr
  have HJI := Lib.hid hji; clear hji
  have HR := Lib.hid hr; clear hr
  have HN := Lib.hid hN; clear hN
  clear hrn hBl hdr hi hw1
  have hd4 : (d : Int) ≤ 2000 := by omega
  refine wp_region_kept (by kernel_rfl) (by kernel_rfl) ?_
  have q39 := KeptW.cell fwin
  have q1 := KeptW.cell n1
  have qr := KeptW.cell r0
  clear fk fr flev fl fwin n0 n1 n2 r0
  repeat first
    | ((with_reducible apply q_ld); rfl; (with_reducible assumption); (simp only [List.set_cons_zero, List.set_cons_succ]; rfl))
    | ((with_reducible apply q_sl); rfl; rfl; rfl; exact hlt; exact hjc; exact HJI.out.trans HLR.out.symm; exact Nat.zero_add i; (simp only [List.set_cons_zero, List.set_cons_succ]; rfl))
    | go_big_quiet_step (exact Calls.kept (metric_Branch p.T hp.t htt p.C.R HCR.out (p.lv d) (some ⟨g, i, none⟩) (c - i) (p.C.y v) (p.C.y_lt v) (by rw [HLR.out, HR.out]) (fun x hx => hlev x (List.mem_of_mem_drop (List.mem_of_mem_take (HLV.out ▸ hx)))) _ (HBY.out.kept (Subtype.property _))))
  refine wpQuiet_nil ?_
  intro w3 B3
  rw [← HBR.out]
  have b43 := b42.kept B3
  have b63 := b62.kept B3
  have B30 := B20.trans (B3.mono B20.size)
  have n0 := b43.cell 0
  have n1 := b43.cell 1
  have n2 := b43.cell 2
  simp only [nodeCells, List.getElem?_toArray, List.getElem?_cons_zero, List.getElem?_cons_succ] at n0 n1 n2
  clear fcode ftable fall gY q39 q1 qr e1 e2 hj hle hd3
  go_wp2_with ((with_reducible apply st); rfl; rfl; exact b63; rfl; rfl; exact nodeCells_flat _ _ _; intro w4 b64 B4)
  refine bodyPost_ret (results_cellAgg rfl rfl (b64.load (off := 0) (n := 3) (Nat.le_refl _) (Array.extract_eq_self_of_le (Nat.le_refl _)))) rfl ?_
  refine ⟨?_, B30.trans (B4.mono (by omega))⟩
  rw [HV.out]; rfl
end Go.Proofs.YtnjmplapjnnjdaaGreat
