/- The walk of the metric of a step: the document's. -/
import Derived.Test.YtiiljecocajdpaaMore
namespace Go.Proofs.Ytiiljecocajdpaa
open Go.RowKit

theorem wrap_mul_add {d R k n : Nat} (hn : (n : Int) ≤ 9223372036854775807) (h : d * R + k < n) : wrap64 (wrap64 ((d : Int) * (R : Int)) + (k : Int)) = ((d * R + k : Nat) : Int) := by
  have h0 : (d : Int) * (R : Int) = ((d * R : Nat) : Int) := by push_cast; rfl
  rw [h0]
  generalize d * R = m at h
  unfold wrap64
  omega
set_option maxRecDepth 5000 in
set_option maxHeartbeats 1000000 in
theorem ref11_Branch (p : Pb) (a : Option Addr) (cap : Nat) (hp : p.Ok) (h : probChk p = 0) (d : Nat) (hd : (d : Int) < p.N) (v : Nat) (w : World) (hw : Bytes w a p.B) :
    Pure Try.prog 94 #[.agg (p.cells (.slice a p.B.length cap)), .int .i64 d, .agg (ya (p.C.y v))] w (.int .i64 (p.br d v)) := by
  obtain ⟨⟨k1, k2⟩, l1, l2, cr, hwin, ⟨v1, v2⟩, hlev, hcc, htt⟩ := probChk_ok h
  go_enter Try.func94, Try.ntmps94
  go_upto_region 1 with (fail)
  refine name2 ?_
  intro w0 b3 b5 B0
  have hw0 := hw.kept B0
  obtain ⟨fk, fr, flev, fl, fwin, fcode, ftable, fall⟩ := b3.prob hp
  clear fk flev fl fcode ftable fall
  have hN : p.N ≤ 1055 := by unfold Pb.N; omega
  have hlen : ((p.lv d).length : Int) = p.C.R := by rw [Pb.lv_len h hd]; rcases cr with h | h <;> omega
  obtain ⟨R, hR⟩ : ∃ R : Nat, p.C.R = R := ⟨p.C.R.toNat, by omega⟩
  have hRR : p.C.R.toNat = R := by omega
  have hR3 : 2 ≤ R ∧ R ≤ 3 := by omega
  obtain ⟨hR2, hR3⟩ := hR3
  rw [hR] at fr
  have hll : p.B.length = p.N.toNat * R := by
    have : (p.B.length : Int) = ((p.N.toNat * R : Nat) : Int) := by rw [hwin, hR]; push_cast; congr 1; omega
    exact_mod_cast this
  have HR := Lib.hid hR
  have HRR := Lib.hid hRR
  have HL := Lib.hid hll
  have HW := Lib.hid hwin
  clear hR hRR hll hwin cr
  have hl16 : ∀ x ∈ p.lv d, x < 16 := fun x hx => by
    have := hlev x (List.mem_of_mem_drop (List.mem_of_mem_take hx))
    omega
  go_wp2_with fail
  go_loopw [7, 8] (fun m i wr => ∃ k : Nat, k ≤ R ∧ i = .int .i64 k ∧ m = .int .i64 (brS p.T (p.C.y v) (p.lv d) k) ∧ Below w0.heap.size w0 wr) (fun _ i _ => R - (intOf i).toNat)
  case atStart => exact ⟨0, by omega, rfl, rfl, Below.refl _ _⟩
  case round =>
    obtain ⟨k, hk, rfl, rfl, B⟩ := hrel
    have b3r := b3.kept B
    have b5r := b5.kept B
    have hwr := hw0.kept B
    clear fr fwin
    obtain ⟨fk, fr, flev, fl, fwin, fcode, ftable, fall⟩ := b3r.prob hp
    rw [HR.out] at fr
    clear fk flev fl fcode ftable fall
    by_cases hkl : k < R
    · have hkr : (k : Int) < (R : Int) := by omega
      have hk2 : decide ((k : Int) < (R : Int)) = true := by simp; omega
      have hdl : d * R + k < p.B.length := by
        rw [HL.out]
        have : d + 1 ≤ p.N.toNat := by omega
        have := Nat.mul_le_mul_right R this
        rw [Nat.add_mul] at this
        omega
      have hd2 : wrap64 (wrap64 ((d : Int) * (R : Int)) + (k : Int)) = ((d * R + k : Nat) : Int) := by
        exact wrap_mul_add hp.n hdl
      obtain ⟨I, hI⟩ : ∃ I, I = d * R + k := ⟨_, rfl⟩
      rw [← hI] at hdl hd2
      obtain ⟨b, o, rfl, hcell⟩ := hwr.cell I hdl
      have hyc := b5r.cell k
      rw [ya_get (p.C.y v) (by omega)] at hyc
      have hyk := p.C.y_lt v k
      have hx16 : p.B[I] < 16 := by have := hlev _ (List.getElem_mem hdl); omega
      have hk4 : (k : Int) < 3 := by omega
      have hyk2 : ((p.C.y v k : Nat) : Int) < 2 := by omega
      have hx2 : ((p.B[I] : Nat) : Int) < 16 := by omega
      have hdl2 : (I : Int) < p.B.length := by omega
      have hm := b3r.cell (6 + p.C.y v k * 16 + p.B[I])
      rw [show 6 + p.C.y v k * 16 + p.B[I] = 5 + (1 + p.C.y v k * 16 + p.B[I]) by omega, hp.cellt _ (by omega), hp.t.cellm hyk hx16, show 5 + (1 + p.C.y v k * 16 + p.B[I]) = 6 + p.C.y v k * 16 + p.B[I] by omega] at hm
      have HI := Lib.hid hI
      clear hI
      go_wp2_with fail
      (refine wp_region_kept_tail 21 (by kernel_rfl) (by kernel_rfl) ?_; simp only [List.take_succ_cons, List.take_zero, List.drop_succ_cons, List.drop_zero])
      have q0 := KeptW.cell fr
      have q1 := KeptW.cell fwin
      have q2 := KeptW.cell hyc
      have q3 := KeptW.cell hcell
      have q4 := KeptW.cell hm
      repeat first
        | ((with_reducible apply q_ld); rfl; (with_reducible assumption); (simp only [List.set_cons_zero, List.set_cons_succ]; rfl))
        | go_big_quiet_step (fail)
      refine wpQuiet_nil ?_
      intro w1 B1
      have hbd := brS_bd htt (p.C.y_lt v) hl16 k
      have hbd2 := tabChk_m htt hyk hx16
      have hgd : (p.lv d).getD k 0 = p.B[I] := by
        have h1 : (p.lv d)[k]? = p.B[I]? := by
          unfold Pb.lv
          rw [HRR.out, List.getElem?_take, if_pos hkl, List.getElem?_drop, HI.out]
        rw [List.getD_eq_getElem?_getD, h1, List.getElem?_eq_getElem hdl]
        rfl
      have HS : Hid (brS p.T (p.C.y v) (p.lv d) k + p.T.m (p.C.y v k) p.B[I] = brS p.T (p.C.y v) (p.lv d) (k + 1)) := by
        show _ = _
        simp only [brS, hgd]
      clear hgd
      go_wp2
      go_roundw
      case measure => simp only [intOf]; omega
      case rel => exact ⟨k + 1, by omega, by go_num, by rw [← HS.out]; congr 1; unfold wrap64; omega, B.trans (B1.mono B.size)⟩
    · obtain rfl : k = R := by omega
      have HE : Hid (brS p.T (p.C.y v) (p.lv d) k = p.br d v) := by
        show _ = _
        unfold Pb.br
        rw [HRR.out]
      have hk2 : decide ((k : Int) < (k : Int)) = false := by simp
      go_wp2
      go_ret
      exact ⟨by rw [HE.out]; rfl, bOn B0 B⟩
end Go.Proofs.Ytiiljecocajdpaa
