/- The walk of the metric of a step, as the prefixes' closure reckons it. -/
import Derived.Test.YtiiljecocajdpaaMore
namespace Go.Proofs.Ytiiljecocajdpaa
open Go.RowKit

set_option maxRecDepth 5000 in
set_option maxHeartbeats 1000000 in
theorem score_worth (p : Pb) (hp : p.Ok) (h : probChk p = 0) (g o c b1 br : Nat) (hcap : p.B.length ≤ c) (d : Nat) (hd : (d : Int) < p.N) (v : Nat) (w : World)
    (x1 : Box w b1 (p.cells (.slice (some ⟨g, o, none⟩) p.B.length c))) (x2 : Box w br #[.int .i64 p.C.R]) (hw : Bytes w (some ⟨g, o, none⟩) p.B) :
    Pure Try.prog 95 #[.int .i64 d, .agg (ya (p.C.y v)), .pointer (some ⟨b1, 0, none⟩), .pointer (some ⟨br, 0, none⟩)] w (.int .i64 (p.br d v)) := by
  obtain ⟨⟨k1, k2⟩, l1, l2, cr, hwin, ⟨v1, v2⟩, hlev, hcc, htt⟩ := probChk_ok h
  have hlen := Pb.lv_len h hd
  have HWIN := Lib.hid hwin; clear hwin
  have HCR := Lib.hid cr
  have HLEN := Lib.hid hlen; clear hlen
  have hNb : p.N ≤ 1055 := by unfold Pb.N; omega
  go_enter Try.func95, Try.ntmps95
  go_upto_region 1 with (fail)
  refine name1 ?_
  intro w0 b8 B0
  have x10 := x1.kept B0
  have x20 := x2.kept B0
  have hw0 := hw.kept B0
  obtain ⟨fk, fr, flev, fl, fwin, fcode, ftable, fall⟩ := x10.prob hp
  clear fk fr flev fl fcode fall
  have r0 := x20.cell 0
  simp only [List.getElem?_toArray, List.getElem?_cons_zero] at r0
  have gY := b8.load (off := 0) (n := 3) (cs' := ya (p.C.y v)) (by rw [ya_size]; omega) (Array.extract_eq_self_of_le (by rw [ya_size]; omega))
  obtain ⟨r, hr⟩ : ∃ r : Nat, p.C.R = r := ⟨p.C.R.toNat, by omega⟩
  have hrn : p.C.R.toNat = r := by omega
  obtain ⟨N, hN⟩ : ∃ N : Nat, p.N = N := ⟨p.N.toNat, by unfold Pb.N; omega⟩
  have hw1 := HWIN.out
  rw [hr, hN] at hw1
  have hBl : p.B.length = N * r := by exact_mod_cast hw1
  have hle : (d + 1) * r ≤ N * r := Nat.mul_le_mul_right _ (by omega)
  have hr3 : r ≤ 3 := by omega
  have hr2 : 2 ≤ r := by omega
  have hdr : (d + 1) * r = d * r + r := by rw [Nat.add_mul, Nat.one_mul]
  have hd3 : d * r ≤ 3165 := by
    have : d * r ≤ 1055 * 3 := Nat.mul_le_mul (by omega) hr3
    omega
  have hlv : p.lv d = (p.B.drop (d * r)).take r := by unfold Pb.lv; rw [hrn]
  have hbr : p.br d v = brS p.T (p.C.y v) (p.lv d) (p.lv d).length := by unfold Pb.br; rw [HLEN.out]
  have hlr : (p.lv d).length = r := by rw [HLEN.out, hrn]
  obtain ⟨i, hi⟩ : ∃ i : Nat, d * r = i := ⟨_, rfl⟩
  have e1 : (d : Int) * p.C.R = (i : Int) := by rw [hr, ← hi]; push_cast; rfl
  have e2 : ((d : Int) + 1) * p.C.R = ((i + r : Nat) : Int) := by rw [hr, ← hi]; push_cast; rw [Int.add_mul, Int.one_mul]
  have hi4 : (i : Int) ≤ 4000 := by omega
  obtain ⟨j, hj⟩ : ∃ j : Nat, i + r = j := ⟨_, rfl⟩
  rw [hj] at e2
  have hj4 : (j : Int) ≤ 4003 := by omega
  have hji : j - i = r := by omega
  have hlt : i < j := by omega
  have hjc : j ≤ c := by omega
  have hbytes : Bytes w0 (some ⟨g, o + i, none⟩) (p.lv d) := by rw [hlv, hi]; exact hw0.part i r
  have HBY := Lib.hid hbytes; clear hbytes
  have HLV := Lib.hid hlv; clear hlv
  have HBR := Lib.hid hbr; clear hbr
  have HLR := Lib.hid hlr; clear hlr
  have HJI := Lib.hid hji; clear hji
  have HR := Lib.hid hr; clear hr
  have HN := Lib.hid hN; clear hN
  clear hrn hBl hdr hi hw1
  have hd4 : (d : Int) ≤ 2000 := by omega
  refine wp_region_kept (by kernel_rfl) (by kernel_rfl) ?_
  have q39 := KeptW.cell fwin
  have qr := KeptW.cell r0
  clear fwin r0
  repeat first
    | ((with_reducible apply q_ld); rfl; (with_reducible assumption); (simp only [List.set_cons_zero, List.set_cons_succ]; rfl))
    | ((with_reducible apply q_sl); rfl; rfl; rfl; exact hlt; exact hjc; exact HJI.out.trans HLR.out.symm; rfl; (simp only [List.set_cons_zero, List.set_cons_succ]; rfl))
    | go_big_quiet_step (exact Calls.kept (metric_Branch p.T hp.t htt p.C.R HCR.out (p.lv d) (some ⟨g, o + i, none⟩) (c - i) (p.C.y v) (p.C.y_lt v) (by rw [HLR.out, HR.out]) (fun x hx => hlev x (List.mem_of_mem_drop (List.mem_of_mem_take (HLV.out ▸ hx)))) _ (HBY.out.kept (Subtype.property _))))
  refine wpQuiet_nil ?_
  intro w3 B3
  rw [← HBR.out]
  go_wp2
  go_ret
  exact ⟨rfl, bOn B0 B3⟩
end Go.Proofs.Ytiiljecocajdpaa
