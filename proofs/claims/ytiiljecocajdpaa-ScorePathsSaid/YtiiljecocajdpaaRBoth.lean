/- The walk of the document's dip and total. -/
import Derived.Test.YtiiljecocajdpaaRPref
namespace Go.Proofs.Ytiiljecocajdpaa
open Go.RowKit

theorem dipOf_take {l : List Int} {k : Nat} {x : Int} (h : l[k]? = some x) : dipOf (l.take (k + 1)) = min (dipOf (l.take k)) x := by
  rw [List.take_add_one, h]
  exact dipOf_snoc _ _
set_option maxRecDepth 5000 in
set_option maxHeartbeats 2000000 in
theorem ref11_Both (p : Pb) (a : Option Addr) (cap : Nat) (hp : p.Ok) (bs : List Nat) (ab : Option Addr) (cb : Nat) (hbl : (bs.length : Int) ≤ 9223372036854775807) (w : World) (hw : Bytes w a p.B) (hby : Bytes w ab bs) :
    Pure Try.prog 82 #[.agg (p.cells (.slice a p.B.length cap)), .slice ab bs.length cb] w (.tuple #[.int .i64 (p.dip bs), .int .i64 (p.tot bs), .int .i64 (p.pathChk bs)]) := by
  unfold Pb.dip Pb.tot
  by_cases hc : p.pathChk bs = 0
  · rw [if_neg (by simp [hc]), if_neg (by simp [hc]), hc]
    obtain ⟨hch, hpath⟩ := Pb.pathChk_ok hc
    obtain ⟨hN3, hN5⟩ := Pb.N_le hch
    go_enter Try.func82, Try.ntmps82
    go_upto_region 1 with (fail)
    refine name1 ?_
    intro w0 b2 B0
    obtain ⟨fk, fr, flev, fl, fwin, fcode, ftable, fall⟩ := b2.prob hp
    clear fk fr flev fl fwin fcode ftable
    go_wp2_with ((with_reducible apply ld); rfl; (with_reducible assumption); (simp only [List.set_cons_zero, List.set_cons_succ]; rfl))
    refine (ref11_Prefixes p a cap hp bs ab cb hbl hc _ (hw.kept B0) (hby.kept B0)).mono ?_
    rintro e w1 ⟨⟨v, rfl, R⟩, B1⟩
    clear fall
    have hl := p.pm_len bs
    obtain ⟨g1, c1, rfl, hg1, I1⟩ := R.form (by omega)
    have hlast := p.pm_last bs
    obtain ⟨M, hM⟩ : ∃ M, M = p.N.toNat := ⟨_, rfl⟩
    rw [← hM] at hl hlast
    obtain ⟨la, hla⟩ : ∃ l, l = p.pm bs := ⟨_, rfl⟩
    rw [← hla] at hl hlast I1 ⊢
    rw [hl]
    have hM5 : M ≤ 1055 := by omega
    have HL := Lib.hid hl
    have HLAST := Lib.hid hlast
    have HLA := Lib.hid hla
    have B10 := bOn B0 B1
    clear R hla hM hl hlast hN3 hN5
    go_wp2_with fail
    go_loop [9, 10] (fun m i => ∃ k : Nat, k ≤ M + 1 ∧ i = .int .i64 (k : Int) ∧ m = .int .i64 (dipOf (la.take k))) (fun _ i => M + 1 - (intOf i).toNat)
    case atStart => exact ⟨0, Nat.zero_le _, rfl, rfl⟩
    case round =>
      obtain ⟨k, hk, rfl, rfl⟩ := hrel
      by_cases hkl : k < M + 1
      · have j1 : decide ((k : Int) < (M : Int) + 1) = true := by simp; omega
        have j2 : (k : Int) < (M : Int) + 1 := by omega
        have hb1 : (k : Int) + 1 ≤ 9223372036854775807 := by omega
        obtain ⟨x, hx⟩ : ∃ x, la[k]? = some x := ⟨_, List.getElem?_eq_getElem (by rw [HL.out]; exact hkl)⟩
        have cx := I1.2 k x hx
        have hd := dipOf_take hx
        obtain ⟨D, hD⟩ : ∃ D, D = dipOf (la.take k) := ⟨_, rfl⟩
        rw [← hD] at hd ⊢
        by_cases hlt : x < D
        · have hd2 : x = dipOf (la.take (k + 1)) := by rw [hd]; omega
          have HD := Lib.hid hd2
          have hdd : decide (x < D) = true := decide_eq_true hlt
          clear hd hd2 hx hD
          go_wp2
          go_round
          case measure => first | exact ap_meas' hkl | exact ap_meas hkl hb1
          case rel => exact ⟨k + 1, hkl, (by first | rfl | exact congrArg (Value.int .i64) (ap_succ hb1)), by rw [← HD.out]⟩
        · have hd2 : D = dipOf (la.take (k + 1)) := by rw [hd]; omega
          have HD := Lib.hid hd2
          have hdd : decide (x < D) = false := decide_eq_false hlt
          clear hd hd2 hx hD
          go_wp2
          go_round
          case measure => first | exact ap_meas' hkl | exact ap_meas hkl hb1
          case rel => exact ⟨k + 1, hkl, (by first | rfl | exact congrArg (Value.int .i64) (ap_succ hb1)), by rw [← HD.out]⟩
      · obtain rfl := ap_end hkl hk
        have j1 : decide ((((M + 1 : Nat)) : Int) < (M : Int) + 1) = false := by simp
        have cl := I1.2 M _ HLAST.out
        have htk : la.take (M + 1) = la := List.take_of_length_le (by rw [HL.out]; exact Nat.le_refl _)
        rw [htk]
        have q1 := KeptW.cell cl
        clear htk cl
        go_upto_region 10 with (fail)
        refine wp_region_kept (by kernel_rfl) (by kernel_rfl) ?_
        repeat first
          | go_big_quiet_step (fail)
        refine wpQuiet_nil ?_
        intro w3 B3
        go_wp2
        refine bodyPost_ret (results_tmp3 rfl rfl rfl rfl) rfl ?_
        exact ⟨by rw [← HLA.out]; rfl, bOn B10 B3⟩
  · rw [if_pos (by simpa using hc), if_pos (by simpa using hc)]
    have hz : (p.pathChk bs != 0) = true := by simpa using hc
    go_enter Try.func82, Try.ntmps82
    go_upto_region 1 with (fail)
    refine name1 ?_
    intro w0 b2 B0
    obtain ⟨fk, fr, flev, fl, fwin, fcode, ftable, fall⟩ := b2.prob hp
    clear fk fr flev fl fwin fcode ftable
    go_wp2_with ((with_reducible apply ld); rfl; (with_reducible assumption); (simp only [List.set_cons_zero, List.set_cons_succ]; rfl))
    refine (ref11_Prefixes_bad p a cap hp bs ab cb hbl hc _ (hw.kept B0) (hby.kept B0)).mono ?_
    rintro e w1 ⟨rfl, B1⟩
    clear fall
    go_wp2
    refine bodyPost_ret (results_tmp3 rfl rfl rfl rfl) rfl ?_
    exact ⟨rfl, bOn B0 B1⟩
end Go.Proofs.Ytiiljecocajdpaa
