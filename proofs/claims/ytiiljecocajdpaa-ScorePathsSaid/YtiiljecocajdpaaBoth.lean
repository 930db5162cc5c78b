/- The walks of dip and total: the program's. -/
import Derived.Test.YtiiljecocajdpaaPref2
namespace Go.Proofs.Ytiiljecocajdpaa
open Go.RowKit Go.Shelf
attribute [local go_sem] Oper.semAt_some

/-- What the prefixes' iterator stands on. -/
structure PrefIn (w : World) (B : Nat) (p : Pb) (v : Value) (hv : Value) (b1 b2 br bw : Nat) : Prop where
  prob : Box w b1 (p.cells v)
  bits : Box w b2 #[hv]
  rate : Box w br #[.int .i64 p.C.R]
  worth : Box w bw #[.func (.func 95) #[] #[.pointer (some ⟨b1, 0, none⟩), .pointer (some ⟨br, 0, none⟩)]]
  new : B ≤ b1 ∧ B ≤ b2 ∧ B ≤ br ∧ B ≤ bw
theorem score_prefixes (p : Pb) (hp : p.Ok) (v : Value) (ab : Option Addr) (nb cb : Nat) (w : World) :
    Calls Try.prog 77 #[.agg (p.cells v), .slice ab nb cb] w fun e w' => (∃ b1 b2 br bw, e = .returned (.func (.func 96) #[] #[.pointer (some ⟨b1, 0, none⟩), .pointer (some ⟨b2, 0, none⟩), .pointer (some ⟨bw, 0, none⟩)]) ∧ PrefIn w' w.heap.size p v (.slice ab nb cb) b1 b2 br bw) ∧ Below w.heap.size w w' := by
  go_enter Try.func77, Try.ntmps77
  go_upto_region 1 with (fail)
  refine name2 ?_
  intro w0 b2 b3 B0
  obtain ⟨fk, fr, flev, fl, fwin, fcode, ftable, fall⟩ := b2.prob hp
  clear fk flev fl fwin fcode ftable fall
  go_upto_region 2 with (fail)
  refine name1 ?_
  intro w1 b5 B1
  have b21 := b2.kept B1
  have b31 := b3.kept B1
  have hl3 := b3.lt
  have bz := Box.new w1 #[.nilFunc] 138
  have hs := bz.store (P := Try.prog) (i := 0) (v := .func (.func 95) #[] #[.pointer (some ⟨w.heap.size, 0, none⟩), .pointer (some ⟨w0.heap.size, 0, none⟩)]) (by simp) ⟨fun _ h => (by cases h), fun _ h => (by cases h)⟩
  have hl1 := b5.lt
  go_wp2
  go_ret
  have hB1 := B1.size
  have hB0 := B0.size
  refine ⟨⟨w.heap.size, w.heap.size + 1, w0.heap.size, w1.heap.size, rfl, ⟨?_, ?_, ?_, ?_, ⟨Nat.le_refl _, by omega, hB0, by omega⟩⟩⟩, ?_⟩
  · exact b21.alloc _
  · exact b31.alloc _
  · exact b5.alloc _
  · exact Box.new _ _ _
  · exact (bOn B0 B1).alloc (by omega) _

/-- The error of a problem and a path. -/
def Pb.pathChk (p : Pb) (bs : List Nat) : Int := if probChk p != 0 then probChk p else if bs.any (fun x => decide (1 < x)) then 10 else if (bs.length : Int) != p.L then 5 else 0
theorem Pb.pathChk_ok {p : Pb} {bs : List Nat} (h : p.pathChk bs = 0) : probChk p = 0 ∧ p.Path bs := by
  unfold Pb.pathChk at h
  by_cases h1 : probChk p = 0
  · rw [if_neg (by simp [h1])] at h
    cases h2 : bs.any (fun x => decide (1 < x))
    · rw [h2] at h
      by_cases h3 : (bs.length : Int) = p.L
      · refine ⟨h1, h3, fun x hx => ?_⟩
        have := List.any_eq_false.1 h2 x hx
        simp at this
        omega
      · rw [if_neg (by simp), if_pos (by simpa using h3)] at h
        cases h
    · rw [h2] at h; simp at h
  · rw [if_pos (by simpa using h1)] at h
    exact absurd h h1
set_option maxRecDepth 5000 in
theorem score_both (p : Pb) (a : Option Addr) (cap : Nat) (hp : p.Ok) (bs : List Nat) (ab : Option Addr) (cb : Nat) (hbl : (bs.length : Int) ≤ 9223372036854775807) (w : World) (hw : Bytes w a p.B) (hby : Bytes w ab bs) :
    Pure Try.prog 76 #[.agg (p.cells (.slice a p.B.length cap)), .slice ab bs.length cb] w (.int .i64 (p.pathChk bs)) := by
  obtain ⟨r, hr⟩ : ∃ r, r = p.pathChk bs := ⟨_, rfl⟩
  rw [← hr]
  have HR := Lib.hid hr
  clear hr
  go_enter Try.func76, Try.ntmps76
  go_upto_region 1 with (fail)
  refine name1 ?_
  intro w0 b2 B0
  obtain ⟨fk, fr, flev, fl, fwin, fcode, ftable, fall⟩ := b2.prob hp
  clear fk fr flev fl fwin fcode ftable
  by_cases hc : probChk p = 0
  · go_wp2_with ((with_reducible apply ld); rfl; (with_reducible assumption); (simp only [List.set_cons_zero, List.set_cons_succ]; rfl))
    refine (score_Check p a cap hp _ (hw.kept B0)).mono ?_
    rintro e w1 ⟨rfl, B1⟩
    rw [hc]
    clear fall
    have b21 := b2.kept B1
    have hb1 := (hby.kept B0).kept B1
    obtain ⟨fk, fr, flev, fl, fwin, fcode, ftable, fall⟩ := b21.prob hp
    clear fk fr flev fwin fcode ftable fall
    go_wp2_with fail
    go_loop [15] (fun i => ∃ k : Nat, k ≤ bs.length ∧ i = .int .i64 k ∧ Hid ((bs.take k).any (fun x => decide (1 < x)) = false)) (fun i => bs.length - (intOf i).toNat)
    case atStart => exact ⟨0, by omega, rfl, Lib.hid rfl⟩
    case round =>
      obtain ⟨k, hk, rfl, HK⟩ := hrel
      by_cases hkl : k < bs.length
      · obtain ⟨b, o, rfl, hcell⟩ := hb1.cell k hkl
        have hk2 : decide ((k : Int) < bs.length) = true := by simp; omega
        have hk3 : (k : Int) < bs.length := by omega
        have hx0 := hby.lt _ (List.getElem_mem hkl)
        by_cases hx : 1 < bs[k]
        · have hx2 : decide ((1 : Int) < (bs[k] : Nat)) = true := by simp; omega
          have hre : (10 : Int) = r := by
            rw [HR.out]
            unfold Pb.pathChk
            rw [if_neg (by simp [hc]), if_pos (any_get hkl (by simpa using hx))]
          clear HR
          subst hre
          go_wp2
          go_ret
          exact ⟨rfl, bOn B0 B1⟩
        · have hx2 : decide ((1 : Int) < (bs[k] : Nat)) = false := by simp; omega
          have HK2 := any_take_hid (p := fun x => decide (1 < x)) hkl HK.out (by simpa using hx)
          clear hx
          go_wp2
          go_round
          case measure => simp only [intOf]; omega
          case rel => exact ⟨k + 1, by omega, by go_num, HK2⟩
      · obtain rfl : k = bs.length := by omega
        have hany := HK.out
        rw [List.take_length] at hany
        by_cases hlen : (bs.length : Int) = p.L
        · have hl2 : ((bs.length : Int) != p.L) = false := by simp [hlen]
          have hre : (0 : Int) = r := by
            rw [HR.out]
            unfold Pb.pathChk
            rw [if_neg (by simp [hc]), if_neg (by simp [hany]), if_neg (by simp [hlen])]
          have HLEN := Lib.hid hlen
          clear HR hlen hany
          subst hre
          go_wp2
          go_ret
          exact ⟨rfl, bOn B0 B1⟩
        · have hl2 : ((bs.length : Int) != p.L) = true := by simp [hlen]
          have hre : (5 : Int) = r := by
            rw [HR.out]
            unfold Pb.pathChk
            rw [if_neg (by simp [hc]), if_neg (by simp [hany]), if_pos (by simp [hlen])]
          clear HR hlen hany
          subst hre
          go_wp2
          go_ret
          exact ⟨rfl, bOn B0 B1⟩
  · have hz : (probChk p != 0) = true := by simp [hc]
    have hre : probChk p = r := by
      rw [HR.out]
      unfold Pb.pathChk
      rw [if_pos hz]
    clear HR
    subst hre
    go_wp2_with ((with_reducible apply ld); rfl; (with_reducible assumption); (simp only [List.set_cons_zero, List.set_cons_succ]; rfl))
    refine (score_Check p a cap hp _ (hw.kept B0)).mono ?_
    rintro e w1 ⟨rfl, B1⟩
    go_wp2
    go_ret
    exact ⟨rfl, bOn B0 B1⟩
end Go.Proofs.Ytiiljecocajdpaa
