/- The walks of the document's prefix metrics, dip and total. -/
import Derived.Test.YtiiljecocajdpaaWays
import Derived.Test.YtiiljecocajdpaaRBranch
import Derived.Test.YtiiljecocajdpaaScoreB
import Derived.Test.YtiiljecocajdpaaApart
namespace Go.Proofs.Ytiiljecocajdpaa
open Go.RowKit

set_option maxRecDepth 5000 in
theorem ref11_wrong (p : Pb) (a : Option Addr) (cap : Nat) (hp : p.Ok) (bs : List Nat) (ab : Option Addr) (cb : Nat) (hbl : (bs.length : Int) ≤ 9223372036854775807) (w : World) (hw : Bytes w a p.B) (hby : Bytes w ab bs) :
    Pure Try.prog 97 #[.agg (p.cells (.slice a p.B.length cap)), .slice ab bs.length cb] w (.int .i64 (p.pathChk bs)) := by
  obtain ⟨r, hr⟩ : ∃ r, r = p.pathChk bs := ⟨_, rfl⟩
  rw [← hr]
  have HR := Lib.hid hr
  clear hr
  go_enter Try.func97, Try.ntmps97
  go_upto_region 1 with (fail)
  refine name1 ?_
  intro w0 b2 B0
  obtain ⟨fk, fr, flev, fl, fwin, fcode, ftable, fall⟩ := b2.prob hp
  clear fk fr flev fl fwin fcode ftable
  by_cases hc : probChk p = 0
  · go_wp2_with ((with_reducible apply ld); rfl; (with_reducible assumption); (simp only [List.set_cons_zero, List.set_cons_succ]; rfl))
    refine (ref11_Check p a cap hp _ (hw.kept B0)).mono ?_
    rintro e w1 ⟨rfl, B1⟩
    rw [hc]
    clear fall
    have b21 := b2.kept B1
    have hb1 := (hby.kept B0).kept B1
    obtain ⟨fk, fr, flev, fl, fwin, fcode, ftable, fall⟩ := b21.prob hp
    clear fk fr flev fwin fcode ftable fall
    go_wp2_with fail
    go_loop [6] (fun i => ∃ k : Nat, k ≤ bs.length ∧ i = .int .i64 k ∧ Hid ((bs.take k).any (fun x => decide (1 < x)) = false)) (fun i => bs.length - (intOf i).toNat)
    case atStart => exact ⟨0, by omega, rfl, Lib.hid rfl⟩
    case round =>
      obtain ⟨k, hk, rfl, HK⟩ := hrel
      by_cases hkl : k < bs.length
      · obtain ⟨b, o, rfl, hcell⟩ := hb1.cell k hkl
        have hk2 : decide ((k : Int) < bs.length) = true := by simp; omega
        have hk3 : (k : Int) < bs.length := by omega
        have hx0 := hby.lt _ (List.getElem_mem hkl)
        by_cases hx : 1 < bs[k]
        · have hx2 : decide ((1 : Int) < (bs[k] : Nat)) = true := by simp; omega
          have hre : (10 : Int) = r := by
            rw [HR.out]
            unfold Pb.pathChk
            rw [if_neg (by simp [hc]), if_pos (any_get hkl (by simpa using hx))]
          clear HR
          subst hre
          go_wp2
          go_ret
          exact ⟨rfl, bOn B0 B1⟩
        · have hx2 : decide ((1 : Int) < (bs[k] : Nat)) = false := by simp; omega
          have HK2 := any_take_hid (p := fun x => decide (1 < x)) hkl HK.out (by simpa using hx)
          clear hx
          go_wp2
          go_round
          case measure => simp only [intOf]; omega
          case rel => exact ⟨k + 1, by omega, by go_num, HK2⟩
      · obtain rfl : k = bs.length := by omega
        have hany := HK.out
        rw [List.take_length] at hany
        by_cases hlen : (bs.length : Int) = p.L
        · have hl2 : ((bs.length : Int) != p.L) = false := by simp [hlen]
          have hre : (0 : Int) = r := by
            rw [HR.out]
            unfold Pb.pathChk
            rw [if_neg (by simp [hc]), if_neg (by simp [hany]), if_neg (by simp [hlen])]
          have HLEN := Lib.hid hlen
          clear HR hlen hany
          subst hre
          go_wp2
          go_ret
          exact ⟨rfl, bOn B0 B1⟩
        · have hl2 : ((bs.length : Int) != p.L) = true := by simp [hlen]
          have hre : (5 : Int) = r := by
            rw [HR.out]
            unfold Pb.pathChk
            rw [if_neg (by simp [hc]), if_neg (by simp [hany]), if_pos (by simp [hlen])]
          clear HR hlen hany
          subst hre
          go_wp2
          go_ret
          exact ⟨rfl, bOn B0 B1⟩
  · have hz : (probChk p != 0) = true := by simp [hc]
    have hre : probChk p = r := by
      rw [HR.out]
      unfold Pb.pathChk
      rw [if_pos hz]
    clear HR
    subst hre
    go_wp2_with ((with_reducible apply ld); rfl; (with_reducible assumption); (simp only [List.set_cons_zero, List.set_cons_succ]; rfl))
    refine (ref11_Check p a cap hp _ (hw.kept B0)).mono ?_
    rintro e w1 ⟨rfl, B1⟩
    go_wp2
    go_ret
    exact ⟨rfl, bOn B0 B1⟩
theorem Pb.psums_take {p : Pb} (bs : List Nat) {k : Nat} (h : k < p.N.toNat) : p.psums ((p.pathL bs).take (k + 1)) = p.psums ((p.pathL bs).take k) ++ [p.psum ((p.pathL bs).take (k + 1))] := by
  rw [Pb.pathL_take h, p.psums_snoc]
theorem rp_room {k n : Nat} (h : k < n) (h2 : n ≤ 1055) : k + 1 + 1 ≤ 9223372036854775807 / 65536 ∧ (k + 1 + 1) * 8 ≤ 140737488355328 := by omega
theorem rp_one {w : World} {t : TypeId} {x : Int} : (w.alloc (.cells #[.int .i64 x] 3)).ownsRow w.heap.size 3 1 (.slice (some ⟨w.heap.size, 0, none⟩) 1 1) 1 [.int .i64 x] :=
  ⟨rfl, .inr ⟨w.heap.size, 1, #[.int .i64 x], rfl, Nat.le_refl _, heap_alloc_new w _, Nat.le_refl _, by unfold maxLen; omega, rfl, rfl⟩⟩
theorem i64_one {v : Value} {x : Int} (h : v ∈ [Value.int .i64 x]) : v.oneCell' = true := by obtain rfl := List.mem_singleton.1 h; rfl
set_option maxRecDepth 5000 in
set_option maxHeartbeats 2000000 in
theorem ref11_Prefixes_bad (p : Pb) (a : Option Addr) (cap : Nat) (hp : p.Ok) (bs : List Nat) (ab : Option Addr) (cb : Nat) (hbl : (bs.length : Int) ≤ 9223372036854775807) (hc : p.pathChk bs ≠ 0) (w : World) (hw : Bytes w a p.B) (hby : Bytes w ab bs) :
    Pure Try.prog 81 #[.agg (p.cells (.slice a p.B.length cap)), .slice ab bs.length cb] w (.tuple #[.slice none 0 0, .int .i64 (p.pathChk bs)]) := by
  have hz : (p.pathChk bs != 0) = true := by simpa using hc
  go_enter Try.func81, Try.ntmps81
  go_upto_region 1 with (fail)
  refine name1 ?_
  intro w0 b2 B0
  obtain ⟨fk, fr, flev, fl, fwin, fcode, ftable, fall⟩ := b2.prob hp
  clear fk fr flev fl fwin fcode ftable
  go_wp2_with ((with_reducible apply ld); rfl; (with_reducible assumption); (simp only [List.set_cons_zero, List.set_cons_succ]; rfl))
  refine (ref11_wrong p a cap hp bs ab cb hbl _ (hw.kept B0) (hby.kept B0)).mono ?_
  rintro e w1 ⟨rfl, B1⟩
  clear fall
  go_wp2
  go_ret2
  exact ⟨rfl, bOn B0 B1⟩
set_option maxRecDepth 5000 in
set_option maxHeartbeats 2000000 in
theorem ref11_Prefixes (p : Pb) (a : Option Addr) (cap : Nat) (hp : p.Ok) (bs : List Nat) (ab : Option Addr) (cb : Nat) (hbl : (bs.length : Int) ≤ 9223372036854775807) (hc : p.pathChk bs = 0) (w : World) (hw : Bytes w a p.B) (hby : Bytes w ab bs) :
    Calls Try.prog 81 #[.agg (p.cells (.slice a p.B.length cap)), .slice ab bs.length cb] w fun e w' => (∃ v, e = .returned (.tuple #[v, .int .i64 0]) ∧ Row64 w' w.heap.size v (p.pm bs)) ∧ Below w.heap.size w w' := by
  obtain ⟨hch, hpath⟩ := Pb.pathChk_ok hc
  obtain ⟨⟨k1, k2⟩, l1, l2, cr, hwin, _⟩ := probChk_ok hch
  obtain ⟨hN3, hN5⟩ := Pb.N_le hch
  have HR := Lib.hid cr
  have HLEN := Lib.hid hpath.len
  clear cr hwin
  go_enter Try.func81, Try.ntmps81
  go_upto_region 1 with (fail)
  refine name1 ?_
  intro w0 b2 B0
  obtain ⟨fk, fr, flev, fl, fwin, fcode, ftable, fall⟩ := b2.prob hp
  clear fk fr flev fl fwin fcode ftable
  go_wp2_with ((with_reducible apply ld); rfl; (with_reducible assumption); (simp only [List.set_cons_zero, List.set_cons_succ]; rfl))
  refine (ref11_wrong p a cap hp bs ab cb hbl _ (hw.kept B0) (hby.kept B0)).mono ?_
  rintro e w1 ⟨rfl, B1⟩
  rw [hc]
  clear fall
  have B10 := bOn B0 B1
  have b21 := b2.kept B1
  have hw1 := hw.kept B10
  have hby1 := hby.kept B10
  have hR1 : (w1.alloc (.cells #[.int .i64 0] 3)).ownsRow w1.heap.size 3 1 (.slice (some ⟨w1.heap.size, 0, none⟩) 1 1) 1 ((p.psums ((p.pathL bs).take 0)).map (Value.int .i64)) := rp_one (t := 0)
  have hBa := (Below.refl w1.heap.size w1).alloc (Nat.le_refl _) (.cells #[.int .i64 0] 3)
  obtain ⟨M, hM⟩ : ∃ M : Nat, p.N = (M : Int) := ⟨p.N.toNat, by omega⟩
  have hMn : p.N.toNat = M := by omega
  have hM5 : M ≤ 1055 := by omega
  have HNM := Lib.hid hM
  have HNN := Lib.hid hMn
  have hB4 := p.psum_bd hch
  clear hM hMn
  go_wp2_with fail
  go_loopw [7, 8, 9, 10] (fun v st m i wr => ∃ k : Nat, k ≤ M ∧ i = .int .i64 (k : Int) ∧ st = .int .u32 (p.st bs k) ∧ m = .int .i64 (p.psum ((p.pathL bs).take k)) ∧ wr.ownsRow w1.heap.size 3 1 v (k + 1) ((p.psums ((p.pathL bs).take k)).map (Value.int .i64)) ∧ Below w1.heap.size w1 wr) (fun _ _ _ i _ => M - (intOf i).toNat)
  case atStart => exact ⟨0, Nat.zero_le _, rfl, rfl, rfl, hR1, hBa⟩
  case round =>
    clear hR1 hBa
    obtain ⟨k, hk, rfl, rfl, rfl, hO, hB⟩ := hrel
    have b2r := b21.kept hB
    have hwr := hw1.kept hB
    have hbr := hby1.kept hB
    obtain ⟨fk, fr, flev, fl, fwin, fcode, ftable, fall⟩ := b2r.prob hp
    clear fk fr flev fl fwin fcode ftable
    go_wp2_with ((with_reducible apply ld); rfl; (with_reducible assumption); (simp only [List.set_cons_zero, List.set_cons_succ]; rfl))
    refine (ref11_N p _ hp l1 l2 k1 k2 _).mono ?_
    rintro e w2 ⟨rfl, B2⟩
    clear fall
    rw [HNM.out]
    have hB2 := hB.trans (B2.mono hB.size)
    have hO2 := owns_block hO (w' := w2) (fun k hk => B2.block k (World.ownsRow.lt hO k hk).2)
    have b22 := b2r.kept B2
    have hw2 := hwr.kept B2
    have hb2 := hbr.kept B2
    clear hB hO b2r hwr hbr
    obtain ⟨fk, fr, flev, fl, fwin, fcode, ftable, fall⟩ := b22.prob hp
    clear fk fr flev fwin ftable
    by_cases hkM : k < M
    · obtain ⟨j1, j2⟩ := ap_lt hkM
      have hkN : k < p.N.toNat := by rw [HNN.out]; exact hkM
      have hb1 : (k : Int) + 1 ≤ 9223372036854775807 := by omega
      obtain ⟨s0, s1⟩ := p.st_in bs k
      have hbt := Pb.bit_lt hpath k
      have hbt2 : ((p.bit bs k : Nat) : Int) < 2 := by omega
      have hbt0 : (0 : Int) ≤ ((p.bit bs k : Nat) : Int) := by omega
      by_cases hL : (k : Int) < p.L
      · have hL2 : decide ((k : Int) < p.L) = true := decide_eq_true hL
        have hkb : k < bs.length := by have := HLEN.out; omega
        have hkb2 : (k : Int) < (bs.length : Int) := by omega
        obtain ⟨bb, oo, rfl, cb⟩ := hb2.cell k hkb
        have hbv : bs[k] = p.bit bs k := by
          unfold Pb.bit
          rw [if_pos hL, List.getD_eq_getElem?_getD, List.getElem?_eq_getElem hkb]
          rfl
        rw [hbv] at cb
        clear hbv
        go_wp2_with ((with_reducible apply ld); rfl; (with_reducible assumption); (simp only [List.set_cons_zero, List.set_cons_succ]; rfl))
        refine (ref07_Next p.C hp.c k1 k2 HR.out (p.st bs k) (p.bit bs k) s0 s1 hbt0 hbt2 _).mono ?_
        rintro e w3 ⟨rfl, B3⟩
        obtain ⟨rg, hrg⟩ : ∃ rg : Nat, rg = (2 * p.st bs k + (p.bit bs k : Int)).toNat := ⟨_, rfl⟩
        obtain ⟨sn, hsn⟩ : ∃ sn, sn = (2 * p.st bs k + (p.bit bs k : Int)) % 2 ^ (p.C.K.toNat - 1) := ⟨_, rfl⟩
        rw [← hrg, ← hsn]
        have HRG : Hid (p.reg bs k = rg) := hrg.symm
        have HSN : Hid (p.st bs (k + 1) = sn) := hsn.symm
        clear hrg hsn fcode fl fall s0 s1
        have hsz : (p.C.yv rg).size = 3 := rfl
        have hfl := p.C.ys_flat rg p.C.R.toNat
        have hbz' := Box.new w3 #[.int .u8 0, .int .u8 0, .int .u8 0] 97
        go_upto_region 14 with ((with_reducible apply stO); rfl; rfl; exact hbz'; rfl; exact hsz; exact hfl; intro w4 b13 B4 ho4 hs4)
        have B43 : Below w3.heap.size w3 w4 := ((Below.refl _ w3).alloc (Nat.le_refl _) _).trans B4
        have B42 := bOn B3 B43
        have hB4' := hB2.trans (B42.mono hB2.size)
        have hO4 := owns_block hO2 (w' := w4) (fun k hk => B42.block k (World.ownsRow.lt hO2 k hk).2)
        have b24 := b22.kept B42
        have hw4 := hw2.kept B42
        clear hbz' ho4 hs4 hO2 hB2 b22 hw2 hb2
        obtain ⟨fk, fr, flev, fl, fwin, fcode, ftable, fall⟩ := b24.prob hp
        clear fk fr flev fl fwin fcode ftable
        have gY := b13.load (off := 0) (n := 3) (cs' := p.C.yv rg) (by rw [hsz]; omega) (Array.extract_eq_self_of_le (by rw [hsz]; omega))
        go_wp2_with ((with_reducible apply ld); rfl; (with_reducible assumption); (simp only [List.set_cons_zero, List.set_cons_succ]; rfl))
        refine (ref11_Branch p a cap hp hch k (by rw [HNM.out]; exact j2) rg _ hw4).mono ?_
        rintro e w5 ⟨rfl, B5⟩
        have hB5 := hB4'.trans (B5.mono hB4'.size)
        have hO5 := owns_block hO4 (w' := w5) (fun k hk => B5.block k (World.ownsRow.lt hO4 k hk).2)
        have hps : p.psum ((p.pathL bs).take (k + 1)) = p.psum ((p.pathL bs).take k) + p.br k rg := by rw [Pb.pathL_take hkN, p.psum_snoc, ← HRG.out]
        have hbd := hB4 ((p.pathL bs).take (k + 1))
        have hbl' : ((p.pathL bs).take (k + 1)).length ≤ 1055 := by rw [List.length_take, p.pathL_len, HNN.out]; omega
        have hwr : wrap64 (p.psum ((p.pathL bs).take k) + p.br k rg) = p.psum ((p.pathL bs).take (k + 1)) := by rw [← hps]; unfold wrap64; omega
        obtain ⟨mm, hmm⟩ : ∃ mm, mm = p.psum ((p.pathL bs).take (k + 1)) := ⟨_, rfl⟩
        rw [← hmm] at hwr hbd hps
        have HMM := Lib.hid hmm
        have HPS := Lib.hid hps
        have hsz5 := hB5.size
        clear fall gY hps hmm
        go_wp2_with (at_builtin; refine ap (us := [.int .i64 mm]) (m := 1) hO5 (by decide) rfl rfl rfl (fun u hu => i64_one hu) (rp_room hkM hM5).1 (rp_room hkM hM5).2 hsz5 ?_; intro v9 w9 hown9 hgr9 _)
        have hB9 := hB5.trans (own_below hO5 hgr9 hsz5)
        go_roundw
        case measure => first | exact ap_meas' hkM | exact ap_meas hkM hb1
        case rel => exact ⟨k + 1, hkM, (by first | rfl | exact congrArg (Value.int .i64) (ap_succ hb1)), by rw [HSN.out], by rw [← HMM.out], by rw [Pb.psums_take bs hkN, ← HMM.out, List.map_append]; exact hown9, hB9⟩
      · have hL2 : decide ((k : Int) < p.L) = false := decide_eq_false hL
        have hbz : (0 : Nat) = p.bit bs k := by unfold Pb.bit; rw [if_neg hL]
        have HBZ := Lib.hid hbz
        clear hbz
        go_wp2_with ((with_reducible apply ld); rfl; (with_reducible assumption); (simp only [List.set_cons_zero, List.set_cons_succ]; rfl))
        refine (show Calls _ _ #[_, _, .int .u8 ((p.bit bs k : Nat) : Int)] _ _ from ?_ ) |> (fun h => (by rw [← HBZ.out] at h; exact h))
        refine (ref07_Next p.C hp.c k1 k2 HR.out (p.st bs k) (p.bit bs k) s0 s1 hbt0 hbt2 _).mono ?_
        rintro e w3 ⟨rfl, B3⟩
        obtain ⟨rg, hrg⟩ : ∃ rg : Nat, rg = (2 * p.st bs k + (p.bit bs k : Int)).toNat := ⟨_, rfl⟩
        obtain ⟨sn, hsn⟩ : ∃ sn, sn = (2 * p.st bs k + (p.bit bs k : Int)) % 2 ^ (p.C.K.toNat - 1) := ⟨_, rfl⟩
        rw [← hrg, ← hsn]
        have HRG : Hid (p.reg bs k = rg) := hrg.symm
        have HSN : Hid (p.st bs (k + 1) = sn) := hsn.symm
        clear hrg hsn fcode fl fall s0 s1
        have hsz : (p.C.yv rg).size = 3 := rfl
        have hfl := p.C.ys_flat rg p.C.R.toNat
        have hbz' := Box.new w3 #[.int .u8 0, .int .u8 0, .int .u8 0] 97
        go_upto_region 14 with ((with_reducible apply stO); rfl; rfl; exact hbz'; rfl; exact hsz; exact hfl; intro w4 b13 B4 ho4 hs4)
        have B43 : Below w3.heap.size w3 w4 := ((Below.refl _ w3).alloc (Nat.le_refl _) _).trans B4
        have B42 := bOn B3 B43
        have hB4' := hB2.trans (B42.mono hB2.size)
        have hO4 := owns_block hO2 (w' := w4) (fun k hk => B42.block k (World.ownsRow.lt hO2 k hk).2)
        have b24 := b22.kept B42
        have hw4 := hw2.kept B42
        clear hbz' ho4 hs4 hO2 hB2 b22 hw2 hb2
        obtain ⟨fk, fr, flev, fl, fwin, fcode, ftable, fall⟩ := b24.prob hp
        clear fk fr flev fl fwin fcode ftable
        have gY := b13.load (off := 0) (n := 3) (cs' := p.C.yv rg) (by rw [hsz]; omega) (Array.extract_eq_self_of_le (by rw [hsz]; omega))
        go_wp2_with ((with_reducible apply ld); rfl; (with_reducible assumption); (simp only [List.set_cons_zero, List.set_cons_succ]; rfl))
        refine (ref11_Branch p a cap hp hch k (by rw [HNM.out]; exact j2) rg _ hw4).mono ?_
        rintro e w5 ⟨rfl, B5⟩
        have hB5 := hB4'.trans (B5.mono hB4'.size)
        have hO5 := owns_block hO4 (w' := w5) (fun k hk => B5.block k (World.ownsRow.lt hO4 k hk).2)
        have hps : p.psum ((p.pathL bs).take (k + 1)) = p.psum ((p.pathL bs).take k) + p.br k rg := by rw [Pb.pathL_take hkN, p.psum_snoc, ← HRG.out]
        have hbd := hB4 ((p.pathL bs).take (k + 1))
        have hbl' : ((p.pathL bs).take (k + 1)).length ≤ 1055 := by rw [List.length_take, p.pathL_len, HNN.out]; omega
        have hwr : wrap64 (p.psum ((p.pathL bs).take k) + p.br k rg) = p.psum ((p.pathL bs).take (k + 1)) := by rw [← hps]; unfold wrap64; omega
        obtain ⟨mm, hmm⟩ : ∃ mm, mm = p.psum ((p.pathL bs).take (k + 1)) := ⟨_, rfl⟩
        rw [← hmm] at hwr hbd hps
        have HMM := Lib.hid hmm
        have HPS := Lib.hid hps
        have hsz5 := hB5.size
        clear fall gY hps hmm
        go_wp2_with (at_builtin; refine ap (us := [.int .i64 mm]) (m := 1) hO5 (by decide) rfl rfl rfl (fun u hu => i64_one hu) (rp_room hkM hM5).1 (rp_room hkM hM5).2 hsz5 ?_; intro v9 w9 hown9 hgr9 _)
        have hB9 := hB5.trans (own_below hO5 hgr9 hsz5)
        go_roundw
        case measure => first | exact ap_meas' hkM | exact ap_meas hkM hb1
        case rel => exact ⟨k + 1, hkM, (by first | rfl | exact congrArg (Value.int .i64) (ap_succ hb1)), by rw [HSN.out], by rw [← HMM.out], by rw [Pb.psums_take bs hkN, ← HMM.out, List.map_append]; exact hown9, hB9⟩
    · obtain rfl := ap_end hkM hk
      have hdd : decide ((k : Int) < (k : Int)) = false := by simp
      clear fall
      go_wp2
      go_ret2
      refine ⟨⟨_, rfl, ?_⟩, B10.trans (hB2.mono B10.size)⟩
      have e1 : p.pm bs = p.psums ((p.pathL bs).take k) := by
        unfold Pb.pm
        rw [List.take_of_length_le (by rw [p.pathL_len, HNN.out]; exact Nat.le_refl _)]
      rw [e1]
      have e2 : (p.psums ((p.pathL bs).take k)).length = k + 1 := by
        rw [p.psums_len, List.length_take, p.pathL_len, HNN.out, Nat.min_self]
      refine Row64.mono (B := w1.heap.size) ?_ B10.size
      unfold Row64
      rw [e2]
      exact hO2
end Go.Proofs.Ytiiljecocajdpaa
