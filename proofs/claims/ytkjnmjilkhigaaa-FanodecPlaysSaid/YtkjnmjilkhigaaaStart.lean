import Derived.Test.YtkjnmjilkhigaaaWays
import Derived.Test.YtkjnmjilkhigaaaDocKid
import Derived.Test.YtkjnmjilkhigaaaScoreB
import Derived.Test.YtkjnmjilkhigaaaFanoM
import Derived.Test.YtkjnmjilkhigaaaCount
import Derived.Test.YtkjnmjilkhigaaaDip2
import Derived.Test.YtkjnmjilkhigaaaLPieces
set_option linter.unusedSimpArgs false
set_option linter.unusedVariables false
set_option linter.unnecessarySimpa false
/- The walks of the document's prefix metrics, dip and total. -/
namespace Go.Proofs.Ytkjnmjilkhigaaa
open Go.RowKit

set_option maxRecDepth 5000 in
theorem ref11_wrong (p : Pb) (a : Option Addr) (cap : Nat) (hp : p.Ok) (bs : List Nat) (ab : Option Addr) (cb : Nat) (hbl : (bs.length : Int) ≤ 9223372036854775807) (w : World) (hw : Bytes w a p.B) (hby : Bytes w ab bs) :
    Pure Try.prog 63 #[.agg (p.cells (.slice a p.B.length cap)), .slice ab bs.length cb] w (.int .i64 (p.pathChk bs)) := by
  obtain ⟨r, hr⟩ : ∃ r, r = p.pathChk bs := ⟨_, rfl⟩
  rw [← hr]
  have HR := Lib.hid hr
  clear hr
  go_enter Try.func63, Try.ntmps63
  go_upto_region 1 with (fail)
  refine name1 ?_
  intro w0 b2 B0
  obtain ⟨fk, fr, flev, fl, fwin, fcode, ftable, fall⟩ := b2.prob hp
  clear fk fr flev fl fwin fcode ftable
  by_cases hc : probChk p = 0
  · go_wp2_with ((with_reducible apply ld); rfl; (with_reducible assumption); (simp only [List.set_cons_zero, List.set_cons_succ]; rfl))
    refine (ref11_Check p a cap hp _ (hw.kept B0)).mono ?_
    rintro e w1 ⟨rfl, B1⟩
    rw [hc]
    clear fall
    have b21 := b2.kept B1
    have hb1 := (hby.kept B0).kept B1
    obtain ⟨fk, fr, flev, fl, fwin, fcode, ftable, fall⟩ := b21.prob hp
    clear fk fr flev fwin fcode ftable fall
    go_wp2_with fail
    go_loop [6] (fun i => ∃ k : Nat, k ≤ bs.length ∧ i = .int .i64 k ∧ Hid ((bs.take k).any (fun x => decide (1 < x)) = false)) (fun i => bs.length - (intOf i).toNat)
    case atStart => exact ⟨0, by omega, rfl, Lib.hid rfl⟩
    case round =>
      obtain ⟨k, hk, rfl, HK⟩ := hrel
      by_cases hkl : k < bs.length
      · obtain ⟨b, o, rfl, hcell⟩ := hb1.cell k hkl
        have hk2 : decide ((k : Int) < bs.length) = true := by simp; omega
        have hk3 : (k : Int) < bs.length := by omega
        have hx0 := hby.lt _ (List.getElem_mem hkl)
        by_cases hx : 1 < bs[k]
        · have hx2 : decide ((1 : Int) < (bs[k] : Nat)) = true := by simp; omega
          have hre : (10 : Int) = r := by
            rw [HR.out]
            unfold Pb.pathChk
            rw [if_neg (by simp [hc]), if_pos (any_get hkl (by simpa using hx))]
          clear HR
          subst hre
          go_wp2
          go_ret
          exact ⟨rfl, bOn B0 B1⟩
        · have hx2 : decide ((1 : Int) < (bs[k] : Nat)) = false := by simp; omega
          have HK2 := any_take_hid (p := fun x => decide (1 < x)) hkl HK.out (by simpa using hx)
          clear hx
          go_wp2
          go_round
          case measure => simp only [intOf]; omega
          case rel => exact ⟨k + 1, by omega, by go_num, HK2⟩
      · obtain rfl : k = bs.length := by omega
        have hany := HK.out
        rw [List.take_length] at hany
        by_cases hlen : (bs.length : Int) = p.L
        · have hl2 : ((bs.length : Int) != p.L) = false := by simp [hlen]
          have hre : (0 : Int) = r := by
            rw [HR.out]
            unfold Pb.pathChk
            rw [if_neg (by simp [hc]), if_neg (by simp [hany]), if_neg (by simp [hlen])]
          have HLEN := Lib.hid hlen
          clear HR hlen hany
          subst hre
          go_wp2
          go_ret
          exact ⟨rfl, bOn B0 B1⟩
        · have hl2 : ((bs.length : Int) != p.L) = true := by simp [hlen]
          have hre : (5 : Int) = r := by
            rw [HR.out]
            unfold Pb.pathChk
            rw [if_neg (by simp [hc]), if_neg (by simp [hany]), if_pos (by simp [hlen])]
          clear HR hlen hany
          subst hre
          go_wp2
          go_ret
          exact ⟨rfl, bOn B0 B1⟩
  · have hz : (probChk p != 0) = true := by simp [hc]
    have hre : probChk p = r := by
      rw [HR.out]
      unfold Pb.pathChk
      rw [if_pos hz]
    clear HR
    subst hre
    go_wp2_with ((with_reducible apply ld); rfl; (with_reducible assumption); (simp only [List.set_cons_zero, List.set_cons_succ]; rfl))
    refine (ref11_Check p a cap hp _ (hw.kept B0)).mono ?_
    rintro e w1 ⟨rfl, B1⟩
    go_wp2
    go_ret
    exact ⟨rfl, bOn B0 B1⟩
theorem Pb.psums_take {p : Pb} (bs : List Nat) {k : Nat} (h : k < p.N.toNat) : p.psums ((p.pathL bs).take (k + 1)) = p.psums ((p.pathL bs).take k) ++ [p.psum ((p.pathL bs).take (k + 1))] := by
  rw [Pb.pathL_take h, p.psums_snoc]
theorem rp_room {k n : Nat} (h : k < n) (h2 : n ≤ 1055) : k + 1 + 1 ≤ 9223372036854775807 / 65536 ∧ (k + 1 + 1) * 8 ≤ 140737488355328 := by omega
theorem rp_one {w : World} {t : TypeId} {x : Int} : (w.alloc (.cells #[.int .i64 x] 3)).ownsRow w.heap.size 3 1 (.slice (some ⟨w.heap.size, 0, none⟩) 1 1) 1 [.int .i64 x] :=
  ⟨rfl, .inr ⟨w.heap.size, 1, #[.int .i64 x], rfl, Nat.le_refl _, heap_alloc_new w _, Nat.le_refl _, by unfold maxLen; omega, rfl, rfl⟩⟩
theorem i64_one {v : Value} {x : Int} (h : v ∈ [Value.int .i64 x]) : v.oneCell' = true := by obtain rfl := List.mem_singleton.1 h; rfl
set_option maxRecDepth 5000 in
set_option maxHeartbeats 2000000 in
theorem ref11_Prefixes_bad (p : Pb) (a : Option Addr) (cap : Nat) (hp : p.Ok) (bs : List Nat) (ab : Option Addr) (cb : Nat) (hbl : (bs.length : Int) ≤ 9223372036854775807) (hc : p.pathChk bs ≠ 0) (w : World) (hw : Bytes w a p.B) (hby : Bytes w ab bs) :
    Pure Try.prog 43 #[.agg (p.cells (.slice a p.B.length cap)), .slice ab bs.length cb] w (.tuple #[.slice none 0 0, .int .i64 (p.pathChk bs)]) := by
  have hz : (p.pathChk bs != 0) = true := by simpa using hc
  go_enter Try.func43, Try.ntmps43
  go_upto_region 1 with (fail)
  refine name1 ?_
  intro w0 b2 B0
  obtain ⟨fk, fr, flev, fl, fwin, fcode, ftable, fall⟩ := b2.prob hp
  clear fk fr flev fl fwin fcode ftable
  go_wp2_with ((with_reducible apply ld); rfl; (with_reducible assumption); (simp only [List.set_cons_zero, List.set_cons_succ]; rfl))
  refine (ref11_wrong p a cap hp bs ab cb hbl _ (hw.kept B0) (hby.kept B0)).mono ?_
  rintro e w1 ⟨rfl, B1⟩
  clear fall
  go_wp2
  go_ret2
  exact ⟨rfl, bOn B0 B1⟩
set_option maxRecDepth 5000 in
set_option maxHeartbeats 2000000 in
theorem ref11_Prefixes (p : Pb) (a : Option Addr) (cap : Nat) (hp : p.Ok) (bs : List Nat) (ab : Option Addr) (cb : Nat) (hbl : (bs.length : Int) ≤ 9223372036854775807) (hc : p.pathChk bs = 0) (w : World) (hw : Bytes w a p.B) (hby : Bytes w ab bs) :
    Calls Try.prog 43 #[.agg (p.cells (.slice a p.B.length cap)), .slice ab bs.length cb] w fun e w' => (∃ v, e = .returned (.tuple #[v, .int .i64 0]) ∧ Row64 w' w.heap.size v (p.pm bs)) ∧ Below w.heap.size w w' := by
  obtain ⟨hch, hpath⟩ := Pb.pathChk_ok hc
  obtain ⟨⟨k1, k2⟩, l1, l2, cr, hwin, _⟩ := probChk_ok hch
  obtain ⟨hN3, hN5⟩ := Pb.N_le hch
  have HR := Lib.hid cr
  have HLEN := Lib.hid hpath.len
  clear cr hwin
  go_enter Try.func43, Try.ntmps43
  go_upto_region 1 with (fail)
  refine name1 ?_
  intro w0 b2 B0
  obtain ⟨fk, fr, flev, fl, fwin, fcode, ftable, fall⟩ := b2.prob hp
  clear fk fr flev fl fwin fcode ftable
  go_wp2_with ((with_reducible apply ld); rfl; (with_reducible assumption); (simp only [List.set_cons_zero, List.set_cons_succ]; rfl))
  refine (ref11_wrong p a cap hp bs ab cb hbl _ (hw.kept B0) (hby.kept B0)).mono ?_
  rintro e w1 ⟨rfl, B1⟩
  rw [hc]
  clear fall
  have B10 := bOn B0 B1
  have b21 := b2.kept B1
  have hw1 := hw.kept B10
  have hby1 := hby.kept B10
  have hR1 : (w1.alloc (.cells #[.int .i64 0] 3)).ownsRow w1.heap.size 3 1 (.slice (some ⟨w1.heap.size, 0, none⟩) 1 1) 1 ((p.psums ((p.pathL bs).take 0)).map (Value.int .i64)) := rp_one (t := 0)
  have hBa := (Below.refl w1.heap.size w1).alloc (Nat.le_refl _) (.cells #[.int .i64 0] 3)
  obtain ⟨M, hM⟩ : ∃ M : Nat, p.N = (M : Int) := ⟨p.N.toNat, by omega⟩
  have hMn : p.N.toNat = M := by omega
  have hM5 : M ≤ 1055 := by omega
  have HNM := Lib.hid hM
  have HNN := Lib.hid hMn
  have hB4 := p.psum_bd hch
  clear hM hMn
  go_wp2_with fail
  go_loopw [7, 8, 9, 10] (fun v st m i wr => ∃ k : Nat, k ≤ M ∧ i = .int .i64 (k : Int) ∧ st = .int .u32 (p.st bs k) ∧ m = .int .i64 (p.psum ((p.pathL bs).take k)) ∧ wr.ownsRow w1.heap.size 3 1 v (k + 1) ((p.psums ((p.pathL bs).take k)).map (Value.int .i64)) ∧ Below w1.heap.size w1 wr) (fun _ _ _ i _ => M - (intOf i).toNat)
  case atStart => exact ⟨0, Nat.zero_le _, rfl, rfl, rfl, hR1, hBa⟩
  case round =>
    clear hR1 hBa
    obtain ⟨k, hk, rfl, rfl, rfl, hO, hB⟩ := hrel
    have b2r := b21.kept hB
    have hwr := hw1.kept hB
    have hbr := hby1.kept hB
    obtain ⟨fk, fr, flev, fl, fwin, fcode, ftable, fall⟩ := b2r.prob hp
    clear fk fr flev fl fwin fcode ftable
    go_wp2_with ((with_reducible apply ld); rfl; (with_reducible assumption); (simp only [List.set_cons_zero, List.set_cons_succ]; rfl))
    refine (ref11_N p _ hp l1 l2 k1 k2 _).mono ?_
    rintro e w2 ⟨rfl, B2⟩
    clear fall
    rw [HNM.out]
    have hB2 := hB.trans (B2.mono hB.size)
    have hO2 := owns_block hO (w' := w2) (fun k hk => B2.block k (World.ownsRow.lt hO k hk).2)
    have b22 := b2r.kept B2
    have hw2 := hwr.kept B2
    have hb2 := hbr.kept B2
    clear hB hO b2r hwr hbr
    obtain ⟨fk, fr, flev, fl, fwin, fcode, ftable, fall⟩ := b22.prob hp
    clear fk fr flev fwin ftable
    by_cases hkM : k < M
    · obtain ⟨j1, j2⟩ := ap_lt hkM
      have hkN : k < p.N.toNat := by rw [HNN.out]; exact hkM
      have hb1 : (k : Int) + 1 ≤ 9223372036854775807 := by omega
      obtain ⟨s0, s1⟩ := p.st_in bs k
      have hbt := Pb.bit_lt hpath k
      have hbt2 : ((p.bit bs k : Nat) : Int) < 2 := by omega
      have hbt0 : (0 : Int) ≤ ((p.bit bs k : Nat) : Int) := by omega
      by_cases hL : (k : Int) < p.L
      · have hL2 : decide ((k : Int) < p.L) = true := decide_eq_true hL
        have hkb : k < bs.length := by have := HLEN.out; omega
        have hkb2 : (k : Int) < (bs.length : Int) := by omega
        obtain ⟨bb, oo, rfl, cb⟩ := hb2.cell k hkb
        have hbv : bs[k] = p.bit bs k := by
          unfold Pb.bit
          rw [if_pos hL, List.getD_eq_getElem?_getD, List.getElem?_eq_getElem hkb]
          rfl
        rw [hbv] at cb
        clear hbv
        go_wp2_with ((with_reducible apply ld); rfl; (with_reducible assumption); (simp only [List.set_cons_zero, List.set_cons_succ]; rfl))
        refine (ref07_Next p.C hp.c k1 k2 HR.out (p.st bs k) (p.bit bs k) s0 s1 hbt0 hbt2 _).mono ?_
        rintro e w3 ⟨rfl, B3⟩
        obtain ⟨rg, hrg⟩ : ∃ rg : Nat, rg = (2 * p.st bs k + (p.bit bs k : Int)).toNat := ⟨_, rfl⟩
        obtain ⟨sn, hsn⟩ : ∃ sn, sn = (2 * p.st bs k + (p.bit bs k : Int)) % 2 ^ (p.C.K.toNat - 1) := ⟨_, rfl⟩
        rw [← hrg, ← hsn]
        have HRG : Hid (p.reg bs k = rg) := hrg.symm
        have HSN : Hid (p.st bs (k + 1) = sn) := hsn.symm
        clear hrg hsn fcode fl fall s0 s1
        have hsz : (p.C.yv rg).size = 3 := rfl
        have hfl := p.C.ys_flat rg p.C.R.toNat
        have hbz' := Box.new w3 #[.int .u8 0, .int .u8 0, .int .u8 0] 129
        go_upto_region 14 with ((with_reducible apply stO); rfl; rfl; exact hbz'; rfl; exact hsz; exact hfl; intro w4 b13 B4 ho4 hs4)
        have B43 : Below w3.heap.size w3 w4 := ((Below.refl _ w3).alloc (Nat.le_refl _) _).trans B4
        have B42 := bOn B3 B43
        have hB4' := hB2.trans (B42.mono hB2.size)
        have hO4 := owns_block hO2 (w' := w4) (fun k hk => B42.block k (World.ownsRow.lt hO2 k hk).2)
        have b24 := b22.kept B42
        have hw4 := hw2.kept B42
        clear hbz' ho4 hs4 hO2 hB2 b22 hw2 hb2
        obtain ⟨fk, fr, flev, fl, fwin, fcode, ftable, fall⟩ := b24.prob hp
        clear fk fr flev fl fwin fcode ftable
        have gY := b13.load (off := 0) (n := 3) (cs' := p.C.yv rg) (by rw [hsz]; omega) (Array.extract_eq_self_of_le (by rw [hsz]; omega))
        go_wp2_with ((with_reducible apply ld); rfl; (with_reducible assumption); (simp only [List.set_cons_zero, List.set_cons_succ]; rfl))
        refine (ref11_Branch p a cap hp hch k (by rw [HNM.out]; exact j2) rg _ hw4).mono ?_
        rintro e w5 ⟨rfl, B5⟩
        have hB5 := hB4'.trans (B5.mono hB4'.size)
        have hO5 := owns_block hO4 (w' := w5) (fun k hk => B5.block k (World.ownsRow.lt hO4 k hk).2)
        have hps : p.psum ((p.pathL bs).take (k + 1)) = p.psum ((p.pathL bs).take k) + p.br k rg := by rw [Pb.pathL_take hkN, p.psum_snoc, ← HRG.out]
        have hbd := hB4 ((p.pathL bs).take (k + 1))
        have hbl' : ((p.pathL bs).take (k + 1)).length ≤ 1055 := by rw [List.length_take, p.pathL_len, HNN.out]; omega
        have hwr : wrap64 (p.psum ((p.pathL bs).take k) + p.br k rg) = p.psum ((p.pathL bs).take (k + 1)) := by rw [← hps]; unfold wrap64; omega
        obtain ⟨mm, hmm⟩ : ∃ mm, mm = p.psum ((p.pathL bs).take (k + 1)) := ⟨_, rfl⟩
        rw [← hmm] at hwr hbd hps
        have HMM := Lib.hid hmm
        have HPS := Lib.hid hps
        have hsz5 := hB5.size
        clear fall gY hps hmm
        go_wp2_with (at_builtin; refine ap (us := [.int .i64 mm]) (m := 1) hO5 (by decide) rfl rfl rfl (fun u hu => i64_one hu) (rp_room hkM hM5).1 (rp_room hkM hM5).2 hsz5 ?_; intro v9 w9 hown9 hgr9 _)
        have hB9 := hB5.trans (own_below hO5 hgr9 hsz5)
        go_roundw
        case measure => first | exact ap_meas' hkM | exact ap_meas hkM hb1
        case rel => exact ⟨k + 1, hkM, (by first | rfl | exact congrArg (Value.int .i64) (ap_succ hb1)), by rw [HSN.out], by rw [← HMM.out], by rw [Pb.psums_take bs hkN, ← HMM.out, List.map_append]; exact hown9, hB9⟩
      · have hL2 : decide ((k : Int) < p.L) = false := decide_eq_false hL
        have hbz : (0 : Nat) = p.bit bs k := by unfold Pb.bit; rw [if_neg hL]
        have HBZ := Lib.hid hbz
        clear hbz
        go_wp2_with ((with_reducible apply ld); rfl; (with_reducible assumption); (simp only [List.set_cons_zero, List.set_cons_succ]; rfl))
        refine (show Calls _ _ #[_, _, .int .u8 ((p.bit bs k : Nat) : Int)] _ _ from ?_ ) |> (fun h => (by rw [← HBZ.out] at h; exact h))
        refine (ref07_Next p.C hp.c k1 k2 HR.out (p.st bs k) (p.bit bs k) s0 s1 hbt0 hbt2 _).mono ?_
        rintro e w3 ⟨rfl, B3⟩
        obtain ⟨rg, hrg⟩ : ∃ rg : Nat, rg = (2 * p.st bs k + (p.bit bs k : Int)).toNat := ⟨_, rfl⟩
        obtain ⟨sn, hsn⟩ : ∃ sn, sn = (2 * p.st bs k + (p.bit bs k : Int)) % 2 ^ (p.C.K.toNat - 1) := ⟨_, rfl⟩
        rw [← hrg, ← hsn]
        have HRG : Hid (p.reg bs k = rg) := hrg.symm
        have HSN : Hid (p.st bs (k + 1) = sn) := hsn.symm
        clear hrg hsn fcode fl fall s0 s1
        have hsz : (p.C.yv rg).size = 3 := rfl
        have hfl := p.C.ys_flat rg p.C.R.toNat
        have hbz' := Box.new w3 #[.int .u8 0, .int .u8 0, .int .u8 0] 129
        go_upto_region 14 with ((with_reducible apply stO); rfl; rfl; exact hbz'; rfl; exact hsz; exact hfl; intro w4 b13 B4 ho4 hs4)
        have B43 : Below w3.heap.size w3 w4 := ((Below.refl _ w3).alloc (Nat.le_refl _) _).trans B4
        have B42 := bOn B3 B43
        have hB4' := hB2.trans (B42.mono hB2.size)
        have hO4 := owns_block hO2 (w' := w4) (fun k hk => B42.block k (World.ownsRow.lt hO2 k hk).2)
        have b24 := b22.kept B42
        have hw4 := hw2.kept B42
        clear hbz' ho4 hs4 hO2 hB2 b22 hw2 hb2
        obtain ⟨fk, fr, flev, fl, fwin, fcode, ftable, fall⟩ := b24.prob hp
        clear fk fr flev fl fwin fcode ftable
        have gY := b13.load (off := 0) (n := 3) (cs' := p.C.yv rg) (by rw [hsz]; omega) (Array.extract_eq_self_of_le (by rw [hsz]; omega))
        go_wp2_with ((with_reducible apply ld); rfl; (with_reducible assumption); (simp only [List.set_cons_zero, List.set_cons_succ]; rfl))
        refine (ref11_Branch p a cap hp hch k (by rw [HNM.out]; exact j2) rg _ hw4).mono ?_
        rintro e w5 ⟨rfl, B5⟩
        have hB5 := hB4'.trans (B5.mono hB4'.size)
        have hO5 := owns_block hO4 (w' := w5) (fun k hk => B5.block k (World.ownsRow.lt hO4 k hk).2)
        have hps : p.psum ((p.pathL bs).take (k + 1)) = p.psum ((p.pathL bs).take k) + p.br k rg := by rw [Pb.pathL_take hkN, p.psum_snoc, ← HRG.out]
        have hbd := hB4 ((p.pathL bs).take (k + 1))
        have hbl' : ((p.pathL bs).take (k + 1)).length ≤ 1055 := by rw [List.length_take, p.pathL_len, HNN.out]; omega
        have hwr : wrap64 (p.psum ((p.pathL bs).take k) + p.br k rg) = p.psum ((p.pathL bs).take (k + 1)) := by rw [← hps]; unfold wrap64; omega
        obtain ⟨mm, hmm⟩ : ∃ mm, mm = p.psum ((p.pathL bs).take (k + 1)) := ⟨_, rfl⟩
        rw [← hmm] at hwr hbd hps
        have HMM := Lib.hid hmm
        have HPS := Lib.hid hps
        have hsz5 := hB5.size
        clear fall gY hps hmm
        go_wp2_with (at_builtin; refine ap (us := [.int .i64 mm]) (m := 1) hO5 (by decide) rfl rfl rfl (fun u hu => i64_one hu) (rp_room hkM hM5).1 (rp_room hkM hM5).2 hsz5 ?_; intro v9 w9 hown9 hgr9 _)
        have hB9 := hB5.trans (own_below hO5 hgr9 hsz5)
        go_roundw
        case measure => first | exact ap_meas' hkM | exact ap_meas hkM hb1
        case rel => exact ⟨k + 1, hkM, (by first | rfl | exact congrArg (Value.int .i64) (ap_succ hb1)), by rw [HSN.out], by rw [← HMM.out], by rw [Pb.psums_take bs hkN, ← HMM.out, List.map_append]; exact hown9, hB9⟩
    · obtain rfl := ap_end hkM hk
      have hdd : decide ((k : Int) < (k : Int)) = false := by simp
      clear fall
      go_wp2
      go_ret2
      refine ⟨⟨_, rfl, ?_⟩, B10.trans (hB2.mono B10.size)⟩
      have e1 : p.pm bs = p.psums ((p.pathL bs).take k) := by
        unfold Pb.pm
        rw [List.take_of_length_le (by rw [p.pathL_len, HNN.out]; exact Nat.le_refl _)]
      rw [e1]
      have e2 : (p.psums ((p.pathL bs).take k)).length = k + 1 := by
        rw [p.psums_len, List.length_take, p.pathL_len, HNN.out, Nat.min_self]
      refine Row64.mono (B := w1.heap.size) ?_ B10.size
      unfold Row64
      rw [e2]
      exact hO2
end Go.Proofs.Ytkjnmjilkhigaaa

/- The walk of the document's dip and total. -/
namespace Go.Proofs.Ytkjnmjilkhigaaa
open Go.RowKit

theorem dipOf_take {l : List Int} {k : Nat} {x : Int} (h : l[k]? = some x) : dipOf (l.take (k + 1)) = min (dipOf (l.take k)) x := by
  rw [List.take_add_one, h]
  exact dipOf_snoc _ _
set_option maxRecDepth 5000 in
set_option maxHeartbeats 2000000 in
theorem ref11_Both (p : Pb) (a : Option Addr) (cap : Nat) (hp : p.Ok) (bs : List Nat) (ab : Option Addr) (cb : Nat) (hbl : (bs.length : Int) ≤ 9223372036854775807) (w : World) (hw : Bytes w a p.B) (hby : Bytes w ab bs) :
    Pure Try.prog 20 #[.agg (p.cells (.slice a p.B.length cap)), .slice ab bs.length cb] w (.tuple #[.int .i64 (p.dip bs), .int .i64 (p.tot bs), .int .i64 (p.pathChk bs)]) := by
  unfold Pb.dip Pb.tot
  by_cases hc : p.pathChk bs = 0
  · rw [if_neg (by simp [hc]), if_neg (by simp [hc]), hc]
    obtain ⟨hch, hpath⟩ := Pb.pathChk_ok hc
    obtain ⟨hN3, hN5⟩ := Pb.N_le hch
    go_enter Try.func20, Try.ntmps20
    go_upto_region 1 with (fail)
    refine name1 ?_
    intro w0 b2 B0
    obtain ⟨fk, fr, flev, fl, fwin, fcode, ftable, fall⟩ := b2.prob hp
    clear fk fr flev fl fwin fcode ftable
    go_wp2_with ((with_reducible apply ld); rfl; (with_reducible assumption); (simp only [List.set_cons_zero, List.set_cons_succ]; rfl))
    refine (ref11_Prefixes p a cap hp bs ab cb hbl hc _ (hw.kept B0) (hby.kept B0)).mono ?_
    rintro e w1 ⟨⟨v, rfl, R⟩, B1⟩
    clear fall
    have hl := p.pm_len bs
    obtain ⟨g1, c1, rfl, hg1, I1⟩ := R.form (by omega)
    have hlast := p.pm_last bs
    obtain ⟨M, hM⟩ : ∃ M, M = p.N.toNat := ⟨_, rfl⟩
    rw [← hM] at hl hlast
    obtain ⟨la, hla⟩ : ∃ l, l = p.pm bs := ⟨_, rfl⟩
    rw [← hla] at hl hlast I1 ⊢
    rw [hl]
    have hM5 : M ≤ 1055 := by omega
    have HL := Lib.hid hl
    have HLAST := Lib.hid hlast
    have HLA := Lib.hid hla
    have B10 := bOn B0 B1
    clear R hla hM hl hlast hN3 hN5
    go_wp2_with fail
    go_loop [9, 10] (fun m i => ∃ k : Nat, k ≤ M + 1 ∧ i = .int .i64 (k : Int) ∧ m = .int .i64 (dipOf (la.take k))) (fun _ i => M + 1 - (intOf i).toNat)
    case atStart => exact ⟨0, Nat.zero_le _, rfl, rfl⟩
    case round =>
      obtain ⟨k, hk, rfl, rfl⟩ := hrel
      by_cases hkl : k < M + 1
      · have j1 : decide ((k : Int) < (M : Int) + 1) = true := by simp; omega
        have j2 : (k : Int) < (M : Int) + 1 := by omega
        have hb1 : (k : Int) + 1 ≤ 9223372036854775807 := by omega
        obtain ⟨x, hx⟩ : ∃ x, la[k]? = some x := ⟨_, List.getElem?_eq_getElem (by rw [HL.out]; exact hkl)⟩
        have cx := I1.2 k x hx
        have hd := dipOf_take hx
        obtain ⟨D, hD⟩ : ∃ D, D = dipOf (la.take k) := ⟨_, rfl⟩
        rw [← hD] at hd ⊢
        by_cases hlt : x < D
        · have hd2 : x = dipOf (la.take (k + 1)) := by rw [hd]; omega
          have HD := Lib.hid hd2
          have hdd : decide (x < D) = true := decide_eq_true hlt
          clear hd hd2 hx hD
          go_wp2
          go_round
          case measure => first | exact ap_meas' hkl | exact ap_meas hkl hb1
          case rel => exact ⟨k + 1, hkl, (by first | rfl | exact congrArg (Value.int .i64) (ap_succ hb1)), by rw [← HD.out]⟩
        · have hd2 : D = dipOf (la.take (k + 1)) := by rw [hd]; omega
          have HD := Lib.hid hd2
          have hdd : decide (x < D) = false := decide_eq_false hlt
          clear hd hd2 hx hD
          go_wp2
          go_round
          case measure => first | exact ap_meas' hkl | exact ap_meas hkl hb1
          case rel => exact ⟨k + 1, hkl, (by first | rfl | exact congrArg (Value.int .i64) (ap_succ hb1)), by rw [← HD.out]⟩
      · obtain rfl := ap_end hkl hk
        have j1 : decide ((((M + 1 : Nat)) : Int) < (M : Int) + 1) = false := by simp
        have cl := I1.2 M _ HLAST.out
        have htk : la.take (M + 1) = la := List.take_of_length_le (by rw [HL.out]; exact Nat.le_refl _)
        rw [htk]
        have q1 := KeptW.cell cl
        clear htk cl
        go_upto_region 10 with (fail)
        refine wp_region_kept (by kernel_rfl) (by kernel_rfl) ?_
        repeat first
          | go_big_quiet_step (fail)
        refine wpQuiet_nil ?_
        intro w3 B3
        go_wp2
        refine bodyPost_ret (results_tmp3 rfl rfl rfl rfl) rfl ?_
        exact ⟨by rw [← HLA.out]; rfl, bOn B10 B3⟩
  · rw [if_pos (by simpa using hc), if_pos (by simpa using hc)]
    have hz : (p.pathChk bs != 0) = true := by simpa using hc
    go_enter Try.func20, Try.ntmps20
    go_upto_region 1 with (fail)
    refine name1 ?_
    intro w0 b2 B0
    obtain ⟨fk, fr, flev, fl, fwin, fcode, ftable, fall⟩ := b2.prob hp
    clear fk fr flev fl fwin fcode ftable
    go_wp2_with ((with_reducible apply ld); rfl; (with_reducible assumption); (simp only [List.set_cons_zero, List.set_cons_succ]; rfl))
    refine (ref11_Prefixes_bad p a cap hp bs ab cb hbl hc _ (hw.kept B0) (hby.kept B0)).mono ?_
    rintro e w1 ⟨rfl, B1⟩
    clear fall
    go_wp2
    refine bodyPost_ret (results_tmp3 rfl rfl rfl rfl) rfl ?_
    exact ⟨rfl, bOn B0 B1⟩
end Go.Proofs.Ytkjnmjilkhigaaa

/- Arms for guarded loads of structs and guarded conversions of bytes to strings, in regions that keep what lay there. No program's text is named here. -/
namespace Go.Proofs.Ytkjnmjilkhigaaa
open Go.RowKit

section
variable {P : Program} {ops : Array Oper} {w : World} {Q : Act → Prop} {rest : List Oper} {ty : TypeId} {ps : String} {af : Array Edge} {d : Nat} {gd : Option (Nat × Bool)}
theorem q_ldG {l l' : List Value} {ds : List Deferred} {t n b off : Nat} {x : Operand} {v : Value} (hw : Region.wanted ⟨some d, .load t x, ty, ps, af, gd⟩ (yielded ops l.toArray) = true) (hx : (Act.mk l.toArray ds).eval x = .pointer (some ⟨b, off, none⟩)) [T : AggTy P t n] (hl : loadAgg w b off n = .ok v w) (hs : l.set d v = l')
    (h : wpQuiet P ops (fun w' => ∃ s : KeptW w, w' = s.val) Q rest ⟨l'.toArray, ds⟩) : wpQuiet P ops (fun w' => ∃ s : KeptW w, w' = s.val) Q (⟨some d, .load t x, ty, ps, af, gd⟩ :: rest) ⟨l.toArray, ds⟩ := by
  obtain ⟨d, h1, h2, h3⟩ := T.out
  refine BigFrame.wpQuiet_want hw fun K hK => ⟨v, fun w' ⟨s, hs⟩ => ?_, hK _ (by rw [put_list, hs]; exact h)⟩
  subst hs
  have hl' := Below.loadAgg s.property (lt_of_loadAgg hl) hl
  have := run_loadVar_agg (P := P) (w := s.val) (b := b) (off := off) h1 h2 h3 (by rw [hl']; rfl)
  unfold Oper.quietAt execOp
  simp [hx, Instr.loadAt, Instr.sureAddr, Sem.run_bind, this, hl', Oper.quietUpon]
theorem q_cvG {l l' : List Value} {ds : List Deferred} {src dst e n cap : Nat} {x : Operand} {a : Option Addr} {xs : List Nat} (hg : Region.wanted ⟨some d, .convert src dst x, ty, ps, af, gd⟩ (yielded ops l.toArray) = true)
    (hx : (Act.mk l.toArray ds).eval x = .slice a n cap) [S : SlTy P src e] [E : IntTy P e .u8] [D : StrTy P dst] (hb : Bytes w a xs) (hn : xs.length = n) (hs : l.set d (.string (byteStr xs)) = l')
    (h : wpQuiet P ops (fun w' => ∃ s : KeptW w, w' = s.val) Q rest ⟨l'.toArray, ds⟩) : wpQuiet P ops (fun w' => ∃ s : KeptW w, w' = s.val) Q (⟨some d, .convert src dst x, ty, ps, af, gd⟩ :: rest) ⟨l.toArray, ds⟩ := by
  refine BigFrame.wpQuiet_want hg fun K hK => ⟨.string (byteStr xs), fun w' ⟨s, hw⟩ => ?_, hK _ (by rw [put_list, hs]; exact h)⟩
  subst hw
  have := run_conv (P := P) (src := src) (dst := dst) (cap := cap) (hb.kept s.property) hn
  unfold Oper.quietAt execOp
  simp [hx, Sem.run_bind, this, Oper.quietUpon]
end
end Go.Proofs.Ytkjnmjilkhigaaa

/- The walk of the statement on the two Floors. -/
namespace Go.Proofs.Ytkjnmjilkhigaaa
open Go.RowKit

def flr (a d : Int) : Int := if a.tmod d < 0 then wrap64 (a.tdiv d - 1) else a.tdiv d

theorem tdiv_bd (a d : Int) (hd : 1 ≤ d) (a0 : -9223372036854775808 ≤ a) (a1 : a ≤ 9223372036854775807) : -9223372036854775808 ≤ a.tdiv d ∧ a.tdiv d ≤ 9223372036854775807 := by
  have h1 := Int.natAbs_tdiv_le_natAbs a d
  rcases Int.le_total 0 a with h | h
  · have h2 := Int.tdiv_nonneg h (by omega : 0 ≤ d)
    omega
  · have h2 := Int.tdiv_nonneg (by omega : 0 ≤ -a) (by omega : 0 ≤ d)
    rw [Int.neg_tdiv] at h2
    omega

def flrCell (a d : Int) : Value := .tuple #[.int .i64 (if d < 1 then 0 else flr a d), .int .i64 (if d < 1 then 140 else 0)]

theorem flrCell_neg {a d : Int} (hd : 1 ≤ d) (h : a.tmod d < 0) : flrCell a d = .tuple #[.int .i64 (wrap64 (a.tdiv d - 1)), .int .i64 0] := by
  unfold flrCell flr
  rw [if_neg (show ¬d < 1 by omega), if_neg (show ¬d < 1 by omega), if_pos h]
theorem flrCell_pos {a d : Int} (hd : 1 ≤ d) (h : 0 ≤ a.tmod d) : flrCell a d = .tuple #[.int .i64 (a.tdiv d), .int .i64 0] := by
  unfold flrCell flr
  rw [if_neg (show ¬d < 1 by omega), if_neg (show ¬d < 1 by omega), if_neg (show ¬a.tmod d < 0 by omega)]
theorem flrCell_bad {a d : Int} (hd : d < 1) : flrCell a d = .tuple #[.int .i64 0, .int .i64 140] := by
  unfold flrCell
  rw [if_pos hd, if_pos hd]
end Go.Proofs.Ytkjnmjilkhigaaa

/- The statements of layer 18 that start a machine: sum, started. -/
namespace Go.Proofs.Ytkjnmjilkhigaaa
open Go.RowKit

/-- Of budgets that may be, together one that may be. -/
def sumB (l : List Int) : Int := l.foldl (fun n x => if 0 < x ∧ x ≤ 1048576 - n then n + x else n) 0
theorem sumB_bd (l : List Int) : 0 ≤ sumB l ∧ sumB l ≤ 1048576 := by
  unfold sumB
  suffices ∀ n : Int, 0 ≤ n → n ≤ 1048576 → 0 ≤ l.foldl (fun n x => if 0 < x ∧ x ≤ 1048576 - n then n + x else n) n ∧ l.foldl (fun n x => if 0 < x ∧ x ≤ 1048576 - n then n + x else n) n ≤ 1048576 from this 0 (by decide) (by decide)
  induction l with
  | nil => exact fun n h1 h2 => ⟨h1, h2⟩
  | cons x l ih =>
    intro n h1 h2
    rw [List.foldl_cons]
    split
    · exact ih _ (by omega) (by omega)
    · exact ih _ h1 h2
theorem sumB_snoc {l : List Int} {k : Nat} {x : Int} (h : l[k]? = some x) : sumB (l.take (k + 1)) = if 0 < x ∧ x ≤ 1048576 - sumB (l.take k) then sumB (l.take k) + x else sumB (l.take k) := by
  unfold sumB
  rw [List.take_add_one, h, List.foldl_append]
  rfl
set_option maxRecDepth 5000 in
theorem o18_sum (a : Option Addr) (c : Nat) (l : List Int) (hl : (l.length : Int) ≤ 9223372036854775807) (w : World) (hw : Nums w a l) :
    Pure Try.prog 39 #[.slice a l.length c] w (.int .i64 (sumB l)) := by
  go_enter Try.func39, Try.ntmps39
  go_wp2_with fail
  go_loopw [3, 4] (fun n i wr => ∃ k : Nat, k ≤ l.length ∧ i = .int .i64 k ∧ n = .int .i64 (sumB (l.take k)) ∧ Below w.heap.size w wr) (fun _ i _ => l.length - (intOf i).toNat)
  case atStart => exact ⟨0, Nat.zero_le _, rfl, rfl, Below.refl _ _⟩
  case round =>
    obtain ⟨k, hk, rfl, rfl, B⟩ := hrel
    by_cases hkl : k < l.length
    · obtain ⟨k1, k2⟩ := ap_lt hkl
      have hb := ap_bd hkl hl
      obtain ⟨x, hx⟩ : ∃ x, l[k]? = some x := ⟨_, List.getElem?_eq_getElem hkl⟩
      obtain ⟨b, o, rfl, e⟩ := (hw.kept B).1 k x hx
      obtain ⟨s1, s2⟩ := sumB_bd (l.take k)
      have hs := sumB_snoc hx
      obtain ⟨n, hn⟩ : ∃ n, n = sumB (l.take k) := ⟨_, rfl⟩
      rw [← hn] at hs s1 s2 ⊢
      clear hn
      have HX := Lib.hid hx
      clear hx
      by_cases h1 : 0 < x
      · by_cases h2 : x ≤ 1048576 - n
        · rw [if_pos ⟨h1, h2⟩] at hs
          have HS := Lib.hid hs
          clear hs
          have hbx : n + x ≤ 1048576 := by omega
          go_wp2
          go_roundw
          case measure => first | exact ap_meas' hkl | exact ap_meas hkl hb
          case rel => exact ⟨k + 1, hkl, by first | rfl | exact congrArg (Value.int .i64) (ap_succ hb), by rw [HS.out], B⟩
        · rw [if_neg (fun h => h2 h.2)] at hs
          have HS := Lib.hid hs
          clear hs
          go_wp2
          go_roundw
          case measure => first | exact ap_meas' hkl | exact ap_meas hkl hb
          case rel => exact ⟨k + 1, hkl, by first | rfl | exact congrArg (Value.int .i64) (ap_succ hb), by rw [HS.out], B⟩
      · rw [if_neg (fun h => h1 h.1)] at hs
        have HS := Lib.hid hs
        clear hs
        go_wp2
        go_roundw
        case measure => first | exact ap_meas' hkl | exact ap_meas hkl hb
        case rel => exact ⟨k + 1, hkl, by first | rfl | exact congrArg (Value.int .i64) (ap_succ hb), by rw [HS.out], B⟩
    · obtain rfl := ap_end hkl hk
      have k3 : decide ((l.length : Int) < (l.length : Int)) = false := by simp
      go_wp2
      go_ret
      refine ⟨?_, B⟩
      rw [List.take_length]
      first | done | rfl
theorem flr_ediv {a d : Int} (hd : 1 ≤ d) : (if a.tmod d < 0 then a.tdiv d - 1 else a.tdiv d) = a / d := by
  have h1 := Int.tdiv_eq_ediv (a := a) (b := d)
  have h2 := Int.tmod_eq_emod (a := a) (b := d)
  have h3 := Int.emod_nonneg a (b := d) (by omega)
  have h4 := Int.emod_lt_of_pos a (b := d) (by omega)
  have h5 : d.sign = 1 := Int.sign_eq_one_of_pos (by omega)
  rw [h5] at h1
  by_cases h0 : 0 ≤ a ∨ d ∣ a
  · rw [if_pos h0] at h1 h2
    rw [if_neg (by omega)]; omega
  · have h7 : a % d ≠ 0 := fun e => h0 (.inr (Int.dvd_of_emod_eq_zero e))
    rw [if_neg h0] at h1 h2
    rw [if_pos (by omega)]; omega
theorem ediv_bd {a d : Int} (hd : 1 ≤ d) (a0 : -9223372036854775808 ≤ a) (a1 : a ≤ 9223372036854775807) : -9223372036854775808 ≤ a / d ∧ a / d ≤ 9223372036854775807 := by
  have h1 := Int.emod_add_mul_ediv a d
  have h3 := Int.emod_nonneg a (b := d) (by omega)
  have h4 := Int.emod_lt_of_pos a (b := d) (by omega)
  by_cases h : a < 0
  · have : a ≤ a / d := by
      refine (Int.le_ediv_iff_mul_le (by omega)).2 ?_
      have := Int.mul_le_mul_of_nonpos_left (show a ≤ 0 by omega) hd
      omega
    have : a / d < 0 := Int.ediv_neg_of_neg_of_pos h (by omega)
    omega
  · have : 0 ≤ a / d := Int.ediv_nonneg (by omega) (by omega)
    have : a / d ≤ a := Int.ediv_le_self _ (by omega)
    omega
theorem ref11_Down (a d : Int) (hd : 1 ≤ d) (a0 : -9223372036854775808 ≤ a) (a1 : a ≤ 9223372036854775807) (w : World) : Pure Try.prog 22 #[.int .i64 a, .int .i64 d] w (.int .i64 (a / d)) := by
  have hb := tdiv_bd a d hd a0 a1
  have hf := flr_ediv (a := a) hd
  have he := ediv_bd hd a0 a1
  have hd0 : d ≠ 0 := by omega
  by_cases h2 : a.tmod d < 0
  · rw [if_pos h2] at hf
    have hb2 : -9223372036854775808 ≤ a.tdiv d - 1 := by omega
    have HF := Lib.hid hf
    clear hf he
    go_enter Try.func22, Try.ntmps22
    go_wp2
    go_ret
    refine ⟨?_, Below.refl _ _⟩
    rw [← HF.out]
    first | done | rfl | (refine ret_int ?_; unfold wrap64; omega)
  · rw [if_neg h2] at hf
    have HF := Lib.hid hf
    clear hf he
    go_enter Try.func22, Try.ntmps22
    go_wp2
    go_ret
    refine ⟨?_, Below.refl _ _⟩
    rw [← HF.out]
    first | done | rfl
set_option maxRecDepth 5000 in
theorem ref11_Dip (p : Pb) (a : Option Addr) (cap : Nat) (hp : p.Ok) (bs : List Nat) (ab : Option Addr) (cb : Nat) (hbl : (bs.length : Int) ≤ 9223372036854775807) (w : World) (hw : Bytes w a p.B) (hby : Bytes w ab bs) :
    Pure Try.prog 21 #[.agg (p.cells (.slice a p.B.length cap)), .slice ab bs.length cb] w (.tuple #[.int .i64 (p.dip bs), .int .i64 (p.pathChk bs)]) := by
  go_enter Try.func21, Try.ntmps21
  go_upto_region 1 with (fail)
  refine name1 ?_
  intro w0 b2 B0
  obtain ⟨fk, fr, flev, fl, fwin, fcode, ftable, fall⟩ := b2.prob hp
  clear fk fr flev fl fwin fcode ftable
  go_wp2_with ((with_reducible apply ld); rfl; (with_reducible assumption); (simp only [List.set_cons_zero, List.set_cons_succ]; rfl))
  refine (ref11_Both p a cap hp bs ab cb hbl _ (hw.kept B0) (hby.kept B0)).mono ?_
  rintro e w1 ⟨rfl, B1⟩
  go_wp2
  go_ret2
  exact ⟨rfl, bOn B0 B1⟩
def StartPost (u : Hu) (w : World) (e : Ending) (w' : World) : Prop := (∃ A : FA, e = .returned (.tuple #[.pointer (some ⟨A.mb, 0, none⟩), .int .i64 (sumB u.bs), .bool true]) ∧ FanoIn w' u.p u.D (u.p.frun u.D (sumB u.bs).toNat Fm.start) A ∧ ∀ k, A.has k → w.heap.size ≤ k) ∧ Below w.heap.size w w'
set_option maxRecDepth 5000 in
theorem o18_started_no (u : Hu) (a ab ap : Option Addr) (c cb cp : Nat) (hu : u.Ok) (hno : ¬(probChk u.p = 0 ∧ 1 ≤ u.D ∧ u.D ≤ 65536)) (w : World) (hw : u.At w a ab ap) :
    Pure Try.prog 18 #[.agg (u.v a ab ap c cb cp)] w (.tuple #[.pointer none, .int .i64 0, .bool false]) := by
  go_enter Try.func18, Try.ntmps18
  go_upto_region 1 with fail
  refine name1 ?_
  intro w0 b0 B0
  have hw0 := hw.kept B0
  have c40 : w0.cell? ⟨w.heap.size, 40, none⟩ = some (.int .i64 u.D) := by rw [b0.cell]; exact Hu.c40 hu.p _ _ _
  have c41 : w0.cell? ⟨w.heap.size, 41, none⟩ = some (.slice ab u.bs.length cb) := by rw [b0.cell]; exact Hu.c41 hu.p _ _ _
  go_wp2_with fail
  refine (o18_sum ab cb u.bs hu.bl w0 hw0.bud).mono ?_
  rintro e w1 ⟨rfl, B1⟩
  have b1 := b0.kept B1
  have hw1 := hw0.kept B1
  have B10 := bOn B0 B1
  have ldp : loadAgg w1 w.heap.size 0 40 = .ok (.agg (u.p.cells (.slice a u.p.B.length c))) w1 := b1.load (by rw [Hu.v, Hu.size hu.p]; omega) (Hu.prob hu.p _ _ _)
  clear c40 c41 b0 B0 B1
  go_wp2_with ((with_reducible apply ld); rfl; (with_reducible assumption); (simp only [List.set_cons_zero, List.set_cons_succ]; rfl))
  refine (ref11_Check u.p a c hu.p w1 hw1.win).mono ?_
  rintro e w2 ⟨rfl, B2⟩
  have b2 := b1.kept B2
  have B20 := bOn B10 B2
  have c40 : w2.cell? ⟨w.heap.size, 40, none⟩ = some (.int .i64 u.D) := by rw [b2.cell]; exact Hu.c40 hu.p _ _ _
  by_cases hc : probChk u.p = 0
  · have e0 : (probChk u.p != 0) = false := by simp [hc]
    by_cases h1 : u.D < 1
    · have t1 : decide (u.D < 1) = true := by simpa using h1
      clear hno
      go_wp2
      refine bodyPost_ret (results_tmp3 rfl rfl rfl rfl) rfl ?_
      exact ⟨rfl, B20⟩
    · have t1 : decide (u.D < 1) = false := by simpa using h1
      have t2 : decide (65536 < u.D) = true := by simp; omega
      clear hno
      go_wp2
      refine bodyPost_ret (results_tmp3 rfl rfl rfl rfl) rfl ?_
      exact ⟨rfl, B20⟩
  · have e0 : (probChk u.p != 0) = true := by simp [hc]
    clear hno
    go_wp2
    refine bodyPost_ret (results_tmp3 rfl rfl rfl rfl) rfl ?_
    exact ⟨rfl, B20⟩
set_option maxRecDepth 5000 in
set_option maxHeartbeats 1000000 in
theorem o18_started (u : Hu) (a ab ap : Option Addr) (c cb cp : Nat) (hu : u.Ok) (hB : u.p.B.length ≤ 140737488351232) (hc : probChk u.p = 0) (hD1 : 1 ≤ u.D) (hD2 : u.D ≤ 65536) (w : World) (hw : u.At w a ab ap) :
    Calls Try.prog 18 #[.agg (u.v a ab ap c cb cp)] w (StartPost u w) := by
  go_enter Try.func18, Try.ntmps18
  go_upto_region 1 with fail
  refine name1 ?_
  intro w0 b0 B0
  have hw0 := hw.kept B0
  have c40 : w0.cell? ⟨w.heap.size, 40, none⟩ = some (.int .i64 u.D) := by rw [b0.cell]; exact Hu.c40 hu.p _ _ _
  have c41 : w0.cell? ⟨w.heap.size, 41, none⟩ = some (.slice ab u.bs.length cb) := by rw [b0.cell]; exact Hu.c41 hu.p _ _ _
  go_wp2_with fail
  refine (o18_sum ab cb u.bs hu.bl w0 hw0.bud).mono ?_
  rintro e w1 ⟨rfl, B1⟩
  have b1 := b0.kept B1
  have hw1 := hw0.kept B1
  have B10 := bOn B0 B1
  have ldp : loadAgg w1 w.heap.size 0 40 = .ok (.agg (u.p.cells (.slice a u.p.B.length c))) w1 := b1.load (by rw [Hu.v, Hu.size hu.p]; omega) (Hu.prob hu.p _ _ _)
  obtain ⟨s1, s2⟩ := sumB_bd u.bs
  obtain ⟨N, hN⟩ : ∃ N : Nat, (N : Int) = sumB u.bs := ⟨(sumB u.bs).toNat, by omega⟩
  have HN := Lib.hid hN
  rw [← hN] at s2 ⊢
  clear c40 c41 b0 B0 B1 hN s1
  go_wp2_with ((with_reducible apply ld); rfl; (with_reducible assumption); (simp only [List.set_cons_zero, List.set_cons_succ]; rfl))
  refine (ref11_Check u.p a c hu.p w1 hw1.win).mono ?_
  rintro e w2 ⟨rfl, B2⟩
  have b2 := b1.kept B2
  have hw2 := hw1.kept B2
  have B20 := bOn B10 B2
  have c40 : w2.cell? ⟨w.heap.size, 40, none⟩ = some (.int .i64 u.D) := by rw [b2.cell]; exact Hu.c40 hu.p _ _ _
  have e0 : (probChk u.p != 0) = false := by simp [hc]
  have t1 : decide (u.D < 1) = false := by simp; omega
  have t2 : decide (65536 < u.D) = false := by simp; omega
  have ldp : ∀ W : World, Box W w.heap.size (u.v a ab ap c cb cp) → loadAgg W w.heap.size 0 40 = .ok (.agg (u.p.cells (.slice a u.p.B.length c))) W := fun W h => h.load (by rw [Hu.v, Hu.size hu.p]; omega) (Hu.prob hu.p _ _ _)
  have ldd : ∀ W : World, Box W w.heap.size (u.v a ab ap c cb cp) → W.cell? ⟨w.heap.size, 40, none⟩ = some (.int .i64 u.D) := fun W h => by rw [h.cell]; exact Hu.c40 hu.p _ _ _
  go_upto_region 4 with fail
  (refine wp_region_treeI (fun W => Box W w.heap.size (u.v a ab ap c cb cp)) 10 (.pure 0 (.pure 3 (.pure 1 (.pure 4 (.one 2 (.one 5 (.pure 6 (.pure 7 (.pure 8 (.one 9 (.one 10 .nil))))))))))) (by kernel_rfl) (by kernel_rfl) ?_; simp only [List.getD_cons_zero, List.getD_cons_succ, wpOTI])
  intro w3 B3
  have b3 := b2.kept B3
  have hw3 := hw2.kept B3
  refine ⟨fun _ => b3, _, fun W hI => by go_simp; first | done | rfl, ?_⟩
  try simp only [put_list, List.set_cons_zero, List.set_cons_succ]
  refine ⟨fun _ => b3, _, fun W hI => by go_simp; first | done | rfl, ?_⟩
  try simp only [put_list, List.set_cons_zero, List.set_cons_succ]
  refine ⟨fun _ => b3, .agg (u.p.cells (.slice a u.p.B.length c)), fun W hI => pure_ld rfl (ldp W hI), ?_⟩
  try simp only [put_list, List.set_cons_zero, List.set_cons_succ]
  refine ⟨fun _ => b3, .int .i64 u.D, fun W hI => by have c := ldd W hI; go_simp, ?_⟩
  try simp only [put_list, List.set_cons_zero, List.set_cons_succ]
  refine ⟨fun _ => b3, ?_⟩
  go_wp2_with fail
  refine (o18_own u.p a c hu.p hB w3 hw3.win).mono ?_
  rintro e w4 ⟨⟨g4, c4, rfl, o4⟩, B4⟩
  have b4 := b3.kept B4
  go_wp2_with fail
  refine (fano_New u.p (some ⟨g4, 0, none⟩) c4 u.D hD1 hD2 hu.p hc w4 (o4.bytes hu.p.b)).mono ?_
  rintro e w5 ⟨⟨A, rfl, F5, hA⟩, B5⟩
  have b5 := b4.kept B5
  go_wp2_with fail
  refine ⟨_, fun _ _ => rfl, ?_⟩
  refine ⟨.pointer (some ⟨A.mb, 0, none⟩), fun _ _ => by go_simp; first | done | rfl, ?_⟩
  refine ⟨.int .i64 0, fun _ _ => by go_simp; first | done | rfl, ?_⟩
  have B40 := bOn (bOn B20 B3) B4
  have B50 := bOn B40 B5
  have hA0 : ∀ k, A.has k → w.heap.size ≤ k := fun k hk => Nat.le_trans B40.size (hA k hk)
  clear ldp ldd c40 b1 b2 b3 b4 hw0 hw1 hw2 hw3 hw o4 hA B10 B20 B2 B3 B4 B5 B40
  go_upto_region 5 with fail
  go_wp2_with fail
  refine (o18_num 0 w5).mono ?_
  rintro e w6 ⟨rfl, B6⟩
  have F6 := F5.kept B6
  have B60 := bOn B50 B6
  clear F5 B50 B6
  go_wp2_with fail
  refine (fano_Run u.p hu.p hc u.D hD1 hD2 Fm.start (Fm.Ok.start hc hD1) A N (by omega) w6 F6).mono ?_
  rintro e w7 ⟨rfl, ⟨g7, c7, F7, hg7⟩, T7⟩
  have B70 : Below w.heap.size w w7 := B60.trans (T7.below' B60.size (fun k hk hh => hA0 k (FA.wr_has hh)))
  have hA7 : ∀ k, ({ A with way := g7, cap := c7 } : FA).has k → w.heap.size ≤ k := fun k hk => by
    have hs := B60.size
    rcases hk with h | h | h
    · exact hA0 k (.inl h)
    · have h' : k = g7 := h
      rcases hg7 with h2 | h2
      · exact hA0 k (.inr (.inl (h'.trans h2)))
      · omega
    · exact hA0 k (.inr (.inr h))
  go_wp2
  refine bodyPost_ret (results_tmp3 rfl rfl rfl rfl) rfl ?_
  refine (show StartPost u w _ _ from ⟨⟨{ A with way := g7, cap := c7 }, ?_, ?_, hA7⟩, B70⟩)
  · rw [← HN.out]; rfl
  · rw [← HN.out, Int.toNat_natCast]; exact F7
end Go.Proofs.Ytkjnmjilkhigaaa
