/- The walks of the document's symbols of a path, and of the wrong places. -/
import Derived.Test.YtiiljecocajdpaaRErrs
namespace Go.Proofs.Ytiiljecocajdpaa
open Go.RowKit

theorem u_bit {p : Pb} {bs : List Nat} (hl : (bs.length : Int) = p.L) (n k : Nat) (h : k < (bs ++ List.replicate n 0).length) : (bs ++ List.replicate n 0)[k] = p.bit bs k := by
  unfold Pb.bit
  by_cases hk : k < bs.length
  · rw [List.getElem_append_left hk, if_pos (by omega), List.getD_eq_getElem?_getD, List.getElem?_eq_getElem hk]
    rfl
  · rw [List.getElem_append_right (by omega), if_neg (by omega)]
    simp
theorem u_one {bs : List Nat} {k : Nat} : u8s (bs ++ List.replicate k 0) ++ [Value.int .u8 0] = u8s (bs ++ List.replicate (k + 1) 0) := by
  rw [List.replicate_succ', ← List.append_assoc]
  simp [u8s]
theorem u_room {l k : Nat} {L K : Int} (hl : (l : Int) = L) (h1 : L ≤ 1024) (h2 : K ≤ 32) (hk : (k : Int) + 1 < K) : l + k + 1 ≤ 9223372036854775807 / 65536 ∧ (l + k + 1) * 1 ≤ 140737488355328 := by omega
set_option maxRecDepth 5000 in
set_option maxHeartbeats 2000000 in
theorem ref11_Symbols (p : Pb) (v : Value) (hp : p.Ok) (hch : probChk p = 0) (bs : List Nat) (hpath : p.Path bs) (ab : Option Addr) (cb : Nat) (w : World) (hby : Bytes w ab bs) :
    Calls Try.prog 98 #[.agg (p.cells v), .slice ab bs.length cb] w fun e w' => (∃ g c, e = .returned (.slice (some ⟨g, 0, none⟩) (p.symsTo bs p.N.toNat).length c) ∧ Bytes w' (some ⟨g, 0, none⟩) (p.symsTo bs p.N.toNat)) ∧ Below w.heap.size w w' := by
  obtain ⟨⟨k1, k2⟩, l1, l2, cr, hwin, ⟨v1, v2⟩, hlev, hcc, htt⟩ := probChk_ok hch
  have hL := hpath.len
  have HL := Lib.hid hL
  have hl5 : bs.length ≤ 1024 := by omega
  clear cr hwin v1 v2 hlev htt hcc hL
  go_enter Try.func98, Try.ntmps98
  go_upto_region 1 with (fail)
  refine name1 ?_
  intro w0 b2 B0
  have hown := World.ownsRow_made (base := w0.heap.size) (size := 1) (e := 5) w0 #[] 0 (Nat.le_refl _) (by decide) rfl
  have hb0 := (hby.kept B0).kept ((Below.refl w0.heap.size w0).alloc (Nat.le_refl _) (.cells #[] 5))
  go_wp2_with (at_builtin; refine apB hown hb0 rfl rfl rfl (by omega) (by simp) ?_; intro v1 w1 hown1 hgr1 _)
  have B10 : Below w0.heap.size w0 w1 := ((Below.refl _ w0).alloc (Nat.le_refl _) _).trans (own_below hown hgr1 (by simp))
  have hO1 : w1.ownsRow w0.heap.size 5 1 v1 (bs.length + 0) (u8s (bs ++ List.replicate 0 0)) := by simpa [u8s] using hown1
  clear hown hb0 hown1 hgr1
  have b21 := b2.kept B10
  go_loopw [5, 6] (fun v i wr => ∃ k : Nat, (k : Int) + 1 ≤ p.C.K ∧ i = .int .i64 ((k : Int) + 1) ∧ wr.ownsRow w0.heap.size 5 1 v (bs.length + k) (u8s (bs ++ List.replicate k 0)) ∧ Below w0.heap.size w0 wr) (fun _ i _ => p.C.K.toNat - (intOf i).toNat)
  case atStart => exact ⟨0, by omega, rfl, hO1, B10⟩
  case round =>
    clear hO1 B10
    obtain ⟨k, hk, rfl, hO, hB⟩ := hrel
    have b2r := b2.kept hB
    obtain ⟨fk, fr, flev, fl, fwin, fcode, ftable, fall⟩ := b2r.prob hp
    clear fr flev fl fwin ftable fall
    by_cases hkl : (k : Int) + 1 < p.C.K
    · have hkd : decide ((k : Int) + 1 < p.C.K) = true := decide_eq_true hkl
      have hsz := hB.size
      clear fcode
      go_wp2_with (at_builtin; refine ap (us := [.int .u8 0]) (m := 1) hO (by decide) rfl rfl rfl (by intro u hu; simp at hu; subst hu; rfl) (u_room HL.out l2 k2 hkl).1 (u_room HL.out l2 k2 hkl).2 hsz ?_; intro v2 w2 hown2 hgr2 _)
      have hB2 := hB.trans (own_below hO hgr2 hsz)
      have hO2 : w2.ownsRow w0.heap.size 5 1 v2 (bs.length + (k + 1)) (u8s (bs ++ List.replicate (k + 1) 0)) := by rw [← u_one]; exact hown2
      go_roundw
      case measure => simp only [intOf]; omega
      case rel => exact ⟨k + 1, by push_cast; omega, by go_num, hO2, hB2⟩
    · have hkd : decide ((k : Int) + 1 < p.C.K) = false := decide_eq_false hkl
      have hkK : (k : Int) + 1 = p.C.K := by omega
      have hlen : (bs ++ List.replicate k 0).length = p.N.toNat := by rw [List.length_append, List.length_replicate]; have := HL.out; unfold Pb.N; omega
      have hll : (bs ++ List.replicate k 0).length = bs.length + k := by simp
      have hlt : ∀ x ∈ bs ++ List.replicate k 0, x < 256 := fun x hx => by
        rcases List.mem_append.1 hx with h | h
        · have := hpath.lt x h; omega
        · obtain ⟨_, rfl⟩ := List.mem_replicate.1 h; decide
      obtain ⟨gy, cy, rfl⟩ : ∃ g c, u5 = .slice (some ⟨g, 0, none⟩) (bs.length + k) c := by
        rcases hO.2 with ⟨_, h⟩ | ⟨g, c, cur, hv, _⟩
        · have := HL.out; omega
        · exact ⟨g, c, hv⟩
      have yU : Bytes wr (some ⟨gy, 0, none⟩) (bs ++ List.replicate k 0) := ⟨fun j hj => ⟨gy, 0, rfl, by rw [Nat.zero_add]; exact own_cell hO (u8s_get hj)⟩, hlt⟩
      have hub := u_bit (p := p) HL.out k
      obtain ⟨U, hU⟩ : ∃ U, U = bs ++ List.replicate k 0 := ⟨_, rfl⟩
      rw [← hU] at yU hub hlen hll
      have cW := ref07_Walk p hp hch bs hpath U hlen hub (some ⟨gy, 0, none⟩) cy wr yU
      rw [hll] at cW
      clear hkl hkK hlen hll hlt hub hU hO
      go_wp2_with ((with_reducible apply ld); rfl; (with_reducible assumption); (simp only [List.set_cons_zero, List.set_cons_succ]; rfl))
      refine cW.mono ?_
      rintro e w3 ⟨⟨s, g, c, rfl, hY⟩, B3⟩
      clear fcode fk cW
      go_wp2
      go_ret
      exact ⟨⟨g, c, rfl, hY⟩, B0.trans ((hB.trans (B3.mono hB.size)).mono B0.size)⟩
/-! ### Wrong places, one by one -/
def Pb.errI (p : Pb) (Y : List Nat) : Nat → Int
  | 0 => 0
  | i + 1 => p.errI Y i + if p.hard i = Y.getD i 0 then 0 else 1
theorem Pb.errI_bd (p : Pb) (Y : List Nat) : ∀ i : Nat, 0 ≤ p.errI Y i ∧ p.errI Y i ≤ i
  | 0 => by simp [Pb.errI]
  | i + 1 => by
    have := p.errI_bd Y i
    unfold Pb.errI
    split <;> omega
theorem Pb.symsTo_get (p : Pb) (bs : List Nat) {k j : Nat} (hj : j < p.C.R.toNat) : ∀ N, k < N → (p.symsTo bs N).getD (k * p.C.R.toNat + j) 0 = p.C.y (p.reg bs k) j
  | N + 1, hk => by
    have hl := p.symsTo_len bs N
    rw [p.symsTo_succ, List.getD_eq_getElem?_getD]
    rcases Nat.lt_succ_iff_lt_or_eq.1 hk with h | rfl
    · have h1 : k * p.C.R.toNat + p.C.R.toNat ≤ N * p.C.R.toNat := by rw [← Nat.succ_mul]; exact Nat.mul_le_mul_right _ h
      rw [List.getElem?_append_left (by rw [hl]; omega), ← List.getD_eq_getElem?_getD]
      exact p.symsTo_get bs hj N h
    · rw [List.getElem?_append_right (by rw [hl]; omega), hl, Nat.add_sub_cancel_left]
      unfold Cd.syms
      rw [List.getElem?_map, List.getElem?_range hj]
      rfl
theorem Pb.errI_at (p : Pb) (bs : List Nat) {k : Nat} (hk : k < p.N.toNat) (h0 : p.errI (p.symsTo bs p.N.toNat) (k * p.C.R.toNat) = p.errs ((p.pathL bs).take k)) : ∀ j, j ≤ p.C.R.toNat → p.errI (p.symsTo bs p.N.toNat) (k * p.C.R.toNat + j) = p.errs ((p.pathL bs).take k) + p.errTo k (p.reg bs k) j
  | 0, _ => by rw [Nat.add_zero, h0]; simp [Pb.errTo]
  | j + 1, hj => by
    rw [← Nat.add_assoc]
    unfold Pb.errI Pb.errTo
    rw [p.errI_at bs hk h0 j (by omega), p.symsTo_get bs (by omega) p.N.toNat hk]
    omega
theorem Pb.errI_all (p : Pb) (bs : List Nat) : ∀ k, k ≤ p.N.toNat → p.errI (p.symsTo bs p.N.toNat) (k * p.C.R.toNat) = p.errs ((p.pathL bs).take k)
  | 0, _ => by rw [Nat.zero_mul]; rfl
  | k + 1, hk => by
    have := p.errI_at bs (k := k) (by omega) (p.errI_all bs k (by omega)) p.C.R.toNat (Nat.le_refl _)
    rw [Nat.succ_mul, this, Pb.pathL_take (by omega), p.errs_snoc]
set_option maxRecDepth 5000 in
set_option maxHeartbeats 2000000 in
theorem ref11_Errors (p : Pb) (a : Option Addr) (cap : Nat) (hp : p.Ok) (bs : List Nat) (ab : Option Addr) (cb : Nat) (hbl : (bs.length : Int) ≤ 9223372036854775807) (w : World) (hw : Bytes w a p.B) (hby : Bytes w ab bs) :
    Pure Try.prog 83 #[.agg (p.cells (.slice a p.B.length cap)), .slice ab bs.length cb] w (.tuple #[.int .i64 (p.errors bs), .int .i64 (p.pathChk bs)]) := by
  unfold Pb.errors
  go_enter Try.func83, Try.ntmps83
  go_upto_region 1 with (fail)
  refine name1 ?_
  intro w0 b2 B0
  obtain ⟨fk, fr, flev, fl, fwin, fcode, ftable, fall⟩ := b2.prob hp
  clear fk fr flev fl fwin fcode ftable
  go_wp2_with ((with_reducible apply ld); rfl; (with_reducible assumption); (simp only [List.set_cons_zero, List.set_cons_succ]; rfl))
  refine (ref11_wrong p a cap hp bs ab cb hbl _ (hw.kept B0) (hby.kept B0)).mono ?_
  rintro e w1 ⟨rfl, B1⟩
  clear fall
  have b21 := b2.kept B1
  have B10 := bOn B0 B1
  by_cases hc : p.pathChk bs = 0
  · rw [hc]
    obtain ⟨hch, hpath⟩ := Pb.pathChk_ok hc
    obtain ⟨⟨k1, k2⟩, l1, l2, cr, hwin, ⟨v1, v2⟩, hlev, hcc, htt⟩ := probChk_ok hch
    obtain ⟨hN3, hN5⟩ := Pb.N_le hch
    obtain ⟨fk, fr, flev, fl, fwin, fcode, ftable, fall⟩ := b21.prob hp
    clear fk fr flev fl fwin fcode ftable
    go_wp2_with ((with_reducible apply ld); rfl; (with_reducible assumption); (simp only [List.set_cons_zero, List.set_cons_succ]; rfl))
    refine (ref11_Symbols p _ hp hch bs hpath ab cb _ ((hby.kept B0).kept B1)).mono ?_
    rintro e w2 ⟨⟨g, c, rfl, hY⟩, B2⟩
    clear fall
    have b22 := b21.kept B2
    have hw2 := hw.kept (bOn B10 B2)
    have B20 := bOn B10 B2
    have hyl := p.symsTo_len bs p.N.toNat
    have hall := p.errI_all bs p.N.toNat (Nat.le_refl _)
    have hylB : (p.symsTo bs p.N.toNat).length = p.B.length := by
      rw [hyl]
      obtain ⟨r, hr⟩ : ∃ r : Nat, p.C.R = (r : Int) := ⟨p.C.R.toNat, by omega⟩
      obtain ⟨N, hN⟩ : ∃ N : Nat, p.N = (N : Int) := ⟨p.N.toNat, by omega⟩
      rw [hr, hN] at hwin ⊢
      have : p.B.length = N * r := by exact_mod_cast hwin
      rw [this]
      rfl
    rw [← hyl] at hall
    rw [List.take_of_length_le (by rw [p.pathL_len]; exact Nat.le_refl _)] at hall
    have hylt := p.symsTo_lt bs p.N.toNat
    have hB4 : p.B.length ≤ 4000 := by rcases cr with h | h <;> rw [h] at hwin <;> omega
    obtain ⟨Y, hYY⟩ : ∃ Y, Y = p.symsTo bs p.N.toNat := ⟨_, rfl⟩
    rw [← hYY] at hY hall hylB hylt ⊢
    rw [hylB] at hall ⊢
    have HALL := Lib.hid hall
    have HYB := Lib.hid hylB
    clear hall hylB hYY hyl hwin cr hlev
    obtain ⟨fk, fr, flev, fl, fwin, fcode, ftable, fall⟩ := b22.prob hp
    clear fk fr fl fcode ftable fall
    go_wp2_with fail
    go_loopw [8, 9] (fun n i wr => ∃ k : Nat, k ≤ p.B.length ∧ i = .int .i64 (k : Int) ∧ n = .int .i64 (p.errI Y k) ∧ Below w2.heap.size w2 wr) (fun _ i _ => p.B.length - (intOf i).toNat)
    case atStart => exact ⟨0, Nat.zero_le _, rfl, rfl, Below.refl _ _⟩
    case round =>
      clear fwin flev
      obtain ⟨k, hk, rfl, rfl, hB⟩ := hrel
      by_cases hkl : k < p.B.length
      · obtain ⟨j1, j2⟩ := ap_lt hkl
        have b2r := b22.kept hB
        obtain ⟨fk, fr, flev, fl, fwin, fcode, ftable, fall⟩ := b2r.prob hp
        clear fk fr fl fcode ftable fall
        obtain ⟨ga, oa, rfl, cw⟩ := (hw2.kept hB).cell k hkl
        obtain ⟨gy, oy, hgo, cy⟩ := (hY.kept hB).cell k (by rw [HYB.out]; exact hkl)
        obtain ⟨rfl, rfl⟩ : g = gy ∧ 0 = oy := by simpa using hgo
        rw [Nat.zero_add] at cy
        have hbx := hp.b _ (List.getElem_mem hkl)
        obtain ⟨x, hx⟩ : ∃ x, x = p.B[k] := ⟨_, rfl⟩
        obtain ⟨y, hy⟩ : ∃ y, y = Y[k]'(by rw [HYB.out]; exact hkl) := ⟨_, rfl⟩
        rw [← hx] at cw hbx
        rw [← hy] at cy
        have hd1 : p.B.getD k 0 = x := by rw [hx, List.getD_eq_getElem?_getD, List.getElem?_eq_getElem hkl]; rfl
        have hd2 : Y.getD k 0 = y := by rw [hy, List.getD_eq_getElem?_getD, List.getElem?_eq_getElem (by rw [HYB.out]; exact hkl)]; rfl
        have hei := p.errI_bd Y k
        have hes : p.errI Y (k + 1) = p.errI Y k + if (if p.T.lev - 1 < 2 * (x : Int) then 1 else 0) = y then 0 else 1 := by
          show p.errI Y k + (if p.hard k = Y.getD k 0 then 0 else 1) = _
          unfold Pb.hard
          rw [hd1, hd2]
        obtain ⟨ek, hek⟩ : ∃ ek, ek = p.errI Y k := ⟨_, rfl⟩
        rw [← hek] at hei hes ⊢
        have HES := Lib.hid hes
        have q1 := KeptW.cell fwin
        have q2 := KeptW.cell flev
        have q3 := KeptW.cell cw
        clear hgo hx hy hd1 hd2 hes hek fwin flev cw hylt
        have hes := HES.out
        by_cases hgt : p.T.lev - 1 < 2 * (x : Int)
        · rw [if_pos hgt] at hes
          have hgd : decide (p.T.lev - 1 < 2 * (x : Int)) = true := decide_eq_true hgt
          by_cases hy : 1 = y
          · skip
            rw [if_pos hy] at hes
            subst hy
            have HE := Lib.hid hes
            clear hes
            go_upto_region 10 with (fail)
            refine wp_region_kept (by kernel_rfl) (by kernel_rfl) ?_
            repeat first
              | go_big_quiet_step (fail)
            refine wpQuiet_nil ?_
            intro w3 B3
            have hB3 := hB.trans (B3.mono hB.size)
            have cy3 := (B3.cell (lt_of_cell cy)).trans cy
            clear q1 q2 q3 cy
            go_wp2
            go_roundw
            case measure => exact ap_meas' hkl
            case rel => exact ⟨k + 1, hkl, rfl, by rw [HE.out, Int.add_zero], hB3⟩
          · skip
            have hne : (((1 : Int)) != (y : Int)) = true := by simp; omega
            rw [if_neg hy] at hes
            clear hy
            have HE := Lib.hid hes
            clear hes
            go_upto_region 10 with (fail)
            refine wp_region_kept (by kernel_rfl) (by kernel_rfl) ?_
            repeat first
              | go_big_quiet_step (fail)
            refine wpQuiet_nil ?_
            intro w3 B3
            have hB3 := hB.trans (B3.mono hB.size)
            have cy3 := (B3.cell (lt_of_cell cy)).trans cy
            clear q1 q2 q3 cy
            go_wp2
            go_roundw
            case measure => exact ap_meas' hkl
            case rel => exact ⟨k + 1, hkl, rfl, by rw [HE.out], hB3⟩
        · rw [if_neg hgt] at hes
          have hgd : decide (p.T.lev - 1 < 2 * (x : Int)) = false := decide_eq_false hgt
          by_cases hy : 0 = y
          · skip
            rw [if_pos hy] at hes
            subst hy
            have HE := Lib.hid hes
            clear hes
            go_upto_region 10 with (fail)
            refine wp_region_kept (by kernel_rfl) (by kernel_rfl) ?_
            repeat first
              | go_big_quiet_step (fail)
            refine wpQuiet_nil ?_
            intro w3 B3
            have hB3 := hB.trans (B3.mono hB.size)
            have cy3 := (B3.cell (lt_of_cell cy)).trans cy
            clear q1 q2 q3 cy
            go_wp2
            go_roundw
            case measure => exact ap_meas' hkl
            case rel => exact ⟨k + 1, hkl, rfl, by rw [HE.out, Int.add_zero], hB3⟩
          · skip
            have hne : (((0 : Int)) != (y : Int)) = true := by simp; omega
            rw [if_neg hy] at hes
            clear hy
            have HE := Lib.hid hes
            clear hes
            go_upto_region 10 with (fail)
            refine wp_region_kept (by kernel_rfl) (by kernel_rfl) ?_
            repeat first
              | go_big_quiet_step (fail)
            refine wpQuiet_nil ?_
            intro w3 B3
            have hB3 := hB.trans (B3.mono hB.size)
            have cy3 := (B3.cell (lt_of_cell cy)).trans cy
            clear q1 q2 q3 cy
            go_wp2
            go_roundw
            case measure => exact ap_meas' hkl
            case rel => exact ⟨k + 1, hkl, rfl, by rw [HE.out], hB3⟩
      · obtain rfl := ap_end hkl hk
        have hdd : decide ((p.B.length : Int) < (p.B.length : Int)) = false := by simp
        have hall := HALL.out
        clear hall
        go_wp2
        go_ret2
        exact ⟨by rw [← HALL.out]; rfl, bOn B20 hB⟩
  · have hz : (p.pathChk bs != 0) = true := by simpa using hc
    clear hc
    go_wp2
    go_ret2
    exact ⟨rfl, B10⟩
end Go.Proofs.Ytiiljecocajdpaa
