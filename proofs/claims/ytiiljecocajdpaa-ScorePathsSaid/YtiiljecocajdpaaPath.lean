/- The iterator over the steps of a path: the program's. -/
import Derived.Test.YtiiljecocajdpaaInReg
namespace Go.Proofs.Ytiiljecocajdpaa
open Go.RowKit Go.Shelf
attribute [local go_sem] Oper.semAt_some

/-- The bit of a step: behind the information it is 0. -/
def Pb.bit (p : Pb) (bs : List Nat) (k : Nat) : Nat := if (k : Int) < p.L then bs.getD k 0 else 0
/-- The state ahead of a step. -/
def Pb.st (p : Pb) (bs : List Nat) : Nat → Int
  | 0 => 0
  | k + 1 => (2 * p.st bs k + p.bit bs k) % 2 ^ (p.C.K.toNat - 1)
/-- What the code's register holds at a step. -/
def Pb.reg (p : Pb) (bs : List Nat) (k : Nat) : Nat := (2 * p.st bs k + p.bit bs k).toNat
/-- A path. -/
structure Pb.Path (p : Pb) (bs : List Nat) : Prop where
  len : (bs.length : Int) = p.L
  lt : ∀ x ∈ bs, x < 2
theorem Pb.st_in (p : Pb) (bs : List Nat) : ∀ k, 0 ≤ p.st bs k ∧ p.st bs k < 2 ^ (p.C.K.toNat - 1)
  | 0 => ⟨Int.le_refl _, Int.pow_pos (by decide)⟩
  | k + 1 => ⟨Int.emod_nonneg _ (by have : (0 : Int) < 2 ^ (p.C.K.toNat - 1) := Int.pow_pos (by decide); omega), Int.emod_lt_of_pos _ (Int.pow_pos (by decide))⟩
theorem Pb.bit_lt {p : Pb} {bs : List Nat} (h : p.Path bs) (k : Nat) : p.bit bs k < 2 := by
  unfold Pb.bit
  split
  · by_cases hk : k < bs.length
    · rw [List.getD_eq_getElem?_getD, List.getElem?_eq_getElem hk]
      exact h.lt _ (List.getElem_mem hk)
    · rw [List.getD_eq_getElem?_getD, List.getElem?_eq_none (by omega)]
      decide
  · decide
/-- What comes of a step: its number, and what the register holds. -/
abbrev Pb.Elem (p : Pb) := { x : Nat × Nat // x.1 < p.N.toNat }
def Pb.pathL (p : Pb) (bs : List Nat) : List p.Elem := List.ofFn fun k : Fin p.N.toNat => ⟨(k.1, p.reg bs k.1), k.2⟩
theorem Pb.pathL_len (p : Pb) (bs : List Nat) : (p.pathL bs).length = p.N.toNat := by simp [Pb.pathL]
def Pb.enc (p : Pb) (x : p.Elem) : Array Value := #[.int .i64 (x.1.1 : Int), .agg (ya (p.C.y x.1.2))]
theorem Pb.pathL_take {p : Pb} {bs : List Nat} {k : Nat} (h : k < p.N.toNat) : (p.pathL bs).take (k + 1) = (p.pathL bs).take k ++ [⟨(k, p.reg bs k), h⟩] := by
  rw [List.take_succ_eq_append_getElem (by rw [p.pathL_len]; exact h)]
  simp [Pb.pathL]

set_option maxRecDepth 5000 in
set_option maxHeartbeats 1000000 in
theorem path_seq (p : Pb) (hp : p.Ok) (h : probChk p = 0) (bs : List Nat) (hbs : p.Path bs) (v : Value) (ab : Option Addr) (cb b1 b2 : Nat) (Rd : Nat → Prop) (W : World) (n : Nat)
    (x1 : Box W b1 (p.cells v)) (x2 : Box W b2 #[.slice ab bs.length cb]) (hby : Bytes W ab bs) (r1 : Rd b1) (r2 : Rd b2) (r3 : ∀ b o s, ab = some ⟨b, o, s⟩ → Rd b) :
    SeqAt n Try.prog 100 #[.pointer (some ⟨b1, 0, none⟩), .pointer (some ⟨b2, 0, none⟩)] p.enc (fun xs => xs = p.pathL bs) p.N.toNat Rd W := by
  intro l J hJ hY h0
  obtain ⟨⟨k1, k2⟩, l1, l2, cr, hwin, ⟨v1, v2⟩, hlev, hcc, htt⟩ := probChk_ok h
  clear hwin cr
  refine callsIn_wide.2 ?_
  go_enter Try.func100, Try.ntmps100
  obtain ⟨fk, fr, flev, fl, fwin, fcode, ftable, fall⟩ := x1.prob hp
  clear fk fr flev fl fwin fcode ftable
  go_wp2_with ((with_reducible apply ld); rfl; (with_reducible assumption); (simp only [List.set_cons_zero, List.set_cons_succ]; rfl))
  refine (score_steps p v hp l1 l2 k1 k2 _).mono ?_
  rintro e w1 ⟨rfl, B1⟩
  clear fall
  have K1 : Kept Rd W w1 := Turn.ofBelow B1
  have J1 : J (fun _ => False) [] w1 := hJ _ _ _ _ _ h0 (Turn.ofBelow B1) (fun _ h => h.elim)
  have hN : p.N ≤ 1055 := by unfold Pb.N; omega
  have hN0 : 0 ≤ p.N := by unfold Pb.N; omega
  go_wp2_with fail
  go_loopw [4, 12] (fun s i wr => ∃ k : Nat, k ≤ p.N.toNat ∧ i = .int .i64 k ∧ s = .int .u32 (p.st bs k) ∧ J (fun _ => False) ((p.pathL bs).take k) wr ∧ Kept Rd W wr) (fun _ i _ => p.N.toNat - (intOf i).toNat)
  case atStart => exact ⟨0, by omega, rfl, rfl, by simpa using J1, K1⟩
  case round =>
    obtain ⟨k, hk, rfl, rfl, Jk, Kk⟩ := hrel
    have x1k := Kk.box x1 r1
    have x2k := Kk.box x2 r2
    obtain ⟨fk, fr, flev, fl, fwin, fcode, ftable, fall⟩ := x1k.prob hp
    clear fk fr flev fwin ftable fall
    have c2 := x2k.cell 0
    simp only [List.getElem?_toArray, List.getElem?_cons_zero] at c2
    by_cases hkl : k < p.N.toNat
    · have hk2 : decide ((k : Int) < p.N) = true := by simp; omega
      have hst := p.st_in bs k
      have hbt := Pb.bit_lt hbs k
      by_cases hkL : (k : Int) < p.L
      · have hk3 : decide ((k : Int) < p.L) = true := by simpa using hkL
        have hkb : k < bs.length := by have := hbs.len; omega
        have hkb2 : (k : Int) < bs.length := by omega
        obtain ⟨b, o, rfl, hcell⟩ := hby.cell k hkb
        have hcell' := (World.cell?_of_block (Kk.block (lt_of_cell hcell) (r3 _ _ _ rfl))).trans hcell
        have hbv : bs[k] = p.bit bs k := by
          unfold Pb.bit
          rw [if_pos hkL, List.getD_eq_getElem?_getD, List.getElem?_eq_getElem hkb]
          rfl
        rw [hbv] at hcell'
        clear hcell hkL hbv
        go_wp2_with ((with_reducible apply ld); rfl; (with_reducible assumption); (simp only [List.set_cons_zero, List.set_cons_succ]; rfl))
        refine (trellis_Step p.C hp.c hcc (p.st bs k) (p.bit bs k) hst.1 hst.2 (by omega) (by omega) _).mono ?_
        rintro e w2 ⟨rfl, B2⟩
        obtain ⟨rg, hrg⟩ : ∃ rg : Nat, rg = (2 * p.st bs k + (p.bit bs k : Int)).toNat := ⟨_, rfl⟩
        obtain ⟨sn, hsn⟩ : ∃ sn, sn = (2 * p.st bs k + (p.bit bs k : Int)) % 2 ^ (p.C.K.toNat - 1) := ⟨_, rfl⟩
        rw [← hrg, ← hsn]
        have HR : Hid (p.reg bs k = rg) := hrg.symm
        have HS : Hid (p.st bs (k + 1) = sn) := hsn.symm
        clear hrg hsn
        have hsz : (p.C.yv rg).size = 3 := rfl
        have hfl := p.C.ys_flat rg p.C.R.toNat
        have hbz := Box.new w2 #[.int .u8 0, .int .u8 0, .int .u8 0] 97
        clear fl fcode c2
        go_upto_region 8 with ((with_reducible apply stO); rfl; rfl; exact hbz; rfl; exact hsz; exact hfl; intro w3 b8 B3 ho3 hs3)
        have B32 : Below w2.heap.size w2 w3 := ((Below.refl _ w2).alloc (Nat.le_refl _) _).trans B3
        have B3r := bOn B2 B32
        have K3 : Kept Rd W w3 := Kk.trans (Turn.ofBelow B3r)
        have J3 : J (fun _ => False) ((p.pathL bs).take k) w3 := hJ _ _ _ _ _ Jk (Turn.ofBelow B3r) (fun _ h => h.elim)
        clear ho3 hs3 hbz
        have gY := b8.load (off := 0) (n := 3) (cs' := p.C.yv rg) (by rw [hsz]; omega) (Array.extract_eq_self_of_le (by rw [hsz]; omega))
        obtain ⟨fn, tmps, assign, body, hy, hRd⟩ := hY _ _ ⟨(k, p.reg bs k), hkl⟩ w3 J3 (by rw [List.length_take, p.pathL_len]; omega) (fun _ h => h.elim)
        simp only [Pb.enc, HR.out] at hy
        refine (wpIn_wide (n := n)).1 (wpIn_region_lit ?_)
        rw [← p.C.yv_ya] at hy
        gi_wp2_with ((with_reducible apply ldIn); exact fn_wide; rfl; (with_reducible assumption); (simp only [List.set_cons_zero, List.set_cons_succ]; rfl))
        refine ⟨fun h => absurd h (by decide), hRd.mono ?_⟩
        rintro e w4 ⟨rfl, J4, K4⟩
        gi_wp2
        have K4' : Kept Rd w3 w4 := Turn.mono K4 fun k _ hn hx => hn (.inl hx)
        go_wp2
        go_roundw
        case measure => simp only [intOf]; omega
        case rel => exact ⟨k + 1, by omega, by go_num, by rw [HS.out], by rw [Pb.pathL_take hkl]; exact J4, K3.trans K4'⟩
      · have hk3 : decide ((k : Int) < p.L) = false := by simpa using hkL
        have hbv : (0 : Nat) = p.bit bs k := by unfold Pb.bit; rw [if_neg hkL]
        have HBV := Lib.hid hbv
        clear hkL hbv
        go_wp2_with ((with_reducible apply ld); rfl; (with_reducible assumption); (simp only [List.set_cons_zero, List.set_cons_succ]; rfl))
        refine (show Calls _ _ #[_, _, .int .u8 ((p.bit bs k : Nat) : Int)] _ _ from ?_ ) |> (fun h => (by rw [← HBV.out] at h; exact h))
        refine (trellis_Step p.C hp.c hcc (p.st bs k) (p.bit bs k) hst.1 hst.2 (by omega) (by omega) _).mono ?_
        rintro e w2 ⟨rfl, B2⟩
        obtain ⟨rg, hrg⟩ : ∃ rg : Nat, rg = (2 * p.st bs k + (p.bit bs k : Int)).toNat := ⟨_, rfl⟩
        obtain ⟨sn, hsn⟩ : ∃ sn, sn = (2 * p.st bs k + (p.bit bs k : Int)) % 2 ^ (p.C.K.toNat - 1) := ⟨_, rfl⟩
        rw [← hrg, ← hsn]
        have HR : Hid (p.reg bs k = rg) := hrg.symm
        have HS : Hid (p.st bs (k + 1) = sn) := hsn.symm
        clear hrg hsn
        have hsz : (p.C.yv rg).size = 3 := rfl
        have hfl := p.C.ys_flat rg p.C.R.toNat
        have hbz := Box.new w2 #[.int .u8 0, .int .u8 0, .int .u8 0] 97
        clear fl fcode c2
        go_upto_region 8 with ((with_reducible apply stO); rfl; rfl; exact hbz; rfl; exact hsz; exact hfl; intro w3 b8 B3 ho3 hs3)
        have B32 : Below w2.heap.size w2 w3 := ((Below.refl _ w2).alloc (Nat.le_refl _) _).trans B3
        have B3r := bOn B2 B32
        have K3 : Kept Rd W w3 := Kk.trans (Turn.ofBelow B3r)
        have J3 : J (fun _ => False) ((p.pathL bs).take k) w3 := hJ _ _ _ _ _ Jk (Turn.ofBelow B3r) (fun _ h => h.elim)
        clear ho3 hs3 hbz
        have gY := b8.load (off := 0) (n := 3) (cs' := p.C.yv rg) (by rw [hsz]; omega) (Array.extract_eq_self_of_le (by rw [hsz]; omega))
        obtain ⟨fn, tmps, assign, body, hy, hRd⟩ := hY _ _ ⟨(k, p.reg bs k), hkl⟩ w3 J3 (by rw [List.length_take, p.pathL_len]; omega) (fun _ h => h.elim)
        simp only [Pb.enc, HR.out] at hy
        refine (wpIn_wide (n := n)).1 (wpIn_region_lit ?_)
        rw [← p.C.yv_ya] at hy
        gi_wp2_with ((with_reducible apply ldIn); exact fn_wide; rfl; (with_reducible assumption); (simp only [List.set_cons_zero, List.set_cons_succ]; rfl))
        refine ⟨fun h => absurd h (by decide), hRd.mono ?_⟩
        rintro e w4 ⟨rfl, J4, K4⟩
        gi_wp2
        have K4' : Kept Rd w3 w4 := Turn.mono K4 fun k _ hn hx => hn (.inl hx)
        go_wp2
        go_roundw
        case measure => simp only [intOf]; omega
        case rel => exact ⟨k + 1, by omega, by go_num, by rw [HS.out], by rw [Pb.pathL_take hkl]; exact J4, K3.trans K4'⟩
    · obtain rfl : k = p.N.toNat := by omega
      have hk2 : decide ((p.N.toNat : Int) < p.N) = false := by simp; omega
      rw [List.take_of_length_le (by rw [p.pathL_len]; omega)] at Jk
      clear fl fcode c2
      go_wp2
      refine bodyPost_end (results_nil rfl) rfl ?_
      exact ⟨⟨_, rfl⟩, _, _, rfl, Jk, fun _ h => h.elim⟩
end Go.Proofs.Ytiiljecocajdpaa
