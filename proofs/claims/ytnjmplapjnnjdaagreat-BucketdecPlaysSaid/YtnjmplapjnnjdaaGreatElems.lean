import Derived.Test.YtnjmplapjnnjdaaGreatProb
import Derived.Test.YtnjmplapjnnjdaaGreatArith2
import Derived.Laws.BytesArg
import Derived.Maps.AppendAt
import Derived.OwnWalk
import Derived.Test.YtnjmplapjnnjdaaGreatTypes
set_option linter.unusedSimpArgs false
set_option linter.unusedVariables false
set_option linter.unnecessarySimpa false
/- The walks of the checks of a code: the program's and the document's. -/
namespace Go.Proofs.YtnjmplapjnnjdaaGreat
open Go.RowKit

/-- What 'used' hands back: a slice of a copy of the code. -/
def UsedPost (c : Cd) (w : World) (e : Ending) (w' : World) : Prop := ∃ b, e = .returned (.slice (some ⟨b, 2, none⟩) c.used.length 3) ∧ w.heap.size ≤ b ∧ Box w' b c.cells ∧ Below w.heap.size w w'
theorem code_used (c : Cd) (w : World) : Calls Tryz.prog 79 #[.agg c.cells] w (UsedPost c w) := by
  obtain ⟨h0, h1, h2, hA⟩ := (Box.new w c.cells 25).code
  have hl := c.used_len
  by_cases hr : c.R = 2
  · have hb : (c.R == 2) = true := by simp [hr]
    rw [if_pos hr] at hl
    clear hr
    go_enter Tryz.func79, Tryz.ntmps79
    go_wp2
    go_ret
    exact ⟨_, by rw [hl]; rfl, Nat.le_refl _, Box.new _ _ _, (Below.refl _ _).alloc (Nat.le_refl _) _⟩
  · have hb : (c.R == 2) = false := by simp [hr]
    rw [if_neg hr] at hl
    clear hr
    go_enter Tryz.func79, Tryz.ntmps79
    go_wp2
    go_ret
    exact ⟨_, by rw [hl]; rfl, Nat.le_refl _, Box.new _ _ _, (Below.refl _ _).alloc (Nat.le_refl _) _⟩

set_option maxHeartbeats 400000 in
theorem code_Common (c : Cd) (hc : c.Ok) (w : World) : Pure Tryz.prog 80 #[.agg c.cells] w (.int .u64 c.common) := by
  have hb := Box.new w c.cells 25
  obtain ⟨h0, h1, h2, hA⟩ := hb.code
  have HB := Lib.hid hb; clear hb
  go_enter Tryz.func80, Tryz.ntmps80
  go_wp2_with ((with_reducible apply ld); rfl; (with_reducible assumption); (simp only [List.set_cons_zero, List.set_cons_succ]; rfl))
  refine (code_used c _).mono ?_
  rintro e w1 ⟨b, rfl, hle1, hb2, B1⟩
  have hlt := hb2.lt
  have B0 : Below w.heap.size w w1 := (((Below.refl _ w).alloc (Nat.le_refl _) _).trans (B1.mono (by simp)))
  have hle := c.used_le
  clear h0 h1 h2 hA
  go_wp2_with fail
  go_loopw [3, 5, 9] (fun g x i wr => ∃ (k n : Nat), k ≤ c.used.length ∧ i = .int .i64 k ∧ g = .int .u64 n ∧ (n : Int) < W64 ∧ Hid ((c.used.drop k).foldl pgcd n = c.common) ∧ Below w1.heap.size w1 wr) (fun _ _ i _ => c.used.length - (intOf i).toNat)
  case atStart => exact ⟨0, 0, by omega, rfl, rfl, by decide, rfl, Below.refl _ _⟩
  case round =>
    obtain ⟨k, n, hk, rfl, rfl, hn, HF, HW⟩ := hrel
    by_cases hkl : k < c.used.length
    · have hcell : wr.cell? ⟨b, 2 + k, none⟩ = some (.int .u32 (c.g k)) := by
        rw [(hb2.below HW hlt).cell, c.cellg (by omega)]
      have g0 := hc.g0 k
      have g1 := hc.g1 k
      have gw : c.g k < W64 := by unfold W64; omega
      have hf := HF.out
      rw [List.drop_eq_getElem_cons hkl, List.foldl_cons, c.used_get hkl] at hf
      have hlt3 : pgcd n (c.g k).toNat < W64 := pgcd_W64 (by omega) (by omega)
      have HF2 := Lib.hid hf; clear hf
      go_wp2_with fail
      refine (poly_Gcd n (c.g k) (by omega) hn g0 gw _).mono ?_
      rintro e w2 ⟨rfl, B2⟩
      go_wp2
      go_roundw
      case measure => simp only [intOf]; omega
      case rel => exact ⟨k + 1, _, by omega, by go_num, rfl, by omega, HF2.out, HW.trans (B2.mono HW.size)⟩
    · go_wp2
      go_ret
      refine ⟨ret_int ?_, B0.trans (HW.mono B0.size)⟩
      have hf := HF.out
      rw [List.drop_of_length_le (by omega)] at hf
      rw [← hf]
      rfl
end Go.Proofs.YtnjmplapjnnjdaaGreat
/- The walk of the program's check of a code. -/
namespace Go.Proofs.YtnjmplapjnnjdaaGreat
open Go.RowKit

theorem any_take_succ {l : List Nat} {p : Nat → Bool} {k : Nat} (h : k < l.length) : (l.take (k + 1)).any p = ((l.take k).any p || p l[k]) := by
  rw [List.take_succ_eq_append_getElem h, List.any_append]
  simp
theorem orAll_take_succ {l : List Nat} {k : Nat} (h : k < l.length) : orAll (l.take (k + 1)) = orAll (l.take k) ||| l[k] := by
  unfold orAll
  rw [List.take_succ_eq_append_getElem h, List.foldl_append]
  rfl

theorem bad1_cases (c : Cd) : (c.K < 3 ∧ c.bad1 = true) ∨ (¬ c.K < 3 ∧ 32 < c.K ∧ c.bad1 = true) ∨ (3 ≤ c.K ∧ c.K ≤ 32 ∧ c.R ≠ 2 ∧ c.R ≠ 3 ∧ c.bad1 = true) ∨ (3 ≤ c.K ∧ c.K ≤ 32 ∧ c.R = 2 ∧ c.g2 ≠ 0 ∧ c.bad1 = true) ∨
    (3 ≤ c.K ∧ c.K ≤ 32 ∧ ((c.R = 2 ∧ c.g2 = 0) ∨ c.R = 3) ∧ c.bad1 = false) := by
  unfold Cd.bad1
  by_cases h1 : c.K < 3
  · left; simp [h1]
  by_cases h2 : 32 < c.K
  · right; left; simp [h1, h2]
  by_cases h3 : c.R = 2
  · by_cases h4 : c.g2 = 0
    · right; right; right; right; simp [h3, h4]; omega
    · right; right; right; left; simp [h3, h4]; omega
  · by_cases h4 : c.R = 3
    · right; right; right; right; simp [h4]; omega
    · right; right; left; simp [h3, h4]; omega

theorem gen_cases (c : Cd) {g : Int} (g0 : 0 ≤ g) : (c.badGen g.toNat = true ∧ (g == 0) = true) ∨ (c.badGen g.toNat = true ∧ (g == 0) = false ∧ (g / 2 ^ c.K.toNat != 0) = true) ∨
    (c.badGen g.toNat = false ∧ (g == 0) = false ∧ (g / 2 ^ c.K.toNat != 0) = false) := by
  obtain ⟨n, rfl⟩ := Int.eq_ofNat_of_zero_le g0
  unfold Cd.badGen
  rw [divpow_nat, Int.toNat_natCast]
  by_cases h : n = 0
  · left; simp [h]
  · right
    by_cases h2 : n / 2 ^ c.K.toNat = 0
    · right; rw [h2]; simp [h]
    · left
      refine ⟨by simp [h, h2], by simp [h], ?_⟩
      simp only [bne_iff_ne, ne_eq]
      omega
theorem any_of_get {l : List Nat} {p : Nat → Bool} {k : Nat} (h : k < l.length) (hp : p l[k] = true) : l.any p = true := List.any_eq_true.2 ⟨_, List.getElem_mem h, hp⟩

set_option maxHeartbeats 1000000 in
theorem code_Check (c : Cd) (hc : c.Ok) (w : World) : Pure Tryz.prog 57 #[.agg c.cells] w (.int .i64 (codeChk c)) := by
  have hb := Box.new w c.cells 25
  obtain ⟨h0, h1, h2, hA⟩ := hb.code
  have HB := Lib.hid hb; clear hb
  rcases bad1_cases c with ⟨k1, hbad⟩ | ⟨k1, k2, hbad⟩ | ⟨k1, k2, r1, r2, hbad⟩ | ⟨k1, k2, r1, r2, hbad⟩ | ⟨k1, k2, hr, hbad⟩
  · have HF : codeChk c = 50 := by unfold codeChk; rw [hbad]; rfl
    have HH := Lib.hid HF; clear HF hbad
    go_enter Tryz.func57, Tryz.ntmps57
    go_wp2
    go_ret
    exact ⟨ret_int HH.out.symm, (Below.refl _ _).alloc (Nat.le_refl _) _⟩
  · have HF : codeChk c = 50 := by unfold codeChk; rw [hbad]; rfl
    have HH := Lib.hid HF; clear HF hbad
    go_enter Tryz.func57, Tryz.ntmps57
    go_wp2
    go_ret
    exact ⟨ret_int HH.out.symm, (Below.refl _ _).alloc (Nat.le_refl _) _⟩
  · have HF : codeChk c = 50 := by unfold codeChk; rw [hbad]; rfl
    have HH := Lib.hid HF; clear HF hbad
    have r1 : (c.R != 2) = true := by simp [r1]
    have r2 : (c.R != 3) = true := by simp [r2]
    go_enter Tryz.func57, Tryz.ntmps57
    go_wp2
    go_ret
    exact ⟨ret_int HH.out.symm, (Below.refl _ _).alloc (Nat.le_refl _) _⟩
  · have HF : codeChk c = 50 := by unfold codeChk; rw [hbad]; rfl
    have HH := Lib.hid HF; clear HF hbad
    have r1a : (c.R != 2) = false := by simp [r1]
    have r1b : (c.R == 2) = true := by simp [r1]
    have r2 : (c.g2 != 0) = true := by simp [r2]
    clear r1
    go_enter Tryz.func57, Tryz.ntmps57
    go_wp2
    go_ret
    exact ⟨ret_int HH.out.symm, (Below.refl _ _).alloc (Nat.le_refl _) _⟩
  · have hle := c.used_le
    have hu32 := c.used32 hc
    have HU := Lib.hid hu32; clear hu32
    have hbd : codeChk c = if c.used.any c.badGen then 50 else if !(c.used.any fun x => x % 2 == 1) || !(c.used.any fun x => x / 2 ^ (c.K.toNat - 1) == 1) then 51 else if c.common != 1 then 52 else 0 := by unfold codeChk; rw [hbad, show (c.K - 1).toNat = c.K.toNat - 1 by omega]; rfl
    have HD := Lib.hid hbd; clear hbd hbad
    have hbits : (c.R != 2) = false ∧ (c.R == 2) = true ∧ (c.g2 != 0) = false ∨ (c.R != 2) = true ∧ (c.R != 3) = false ∧ (c.R == 2) = false := by
      rcases hr with ⟨h1, h2⟩ | h1
      · left; simp [h1, h2]
      · right; simp [h1]
    clear hr
    rcases hbits with ⟨r1, r2, r3⟩ | ⟨r1, r2, r3⟩
    all_goals
      go_enter Tryz.func57, Tryz.ntmps57
      go_wp2_with ((with_reducible apply ld); rfl; (with_reducible assumption); (simp only [List.set_cons_zero, List.set_cons_succ]; rfl))
      refine (code_used c _).mono ?_
      rintro e w1 ⟨b, rfl, hle1, hb2, B1⟩
      clear h0 h1 h2 hA
      have B0 : Below w.heap.size w w1 := (((Below.refl _ w).alloc (Nat.le_refl _) _).trans (B1.mono (by simp)))
      have hb1 := HB.out.kept B1
      obtain ⟨h0, h1, h2, hA⟩ := hb1.code
      have HB1 := Lib.hid hb1; clear hb1
      go_wp2_with fail
      go_loop [3, 5, 38] (fun g x i => ∃ (k : Nat) (n : Nat), k ≤ c.used.length ∧ i = .int .i64 k ∧ g = .int .u32 n ∧ n < 4294967296 ∧ Hid (n = orAll (c.used.take k)) ∧ Hid ((c.used.take k).any c.badGen = false)) (fun _ _ i => c.used.length - (intOf i).toNat)
      case atStart => exact ⟨0, 0, by omega, rfl, rfl, by omega, rfl, rfl⟩
      case round =>
        obtain ⟨k, n, hk, rfl, rfl, hn, HN, HY⟩ := hrel
        by_cases hkl : k < c.used.length
        · have hcell : w1.cell? ⟨b, 2 + k, none⟩ = some (.int .u32 (c.g k)) := by
            rw [hb2.cell, c.cellg (by omega)]
          have g0 := hc.g0 k
          have g1 := hc.g1 k
          have hg := c.used_get hkl
          rcases gen_cases c g0 with ⟨hbg, hz⟩ | ⟨hbg, hz, hs⟩ | ⟨hbg, hz, hs⟩
          · have HR : codeChk c = 50 := by rw [HD.out, any_of_get hkl (by rw [hg]; exact hbg)]; rfl
            have HH := Lib.hid HR; clear HR hbg hg
            go_wp2
            go_ret
            exact ⟨ret_int HH.out.symm, B0⟩
          · have HR : codeChk c = 50 := by rw [HD.out, any_of_get hkl (by rw [hg]; exact hbg)]; rfl
            have HH := Lib.hid HR; clear HR hbg hg
            go_wp2
            go_ret
            exact ⟨ret_int HH.out.symm, B0⟩
          · have ho := or32 (x := (n : Int)) (y := c.g k) (by omega) (by omega) g0 g1
            have hlt : (n ||| (c.g k).toNat) < 4294967296 := or_lt32 hn (by omega)
            have h1 : Hid (n ||| (c.g k).toNat = orAll (c.used.take (k + 1))) := by
              show _ = _
              rw [orAll_take_succ hkl, ← HN.out, hg]
            have h2 : Hid ((c.used.take (k + 1)).any c.badGen = false) := by
              show _ = _
              rw [any_take_succ hkl, HY.out, hg, hbg]; rfl
            have HO := Lib.hid ho; clear ho hbg hg
            go_wp2
            go_round
            case measure => simp only [intOf]; omega
            case rel => exact ⟨k + 1, _, by omega, by go_num, by rw [HO.out]; rfl, hlt, h1, h2⟩
        · obtain rfl : k = c.used.length := by omega
          have hn0 := HN.out
          have hy0 := HY.out
          rw [List.take_length] at hn0 hy0
          rw [hy0] at HD
          have hK : (c.K - 1).toNat + 1 = c.K.toNat := by omega
          have hodd : (bits .and .u32 (n : Int) 1 == 0) = !(c.used.any fun x => x % 2 == 1) := by
            have := mask32 (x := (n : Int)) 1 (by decide) (by omega) (by omega)
            rw [show (2 : Int) ^ 1 - 1 = 1 from rfl] at this
            rw [this, ← orAll_odd, ← hn0, Bool.eq_iff_iff]
            simp only [beq_iff_eq, Int.pow_succ, Int.pow_zero, Int.one_mul]
            omega
          have hhigh : ((n : Int) / 2 ^ (c.K - 1).toNat == 0) = !(c.used.any fun x => x / 2 ^ (c.K - 1).toNat == 1) := by
            rw [← orAll_high (l := c.used), ← hn0, divpow_nat, Bool.eq_iff_iff]
            · simp only [beq_iff_eq]; omega
            · intro x hx
              have := List.any_eq_false.1 hy0 x hx
              unfold Cd.badGen at this
              rw [hK]
              simp at this ⊢
              exact this.2
          rw [show (c.K - 1).toNat = c.K.toNat - 1 by omega] at hhigh
          clear hn0 hy0 hK
          cases ho : (c.used.any fun x => x % 2 == 1)
          · have HR : codeChk c = 51 := by rw [HD.out, ho]; rfl
            have HH := Lib.hid HR; clear HR
            rw [ho, Bool.not_false] at hodd
            clear ho
            go_wp2
            go_ret
            exact ⟨ret_int HH.out.symm, B0⟩
          · rw [ho, Bool.not_true] at hodd
            cases hi : (c.used.any fun x => x / 2 ^ (c.K.toNat - 1) == 1)
            · have HR : codeChk c = 51 := by rw [HD.out, ho, hi]; rfl
              have HH := Lib.hid HR; clear HR
              rw [hi, Bool.not_false] at hhigh
              clear ho hi
              go_wp2
              go_ret
              exact ⟨ret_int HH.out.symm, B0⟩
            · rw [hi, Bool.not_true] at hhigh
              have HR : codeChk c = if c.common != 1 then 52 else 0 := by rw [HD.out, ho, hi]; rfl
              have HH := Lib.hid HR; clear HR
              clear ho hi
              go_wp2_with ((with_reducible apply ld); rfl; (with_reducible assumption); (simp only [List.set_cons_zero, List.set_cons_succ]; rfl))
              refine (code_Common c hc _).mono ?_
              rintro e w2 ⟨rfl, B2⟩
              by_cases hcm : c.common = 1
              · have hb : ((c.common : Int) != 1) = false := by simp [hcm]
                have HR : codeChk c = 0 := by rw [HH.out, hcm]; rfl
                have HH2 := Lib.hid HR; clear HR hcm
                go_wp2
                go_ret
                exact ⟨ret_int HH2.out.symm, B0.trans (B2.mono B0.size)⟩
              · have hb : ((c.common : Int) != 1) = true := by simp; omega
                have HR : codeChk c = 52 := by rw [HH.out]; simp [hcm]
                have HH2 := Lib.hid HR; clear HR hcm
                go_wp2
                go_ret
                exact ⟨ret_int HH2.out.symm, B0.trans (B2.mono B0.size)⟩
end Go.Proofs.YtnjmplapjnnjdaaGreat
/- The walks of the document's check of a code. -/
namespace Go.Proofs.YtnjmplapjnnjdaaGreat
open Go.RowKit

theorem ref_count (c : Cd) (w : World) : Pure Tryz.prog 90 #[.agg c.cells] w (.int .i64 c.used.length) := by
  obtain ⟨h0, h1, h2, hA⟩ := (Box.new w c.cells 25).code
  have hl := c.used_len
  by_cases hr : c.R = 2
  · have hb : (c.R == 2) = true := by simp [hr]
    rw [if_pos hr] at hl
    have HL := Lib.hid hl
    clear hr hl
    go_enter Tryz.func90, Tryz.ntmps90
    go_wp2
    go_ret
    exact ⟨by rw [HL.out]; rfl, (Below.refl _ _).alloc (Nat.le_refl _) _⟩
  · have hb : (c.R == 2) = false := by simp [hr]
    rw [if_neg hr] at hl
    have HL := Lib.hid hl
    clear hr hl
    go_enter Tryz.func90, Tryz.ntmps90
    go_wp2
    go_ret
    exact ⟨by rw [HL.out]; rfl, (Below.refl _ _).alloc (Nat.le_refl _) _⟩

set_option maxHeartbeats 400000 in
theorem ref05_Common (c : Cd) (hc : c.Ok) (w : World) : Pure Tryz.prog 82 #[.agg c.cells] w (.int .u64 c.common) := by
  have hb := Box.new w c.cells 25
  have HB := Lib.hid hb; clear hb
  have hle := c.used_le
  go_enter Tryz.func82, Tryz.ntmps82
  go_wp2_with fail
  go_loopw [3, 4] (fun g i wr => ∃ (k n : Nat), k ≤ c.used.length ∧ i = .int .i64 k ∧ g = .int .u64 n ∧ (n : Int) < W64 ∧ Hid ((c.used.drop k).foldl pgcd n = c.common) ∧ Below (w.alloc (.cells c.cells 25)).heap.size (w.alloc (.cells c.cells 25)) wr) (fun _ i _ => c.used.length - (intOf i).toNat)
  case atStart => exact ⟨0, 0, by omega, rfl, rfl, by decide, rfl, Below.refl _ _⟩
  case round =>
    obtain ⟨k, n, hk, rfl, rfl, hn, HF, HW⟩ := hrel
    have B0 : Below w.heap.size w wr := ((Below.refl _ w).alloc (Nat.le_refl _) _).trans (HW.mono (by simp))
    have hb1 := HB.out.kept HW
    obtain ⟨h0, h1, h2, hA⟩ := hb1.code
    have HB1 := Lib.hid hb1; clear hb1
    go_wp2_with ((with_reducible apply ld); rfl; (with_reducible assumption); (simp only [List.set_cons_zero, List.set_cons_succ]; rfl))
    refine (ref_count c _).mono ?_
    rintro e w1 ⟨rfl, B1⟩
    have hb2 := HB1.out.kept B1
    by_cases hkl : k < c.used.length
    · have hcell : w1.cell? ⟨w.heap.size, 2 + k, none⟩ = some (.int .u32 (c.g k)) := by
        rw [hb2.cell, c.cellg (by omega)]
      have g0 := hc.g0 k
      have g1 := hc.g1 k
      have gw : c.g k < W64 := by unfold W64; omega
      have hf := HF.out
      rw [List.drop_eq_getElem_cons hkl, List.foldl_cons, c.used_get hkl] at hf
      have hlt3 : pgcd n (c.g k).toNat < W64 := pgcd_W64 (by omega) (by omega)
      have HF2 := Lib.hid hf; clear hf
      have hk3 : (k : Int) < 3 := by omega
      clear h0 h1 h2 hA
      go_wp2_with fail
      refine (ref_Gcd n (c.g k) (by omega) hn g0 gw _).mono ?_
      rintro e w2 ⟨rfl, B2⟩
      go_wp2
      go_roundw
      case measure => simp only [intOf]; omega
      case rel => exact ⟨k + 1, _, by omega, by go_num, rfl, by omega, HF2.out, HW.trans ((B1.trans (B2.mono B1.size)).mono HW.size)⟩
    · clear h0 h1 h2 hA
      go_wp2
      go_ret
      refine ⟨ret_int ?_, B0.trans (B1.mono B0.size)⟩
      have hf := HF.out
      rw [List.drop_of_length_le (by omega)] at hf
      rw [← hf]
      rfl

theorem gen_cases2 (c : Cd) {g : Int} (g0 : 0 ≤ g) : (c.badGen g.toNat = true ∧ (g == 0) = true) ∨ (c.badGen g.toNat = true ∧ (g == 0) = false ∧ 0 < g / 2 ^ c.K.toNat) ∨
    (c.badGen g.toNat = false ∧ (g == 0) = false ∧ ¬ 0 < g / 2 ^ c.K.toNat) := by
  have hp : 0 ≤ g / 2 ^ c.K.toNat := Int.ediv_nonneg g0 (Int.le_of_lt (Int.pow_pos (by decide)))
  rcases gen_cases c g0 with h | ⟨h1, h2, h3⟩ | ⟨h1, h2, h3⟩
  · exact .inl h
  · exact .inr (.inl ⟨h1, h2, by have : g / 2 ^ c.K.toNat ≠ 0 := by simpa using h3
                                 omega⟩)
  · exact .inr (.inr ⟨h1, h2, by have : g / 2 ^ c.K.toNat = 0 := by simpa using h3
                                 omega⟩)
def isOdd (x : Nat) : Bool := x % 2 == 1
def isHigh (c : Cd) (x : Nat) : Bool := x / 2 ^ (c.K.toNat - 1) == 1
theorem odd_int {g : Int} (g0 : 0 ≤ g) : (g % 2 == 1) = isOdd g.toNat := by
  obtain ⟨n, rfl⟩ := Int.eq_ofNat_of_zero_le g0
  unfold isOdd
  rw [Int.toNat_natCast, Bool.eq_iff_iff]
  simp only [beq_iff_eq]
  omega
theorem high_int (c : Cd) {g : Int} (g0 : 0 ≤ g) : (g / 2 ^ (c.K.toNat - 1) == 1) = isHigh c g.toNat := by
  obtain ⟨n, rfl⟩ := Int.eq_ofNat_of_zero_le g0
  unfold isHigh
  rw [Int.toNat_natCast, divpow_nat, Bool.eq_iff_iff]
  simp only [beq_iff_eq]
  omega
set_option maxHeartbeats 2000000 in
theorem ref05_Check (c : Cd) (hc : c.Ok) (w : World) : Pure Tryz.prog 65 #[.agg c.cells] w (.int .i64 (codeChk c)) := by
  have hb := Box.new w c.cells 25
  obtain ⟨h0, h1, h2, hA⟩ := hb.code
  rcases bad1_cases c with ⟨k1, hbad⟩ | ⟨k1, k2, hbad⟩ | ⟨k1, k2, r1, r2, hbad⟩ | ⟨k1, k2, r1, r2, hbad⟩ | ⟨k1, k2, hr, hbad⟩
  · have HF : codeChk c = 50 := by unfold codeChk; rw [hbad]; rfl
    have HH := Lib.hid HF; clear HF hbad hb
    go_enter Tryz.func65, Tryz.ntmps65
    go_wp2
    go_ret
    exact ⟨ret_int HH.out.symm, (Below.refl _ _).alloc (Nat.le_refl _) _⟩
  · have HF : codeChk c = 50 := by unfold codeChk; rw [hbad]; rfl
    have HH := Lib.hid HF; clear HF hbad hb
    go_enter Tryz.func65, Tryz.ntmps65
    go_wp2
    go_ret
    exact ⟨ret_int HH.out.symm, (Below.refl _ _).alloc (Nat.le_refl _) _⟩
  · have HF : codeChk c = 50 := by unfold codeChk; rw [hbad]; rfl
    have HH := Lib.hid HF; clear HF hbad hb
    have r1 : (c.R != 2) = true := by simp [r1]
    have r2 : (c.R != 3) = true := by simp [r2]
    go_enter Tryz.func65, Tryz.ntmps65
    go_wp2
    go_ret
    exact ⟨ret_int HH.out.symm, (Below.refl _ _).alloc (Nat.le_refl _) _⟩
  · have HF : codeChk c = 50 := by unfold codeChk; rw [hbad]; rfl
    have HH := Lib.hid HF; clear HF hbad hb
    have r1a : (c.R != 2) = false := by simp [r1]
    have r1b : (c.R == 2) = true := by simp [r1]
    have r2 : (c.g2 != 0) = true := by simp [r2]
    clear r1
    go_enter Tryz.func65, Tryz.ntmps65
    go_wp2
    go_ret
    exact ⟨ret_int HH.out.symm, (Below.refl _ _).alloc (Nat.le_refl _) _⟩
  · have hle := c.used_le
    obtain ⟨w1, hw1⟩ : ∃ x, x = w.alloc (.cells c.cells 25) := ⟨_, rfl⟩
    have B0 : Below w.heap.size w w1 := by rw [hw1]; exact (Below.refl _ _).alloc (Nat.le_refl _) _
    have hw0 := hb
    rw [← hw1] at hw0
    have HB2 := Lib.hid hw0
    have hlt := hw0.lt
    clear hw0 hb
    have HW1 := Lib.hid hw1; clear hw1
    have hbd : codeChk c = if c.used.any c.badGen then 50 else if !(c.used.any isOdd) || !(c.used.any (isHigh c)) then 51 else if c.common != 1 then 52 else 0 := by
      unfold codeChk
      rw [hbad, show (c.K - 1).toNat = c.K.toNat - 1 by omega]
      rfl
    have HD := Lib.hid hbd; clear hbd hbad
    have hbits : c.R = (c.used.length : Int) ∧ ((c.R != 2) = false ∧ (c.R == 2) = true ∧ (c.g2 != 0) = false ∨ (c.R != 2) = true ∧ (c.R != 3) = false ∧ (c.R == 2) = false) := by
      have hl := c.used_len
      rcases hr with ⟨h1, h2⟩ | h1
      · exact ⟨by rw [hl, h1]; rfl, by left; simp [h1, h2]⟩
      · exact ⟨by rw [hl, h1]; rfl, by right; simp [h1]⟩
    obtain ⟨hR, hbits⟩ := hbits
    have HR := Lib.hid hR
    clear hr hR
    rcases hbits with ⟨r1, r2, r3⟩ | ⟨r1, r2, r3⟩
    all_goals
      go_enter Tryz.func65, Tryz.ntmps65
      go_wp2_with fail
      clear h0 h1 h2 hA r1 r2
      (try clear r3)
      rw [← HW1.out]
      obtain ⟨h0, h1, h2, hA⟩ := HB2.out.code
      rw [HR.out] at h1
      clear h2
      go_loop [3, 4, 5, 6] (fun l h i _ => ∃ (k : Nat), k ≤ c.used.length ∧ i = .int .i64 k ∧ l = .bool ((c.used.take k).any isOdd) ∧ h = .bool ((c.used.take k).any (isHigh c)) ∧ Hid ((c.used.take k).any c.badGen = false)) (fun _ _ i _ => c.used.length - (intOf i).toNat)
      case atStart => exact ⟨0, by omega, rfl, rfl, rfl, rfl⟩
      case round =>
        obtain ⟨k, hk, rfl, rfl, rfl, HY⟩ := hrel
        by_cases hkl : k < c.used.length
        · have hcell : w1.cell? ⟨w.heap.size, 2 + k, none⟩ = some (.int .u32 (c.g k)) := by
            rw [HB2.out.cell, c.cellg (by omega)]
          have g0 := hc.g0 k
          have g1 := hc.g1 k
          have hk3 : (k : Int) < 3 := by omega
          have hg := c.used_get hkl
          rcases gen_cases2 c g0 with ⟨hbg, hz⟩ | ⟨hbg, hz, hs⟩ | ⟨hbg, hz, hs⟩
          · have HX : codeChk c = 50 := by rw [HD.out, any_of_get hkl (by rw [hg]; exact hbg)]; rfl
            have HH := Lib.hid HX; clear HX hbg hg
            go_wp2
            go_ret
            exact ⟨ret_int HH.out.symm, B0⟩
          · have HX : codeChk c = 50 := by rw [HD.out, any_of_get hkl (by rw [hg]; exact hbg)]; rfl
            have HH := Lib.hid HX; clear HX hbg hg
            go_wp2
            go_ret
            exact ⟨ret_int HH.out.symm, B0⟩
          · have h2 : Hid ((c.used.take (k + 1)).any c.badGen = false) := by
              show _ = _
              rw [any_take_succ hkl, HY.out, hg, hbg]; rfl
            have HO := Lib.hid (any_take_succ (p := isOdd) hkl)
            have HI := Lib.hid (any_take_succ (p := isHigh c) hkl)
            have HG := Lib.hid hg
            clear hbg hg
            have ho := odd_int g0
            have hi := high_int c g0
            have HO1 := Lib.hid ho; clear ho
            have HI1 := Lib.hid hi; clear hi
            generalize (c.used.take k).any isOdd = lo at *
            generalize (c.used.take k).any (isHigh c) = hi at *
            cases lo <;> cases hi
            all_goals
              go_wp2
              go_round
              case measure => simp only [intOf]; omega
              case rel =>
                refine ⟨k + 1, by omega, by go_num, ?_, ?_, h2⟩
                · rw [HO.out]
                  first | rfl | (rw [HG.out, HO1.out]; rfl)
                · rw [HI.out]
                  first | rfl | (rw [HG.out, HI1.out]; rfl)
        · obtain rfl : k = c.used.length := by omega
          have hy0 := HY.out
          rw [List.take_length] at hy0 ⊢
          rw [hy0] at HD
          clear hy0
          generalize c.used.any isOdd = lo at *
          generalize c.used.any (isHigh c) = hi at *
          cases lo
          · have HX : codeChk c = 51 := by rw [HD.out]; rfl
            have HH := Lib.hid HX; clear HX
            go_wp2
            go_ret
            exact ⟨ret_int HH.out.symm, B0⟩
          · cases hi
            · have HX : codeChk c = 51 := by rw [HD.out]; rfl
              have HH := Lib.hid HX; clear HX
              go_wp2
              go_ret
              exact ⟨ret_int HH.out.symm, B0⟩
            · have HX : codeChk c = if c.common != 1 then 52 else 0 := by rw [HD.out]; rfl
              have HH := Lib.hid HX; clear HX
              go_wp2_with ((with_reducible apply ld); rfl; (with_reducible assumption); (simp only [List.set_cons_zero, List.set_cons_succ]; rfl))
              refine (ref05_Common c hc _).mono ?_
              rintro e w2 ⟨rfl, B2⟩
              by_cases hcm : c.common = 1
              · have hb : ((c.common : Int) != 1) = false := by simp [hcm]
                have HX : codeChk c = 0 := by rw [HH.out, hcm]; rfl
                have HH2 := Lib.hid HX; clear HX hcm
                go_wp2
                go_ret
                exact ⟨ret_int HH2.out.symm, B0.trans (B2.mono B0.size)⟩
              · have hb : ((c.common : Int) != 1) = true := by simp; omega
                have HX : codeChk c = 52 := by rw [HH.out]; simp [hcm]
                have HH2 := Lib.hid HX; clear HX hcm
                go_wp2
                go_ret
                exact ⟨ret_int HH2.out.symm, B0.trans (B2.mono B0.size)⟩
end Go.Proofs.YtnjmplapjnnjdaaGreat

/- Slices of bytes: conversions to strings, appends, rows that a call has lent. No program's text is named here. -/
namespace Go.Proofs.YtnjmplapjnnjdaaGreat
open Go.RowKit

class SlTy (P : Program) (t : TypeId) (e : outParam TypeId) : Prop where
  out : P.underlying t = some (.slice e)
class IntTy (P : Program) (t : TypeId) (k : outParam IntKind) : Prop where
  out : P.underlying t = some (.int k)
class StrTy (P : Program) (t : TypeId) : Prop where
  out : P.underlying t = some .string
/-- An element's row of the table: its zero value, its cells, its bytes. -/
class ElTy (P : Program) (e : TypeId) (z : outParam Value) (size bytes : outParam Nat) : Prop where
  out : ∃ i, P.info? e = some i ∧ i.zero = some z ∧ i.size = size ∧ i.bytes = bytes ∧ z.cells.size = size
theorem ElTy.mk' {P : Program} {e : TypeId} {z : Value} {size bytes : Nat} (h : (P.info? e).map (fun i => (i.zero, i.size, i.bytes)) = some (some z, size, bytes)) (hz : z.cells.size = size) : ElTy P e z size bytes := by
  obtain ⟨i, h1, h2, h3, h4⟩ := info_parts h
  exact ⟨i, h1, h2, h3, h4, hz⟩

/-! ### Bytes to strings -/
def byteStr (l : List Nat) : ByteArray := strOfNums (l.map Int.ofNat)
theorem run_conv {P : Program} {src dst e : TypeId} [S : SlTy P src e] [E : IntTy P e .u8] [D : StrTy P dst] {w : World} {a : Option Addr} {l : List Nat} {n cap : Nat} (h : Bytes w a l) (hn : l.length = n) :
    (convert src dst (.slice a n cap)).run P w = .ok (.string (byteStr l)) w := by
  subst hn
  rcases a with _ | ⟨b, o, s⟩
  · have hl : l = [] := by
      cases l with
      | nil => rfl
      | cons x l => obtain ⟨b, o, ha, _⟩ := h.cell 0 (by simp); cases ha
    subst hl
    exact run_convert_bytes_nil w src e S.out E.out 0 cap dst D.out
  · by_cases hz : l.length = 0
    · obtain rfl : l = [] := List.eq_nil_of_length_eq_zero hz
      rw [run_convert_bytes_string w src dst e _ _ _ S.out E.out D.out]
      simp only [Conv.bytesToString, loadCells, List.length_nil, loadCellsFrom]
      simp [Sem.run_bind, Sem.run_pure, byteStr, strOfNums]
      rfl
    · obtain ⟨b', o', ha, _⟩ := h.cell 0 (by omega)
      obtain ⟨rfl, rfl, rfl⟩ : b = b' ∧ o = o' ∧ s = none := by simpa using ha
      refine run_convert_bytes_arg w src e S.out E.out b o l.length cap (l.map Int.ofNat) (List.length_map ..) (fun i hi => ?_) dst D.out
      obtain ⟨b', o', ha, hc⟩ := h.cell i hi
      obtain ⟨rfl, rfl⟩ : b = b' ∧ o = o' := by simpa using ha
      rw [hc]
      simp [List.getD, List.getElem?_eq_getElem hi]
theorem cv {P : Program} {ops : Array Oper} {rest : List Oper} {l l' : List Value} {ds : List Deferred} {w : World} {Q : Exit → Act → World → Prop} {src dst e d n cap : Nat} {x : Operand} {a : Option Addr} {xs : List Nat} {ty : TypeId} {ps : String} {af : Array Edge}
    (hx : (Act.mk l.toArray ds).eval x = .slice a n cap) [S : SlTy P src e] [E : IntTy P e .u8] [D : StrTy P dst] (hb : Bytes w a xs) (hn : xs.length = n) (hs : l.set d (.string (byteStr xs)) = l')
    (h : wpList P ops Q rest ⟨l'.toArray, ds⟩ w) : wpList P ops Q (⟨some d, .convert src dst x, ty, ps, af, none⟩ :: rest) ⟨l.toArray, ds⟩ w := by
  refine wpList_plain rfl fun K hK => ?_
  unfold Oper.wp execOp
  have := run_conv (P := P) (src := src) (dst := dst) (cap := cap) hb hn
  simp only [hx, Sem.run_bind, this, Result.andThen_ok, Sem.run_pure]
  rw [Oper.upon_value, put_list, hs]
  exact hK _ _ h
/-! ### Appends -/
theorem Below.grown {B : Nat} {w w' : World} {v : Value} (h : w.grownBy w' v.ownBlock) (hB : B ≤ w.heap.size) (hv : ∀ k, v.ownBlock = some k → B ≤ k) : Below B w w' :=
  ⟨h.os, h.tape, h.output, h.size, fun k hk => h.block k (by omega) (fun e => by have := hv k e.symm; omega)⟩
theorem own_below {w w' : World} {base e size n : Nat} {v : Value} {xs : List Value} (h : w.ownsRow base e size v n xs) (hg : w.grownBy w' v.ownBlock) (hb : base ≤ w.heap.size) : Below base w w' :=
  Below.grown hg hb fun k hk => (h.lt k hk).1
theorem alloc_cells_new (w : World) (us : List Value) (t : TypeId) : ∀ j u, us[j]? = some u → (w.alloc (.cells us.toArray t)).cell? ((⟨w.heap.size, 0, none⟩ : Addr).add j) = some u := by
  intro j u hj
  have hadd : (⟨w.heap.size, 0, none⟩ : Addr).add j = ⟨w.heap.size, j, none⟩ := by unfold Addr.add; split <;> simp_all
  rw [hadd, cell_of_row _ _ _ _ t (0, 0) (heap_alloc_new w _)]
  simpa using hj
/-- THE ARM for 'append(s, x ..)', the new elements laid in a block of their own just before. -/
theorem ap {P : Program} {ops : Array Oper} {rest : List Oper} {l : List Value} {ds : List Deferred} {w : World} {Q : Exit → Act → World → Prop} {t e te d n m c size bytes base : Nat} {s x : Operand} {z v : Value} {xs us : List Value} {ty : TypeId} {ps : String} {af : Array Edge}
    [S : SlTy P t e] [E : ElTy P e z size bytes] (hown : w.ownsRow base e size v n xs) (hsz : 0 < size) (hs : (Act.mk l.toArray ds).eval s = v) (hx : (Act.mk l.toArray ds).eval x = .slice (some ⟨w.heap.size, 0, none⟩) m c)
    (hl : us.length = m * size) (h1 : ∀ u ∈ us, u.oneCell' = true) (h63 : n + m ≤ 9223372036854775807 / 65536) (hbytes : (n + m) * bytes ≤ 140737488355328) (hbase : base ≤ w.heap.size)
    (h : ∀ v' w', w'.ownsRow base e size v' (n + m) (xs ++ us) → w.grownBy w' v.ownBlock → (v'.ownBlock = v.ownBlock ∨ v'.ownBlock = some (w.heap.size + 1)) → wpList P ops Q rest ⟨(l.set d v').toArray, ds⟩ w') :
    wpList P ops Q (⟨some d, .call { callee := .builtin .append, args := #[s, x], argTypes := #[t, t] }, ty, ps, af, none⟩ :: rest) ⟨l.toArray, ds⟩ (w.alloc (.cells us.toArray te)) := by
  obtain ⟨i, hi, hz0, hz1, hz2, hz3⟩ := E.out
  refine wpList_append_own_at (w.alloc (.cells us.toArray te)) rfl s x t rfl base e i z size bytes S.out hi hz0 hz1 hz2 hz3 hsz v n xs hs (hown.alloc _) ⟨w.heap.size, 0, none⟩ m c us hx hl (alloc_cells_new w us te) h1 (by unfold maxLen; omega) hbytes (by simp; omega) ?_
  intro v' w' h2 h3 _ h5
  rw [put_list]
  exact h v' w' h2 ((World.grownBy_alloc w _ _).trans h3) (by simpa using h5)
theorem run_append_none {P : Program} {t e ty cap c : Nat} [S : SlTy P t e] {w : World} {z : Value} {base size bytes n : Nat} [E : ElTy P e z size bytes] {v : Value} {xs : List Value} (hown : w.ownsRow base e size v n xs) :
    (Builtin.append_ #[t, t] ty #[v, .slice none 0 c]).run P w = .ok v w := by
  obtain ⟨i, hi, hz0, hz1, hz2, hz3⟩ := E.out
  rcases hown.2 with ⟨rfl, rfl⟩ | ⟨g, cap, cur, rfl, hbg, hg, hnc, hcm, hcs, htake⟩
  · simp [Builtin.append_, run_underlying S.out, sizeOf, typeInfo, hi, Builtin.lenOf, Builtin.firstCells]
  · simp [Builtin.append_, run_underlying S.out, sizeOf, typeInfo, hi, Builtin.lenOf, Builtin.firstCells, hnc, storeCells]
/-- THE ARM for 'append(s, b...)' of bytes. -/
theorem apB {P : Program} {ops : Array Oper} {rest : List Oper} {l : List Value} {ds : List Deferred} {w : World} {Q : Exit → Act → World → Prop} {t e d n m c base : Nat} {s x : Operand} {z v : Value} {xs : List Value} {a : Option Addr} {bs : List Nat} {ty : TypeId} {ps : String} {af : Array Edge}
    [S : SlTy P t e] [E : ElTy P e z 1 1] (hown : w.ownsRow base e 1 v n xs) (hb : Bytes w a bs) (hs : (Act.mk l.toArray ds).eval s = v) (hx : (Act.mk l.toArray ds).eval x = .slice a m c)
    (hl : bs.length = m) (hbytes : n + m ≤ 140737488355328) (hbase : base ≤ w.heap.size)
    (h : ∀ v' w', w'.ownsRow base e 1 v' (n + m) (xs ++ bs.map fun b => Value.int .u8 (b : Nat)) → w.grownBy w' v.ownBlock → (v'.ownBlock = v.ownBlock ∨ v'.ownBlock = some w.heap.size) → wpList P ops Q rest ⟨(l.set d v').toArray, ds⟩ w') :
    wpList P ops Q (⟨some d, .call { callee := .builtin .append, args := #[s, x], argTypes := #[t, t] }, ty, ps, af, none⟩ :: rest) ⟨l.toArray, ds⟩ w := by
  subst hl
  by_cases hz : bs.length = 0
  · obtain rfl : bs = [] := List.eq_nil_of_length_eq_zero hz
    have hr : (Builtin.append_ #[t, t] ty #[v, .slice a 0 c]).run P w = .ok v w := by
      rcases a with _ | ad
      · exact run_append_none (cap := 0) hown
      · obtain ⟨i, hi, hz0, hz1, hz2, hz3⟩ := E.out
        have hf := run_firstCells_some (P := P) w i.size 0 ad 0 c [] (by simp) (by simp)
        rcases hown.2 with ⟨rfl, rfl⟩ | ⟨g, cap, cur, rfl, hbg, hg, hnc, hcm, hcs, htake⟩
        · simp [Builtin.append_, run_underlying S.out, sizeOf, typeInfo, hi, Builtin.lenOf, hf]
        · simp [Builtin.append_, run_underlying S.out, sizeOf, typeInfo, hi, Builtin.lenOf, hf, hnc, storeCells]
    refine wpList_plain rfl fun K hK => ?_
    unfold Oper.wp execOp
    simp only [resolve, invoke, builtin, Sem.run_bind, Sem.run_pure, Result.andThen_ok, List.map_toArray, List.map_cons, List.map_nil, hs, hx, List.length_nil, hr]
    rw [Oper.upon_value, put_list]
    exact hK _ _ (h v w (by simpa using hown) ⟨rfl, rfl, rfl, Nat.le_refl _, fun _ _ _ => rfl⟩ (.inl rfl))
  · obtain ⟨b, o, rfl, _⟩ := hb.cell 0 (by omega)
    obtain ⟨i, hi, hz0, hz1, hz2, hz3⟩ := E.out
    refine wpList_append_own_at w rfl s x t rfl base e i z 1 1 S.out hi hz0 hz1 hz2 hz3 (by decide) v n xs hs hown ⟨b, o, none⟩ bs.length c (bs.map fun b => Value.int .u8 (b : Nat)) hx (by simp) ?_ ?_ (by unfold maxLen; omega) (by omega) hbase ?_
    · intro j u hj
      have hjl : j < bs.length := by
        rcases Nat.lt_or_ge j bs.length with h | h
        · exact h
        · simp [List.getElem?_eq_none h] at hj
      obtain ⟨b', o', ha, hc⟩ := hb.cell j hjl
      obtain ⟨rfl, rfl⟩ : b = b' ∧ o = o' := by simpa using ha
      have hadd : (⟨b, o, none⟩ : Addr).add j = ⟨b, o + j, none⟩ := by unfold Addr.add; split <;> simp_all
      rw [hadd, hc]
      simp [List.getElem?_eq_getElem hjl] at hj
      rw [hj]
    · intro u hu
      simp at hu
      obtain ⟨_, _, rfl⟩ := hu
      rfl
    · intro v' w' h2 h3 _ h5
      rw [put_list]
      exact h v' w' h2 h3 h5
end Go.Proofs.YtnjmplapjnnjdaaGreat

/- Facts on this seat's types: slices and their elements, integers, strings. By gen_types.py. -/
namespace Go.Proofs.YtnjmplapjnnjdaaGreat
open Go.RowKit

instance iT2 : IntTy Tryz.prog 2 .i64 := ⟨Tryz.underlying2⟩
instance iT3 : IntTy Tryz.prog 3 .i64 := ⟨Tryz.underlying3⟩
instance iT5 : IntTy Tryz.prog 5 .u8 := ⟨Tryz.underlying5⟩
instance iT6 : IntTy Tryz.prog 6 .u8 := ⟨Tryz.underlying6⟩
instance gT9 : StrTy Tryz.prog 9 := ⟨Tryz.underlying9⟩
instance gT10 : StrTy Tryz.prog 10 := ⟨Tryz.underlying10⟩
instance gT11 : StrTy Tryz.prog 11 := ⟨Tryz.underlying11⟩
instance iT12 : IntTy Tryz.prog 12 .u64 := ⟨Tryz.underlying12⟩
instance iT21 : IntTy Tryz.prog 21 .i32 := ⟨Tryz.underlying21⟩
instance iT22 : IntTy Tryz.prog 22 .u32 := ⟨Tryz.underlying22⟩
instance sT30 : SlTy Tryz.prog 30 5 := ⟨Tryz.underlying30⟩
instance sT33 : SlTy Tryz.prog 33 48 := ⟨Tryz.underlying33⟩
instance iT36 : IntTy Tryz.prog 36 .i64 := ⟨Tryz.underlying36⟩
instance sT59 : SlTy Tryz.prog 59 61 := ⟨Tryz.underlying59⟩
instance sT60 : SlTy Tryz.prog 60 3 := ⟨Tryz.underlying60⟩
instance sT78 : SlTy Tryz.prog 78 77 := ⟨Tryz.underlying78⟩
instance iT96 : IntTy Tryz.prog 96 .u64 := ⟨Tryz.underlying96⟩
instance iT108 : IntTy Tryz.prog 108 .u64 := ⟨Tryz.underlying108⟩
instance sT109 : SlTy Tryz.prog 109 60 := ⟨Tryz.underlying109⟩
instance sT137 : SlTy Tryz.prog 137 66 := ⟨Tryz.underlying137⟩
instance sT142 : SlTy Tryz.prog 142 22 := ⟨Tryz.underlying142⟩
instance iT165 : IntTy Tryz.prog 165 .u8 := ⟨Tryz.underlying165⟩
instance iT166 : IntTy Tryz.prog 166 .u8 := ⟨Tryz.underlying166⟩
instance iT169 : IntTy Tryz.prog 169 .i32 := ⟨Tryz.underlying169⟩
instance iT170 : IntTy Tryz.prog 170 .i32 := ⟨Tryz.underlying170⟩
instance zT5 : ElTy Tryz.prog 5 (.int .u8 0) 1 1 := .mk' (by kernel_rfl) rfl
instance zT48 : ElTy Tryz.prog 48 (.agg #[(.int .i64 0), (.int .i64 0)]) 2 16 := .mk' (by kernel_rfl) rfl
instance zT3 : ElTy Tryz.prog 3 (.int .i64 0) 1 8 := .mk' (by kernel_rfl) rfl
instance zT77 : ElTy Tryz.prog 77 (.agg #[(.int .u32 0), (.int .i64 0), (.int .i64 0), (.slice none 0 0)]) 4 48 := .mk' (by kernel_rfl) rfl
instance zT60 : ElTy Tryz.prog 60 (.slice none 0 0) 1 24 := .mk' (by kernel_rfl) rfl
instance zT66 : ElTy Tryz.prog 66 (.agg #[(.int .u32 0), (.int .i64 0), (.int .i64 0)]) 3 24 := .mk' (by kernel_rfl) rfl
instance zT22 : ElTy Tryz.prog 22 (.int .u32 0) 1 4 := .mk' (by kernel_rfl) rfl
end Go.Proofs.YtnjmplapjnnjdaaGreat
