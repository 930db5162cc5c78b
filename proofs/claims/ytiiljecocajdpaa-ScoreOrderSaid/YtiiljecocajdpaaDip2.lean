/- The walks of dip and total at any path: the program's; what must come of the chapters' example. -/
import Derived.Test.YtiiljecocajdpaaDip
import Derived.Test.YtiiljecocajdpaaPlain
namespace Go.Proofs.Ytiiljecocajdpaa
open Go.RowKit

def Pb.dip (p : Pb) (bs : List Nat) : Int := if p.pathChk bs != 0 then 0 else dipOf (p.pm bs)
def Pb.tot (p : Pb) (bs : List Nat) : Int := if p.pathChk bs != 0 then 0 else lastOf (p.pm bs)
theorem score_Both_bad (p : Pb) (a : Option Addr) (cap : Nat) (hp : p.Ok) (bs : List Nat) (ab : Option Addr) (cb : Nat) (hbl : (bs.length : Int) ≤ 9223372036854775807) (hc : p.pathChk bs ≠ 0) (w : World) (hw : Bytes w a p.B) (hby : Bytes w ab bs) :
    Pure Try.prog 46 #[.agg (p.cells (.slice a p.B.length cap)), .slice ab bs.length cb] w (.tuple #[.int .i64 0, .int .i64 0, .int .i64 (p.pathChk bs)]) := by
  have hz : (p.pathChk bs != 0) = true := by simpa using hc
  go_enter Try.func46, Try.ntmps46
  go_upto_region 1 with (fail)
  refine name3 ?_
  intro w0 b2 b4 b5 B0
  obtain ⟨fk, fr, flev, fl, fwin, fcode, ftable, fall⟩ := b2.prob hp
  clear fk fr flev fl fwin fcode ftable
  go_wp2_with ((with_reducible apply ld); rfl; (with_reducible assumption); (simp only [List.set_cons_zero, List.set_cons_succ]; rfl))
  refine (score_both p a cap hp bs ab cb hbl _ (hw.kept B0) (hby.kept B0)).mono ?_
  rintro e w1 ⟨rfl, B1⟩
  clear fall
  have i1 := b4.kept B1
  have i2 := b5.kept B1
  have c4 := i1.cell 0
  have c5 := i2.cell 0
  have z4 := i1.frozen 0
  have z5 := i2.frozen 0
  simp only [List.getElem?_toArray, List.getElem?_cons_zero] at c4 c5
  go_wp2
  refine bodyPost_ret (results_cells2tmp rfl rfl rfl rfl (((i1.setCell _).cast rfl).setOther (by simp) _) (((i2.setOther (by simp) _).setCell _).cast rfl)) rfl ?_
  exact ⟨rfl, ((bOn B0 B1).setCell (by simp) _).setCell (by simp; omega) _⟩
theorem score_BothG (p : Pb) (a : Option Addr) (cap : Nat) (hp : p.Ok) (hcap : p.B.length ≤ cap) (bs : List Nat) (ab : Option Addr) (cb : Nat) (hbl : (bs.length : Int) ≤ 9223372036854775807) (w : World) (hw : Bytes w a p.B) (hby : Bytes w ab bs) :
    Pure Try.prog 46 #[.agg (p.cells (.slice a p.B.length cap)), .slice ab bs.length cb] w (.tuple #[.int .i64 (p.dip bs), .int .i64 (p.tot bs), .int .i64 (p.pathChk bs)]) := by
  unfold Pb.dip Pb.tot
  by_cases hc : p.pathChk bs = 0
  · rw [if_neg (by simp [hc]), if_neg (by simp [hc]), hc]
    obtain ⟨hch, _⟩ := Pb.pathChk_ok hc
    obtain ⟨⟨k1, k2⟩, l1, l2, cr, hwin, _⟩ := probChk_ok hch
    have hne : 0 < p.B.length := by
      have h1 : 3 ≤ p.N := by unfold Pb.N; omega
      rcases cr with h | h <;> rw [h] at hwin <;> omega
    obtain ⟨g, o, rfl, _⟩ := hw.cell 0 hne
    exact score_Both p g o cap hp hcap bs ab cb hbl hc w hw hby
  · rw [if_pos (by simpa using hc), if_pos (by simpa using hc)]
    exact score_Both_bad p a cap hp bs ab cb hbl hc w hw hby
theorem score_Dip (p : Pb) (a : Option Addr) (cap : Nat) (hp : p.Ok) (hcap : p.B.length ≤ cap) (bs : List Nat) (ab : Option Addr) (cb : Nat) (hbl : (bs.length : Int) ≤ 9223372036854775807) (w : World) (hw : Bytes w a p.B) (hby : Bytes w ab bs) :
    Pure Try.prog 55 #[.agg (p.cells (.slice a p.B.length cap)), .slice ab bs.length cb] w (.tuple #[.int .i64 (p.dip bs), .int .i64 (p.pathChk bs)]) := by
  go_enter Try.func55, Try.ntmps55
  go_upto_region 1 with (fail)
  refine name1 ?_
  intro w0 b2 B0
  obtain ⟨fk, fr, flev, fl, fwin, fcode, ftable, fall⟩ := b2.prob hp
  clear fk fr flev fl fwin fcode ftable
  go_wp2_with ((with_reducible apply ld); rfl; (with_reducible assumption); (simp only [List.set_cons_zero, List.set_cons_succ]; rfl))
  refine (score_BothG p a cap hp hcap bs ab cb hbl _ (hw.kept B0) (hby.kept B0)).mono ?_
  rintro e w1 ⟨rfl, B1⟩
  go_wp2
  go_ret2
  exact ⟨rfl, bOn B0 B1⟩
theorem score_Total (p : Pb) (a : Option Addr) (cap : Nat) (hp : p.Ok) (hcap : p.B.length ≤ cap) (bs : List Nat) (ab : Option Addr) (cb : Nat) (hbl : (bs.length : Int) ≤ 9223372036854775807) (w : World) (hw : Bytes w a p.B) (hby : Bytes w ab bs) :
    Pure Try.prog 80 #[.agg (p.cells (.slice a p.B.length cap)), .slice ab bs.length cb] w (.tuple #[.int .i64 (p.tot bs), .int .i64 (p.pathChk bs)]) := by
  go_enter Try.func80, Try.ntmps80
  go_upto_region 1 with (fail)
  refine name1 ?_
  intro w0 b2 B0
  obtain ⟨fk, fr, flev, fl, fwin, fcode, ftable, fall⟩ := b2.prob hp
  clear fk fr flev fl fwin fcode ftable
  go_wp2_with ((with_reducible apply ld); rfl; (with_reducible assumption); (simp only [List.set_cons_zero, List.set_cons_succ]; rfl))
  refine (score_BothG p a cap hp hcap bs ab cb hbl _ (hw.kept B0) (hby.kept B0)).mono ?_
  rintro e w1 ⟨rfl, B1⟩
  go_wp2
  go_ret2
  exact ⟨rfl, bOn B0 B1⟩
theorem plain_one : plainPb.pathChk [1] = 0 ∧ plainPb.dip [1] = 0 ∧ plainPb.tot [1] = 6 := by
  refine ⟨by kernel_rfl, by kernel_rfl, by kernel_rfl⟩
theorem plain_zero : plainPb.pathChk [0] = 0 ∧ plainPb.dip [0] = -24 ∧ plainPb.tot [0] = -24 := by
  refine ⟨by kernel_rfl, by kernel_rfl, by kernel_rfl⟩
theorem law11_num (e : Int) (w : World) : Pure Try.prog 28 #[.int .i64 e] w (.int .i64 e) := by
  go_enter Try.func28, Try.ntmps28
  go_wp2
  go_ret
  exact ⟨rfl, Below.refl _ _⟩
theorem law11_knows (w : World) : Pure Try.prog 32 #[] w (.bool true) := by
  go_enter Try.func32, Try.ntmps32
  go_wp2_with fail
  refine (law11_Plain _).mono ?_
  rintro e w1 ⟨⟨g, rfl, hB, _⟩, B1⟩
  go_wp2_with fail
  have hb1 : Bytes (w1.alloc (.cells #[.int .u8 1] 5)) (some ⟨w1.heap.size, 0, none⟩) [1] := Box.bytes (Box.new w1 _ _) (by decide)
  have h1 := score_BothG plainPb (some ⟨g, 0, none⟩) 6 plainPb_ok (by decide) [1] (some ⟨w1.heap.size, 0, none⟩) 1 (by decide) _ (hB.kept ((Below.refl _ w1).alloc (Nat.le_refl _) (.cells #[.int .u8 1] 5))) hb1
  rw [plain_one.1, plain_one.2.1, plain_one.2.2] at h1
  refine h1.mono ?_
  rintro e w2 ⟨rfl, B2⟩
  have B20 : Below w.heap.size w w2 := B1.trans ((((Below.refl _ w1).alloc (Nat.le_refl _) _).trans (B2.mono (by simp))).mono B1.size)
  go_wp2_with fail
  refine (law11_Plain _).mono ?_
  rintro e w3 ⟨⟨g3, rfl, hB3, _⟩, B3⟩
  go_wp2_with fail
  have hb3 : Bytes (w3.alloc (.cells #[.int .u8 0] 5)) (some ⟨w3.heap.size, 0, none⟩) [0] := Box.bytes (Box.new w3 _ _) (by decide)
  have h3 := score_BothG plainPb (some ⟨g3, 0, none⟩) 6 plainPb_ok (by decide) [0] (some ⟨w3.heap.size, 0, none⟩) 1 (by decide) _ (hB3.kept ((Below.refl _ w3).alloc (Nat.le_refl _) (.cells #[.int .u8 0] 5))) hb3
  rw [plain_zero.1, plain_zero.2.1, plain_zero.2.2] at h3
  refine h3.mono ?_
  rintro e w4 ⟨rfl, B4⟩
  have B30 := bOn B20 B3
  have B40 : Below w.heap.size w w4 := B30.trans ((((Below.refl _ w3).alloc (Nat.le_refl _) _).trans (B4.mono (by simp))).mono B30.size)
  go_wp2_with fail
  refine (law11_num 0 _).mono ?_
  rintro e w5 ⟨rfl, B5⟩
  go_wp2_with fail
  refine (law11_num 0 _).mono ?_
  rintro e w6 ⟨rfl, B6⟩
  go_wp2
  go_ret
  exact ⟨rfl, bOn (bOn B40 B5) B6⟩
end Go.Proofs.Ytiiljecocajdpaa
