import Derived.Test.YtnjmplapjnnjdaaGreatSeDec
import Derived.Test.YtnjmplapjnnjdaaGreatKnow
import Derived.Test.YtnjmplapjnnjdaaGreatBkNew
import Derived.Test.YtnjmplapjnnjdaaGreatFill
import Derived.Test.YtnjmplapjnnjdaaGreatKid
import Derived.Test.YtnjmplapjnnjdaaGreatLFloors
import Derived.Laws.CopyRow
set_option linter.unusedSimpArgs false
set_option linter.unusedVariables false
set_option linter.unnecessarySimpa false
/- outpostlaw17: num, floor, knows. -/
namespace Go.Proofs.YtnjmplapjnnjdaaGreat
open Go.RowKit

theorem law17_num (e : Int) (w : World) : Pure Tryz.prog 7 #[.int .i64 e] w (.int .i64 e) := by
  go_enter Tryz.func7, Tryz.ntmps7
  go_wp2
  go_ret
  exact ⟨rfl, Below.refl _ _⟩
theorem plain17 : plainPb.seE 10 10 4 = 0 ∧ plainPb.seR 10 10 4 = ⟨true, true, [1], 6, 0, 4, 0⟩ := ⟨by decide +kernel, by kernel_rfl⟩
set_option maxRecDepth 5000 in
theorem law17_knows (w : World) : Pure Tryz.prog 9 #[] w (.bool true) := by
  go_enter Tryz.func9, Tryz.ntmps9
  go_wp2_with fail
  refine (law11_Plain _).mono ?_
  rintro e w1 ⟨⟨g, rfl, hB, _⟩, B1⟩
  have hd := se_Decode plainPb (some ⟨g, 0, none⟩) 6 10 10 4 plainPb_ok _ hB
  rw [plain17.1, plain17.2] at hd
  go_wp2_with fail
  refine hd.mono ?_
  rintro e w2 ⟨⟨a, c, rfl, hO⟩, B2⟩
  have bn := Box.new w2 #[.bool false, .bool false, .slice none 0 0, .int .i64 0, .int .i64 0, .int .i64 0, .int .i64 0] 86
  go_upto_region 2 with (first | ((with_reducible apply ld); rfl; (with_reducible assumption); (simp only [List.set_cons_zero, List.set_cons_succ]; rfl)) | ((with_reducible apply stO); rfl; rfl; exact bn; rfl; rfl; exact flatR; intro w3 b3 B3 ho3 hs3))
  have b3' : Box w3 w2.heap.size #[.bool true, .bool true, .slice a 1 c, .int .i64 6, .int .i64 0, .int .i64 4, .int .i64 0] := b3
  have B32 : Below w2.heap.size w2 w3 := ((Below.refl _ w2).alloc (Nat.le_refl _) _).trans B3
  have hO3 := (hO.kept (w' := w3) fun k hk hl => B32.block k hl).bytes
  have B30 := bOn (bOn B1 B2) B32
  go_wp2_with fail
  refine (law17_num 0 _).mono ?_
  rintro e w4 ⟨rfl, B4⟩
  have b4 := b3'.kept B4
  have k0 := b4.cell 0
  have k1 := b4.cell 1
  have k2 := b4.cell 2
  have k3 := b4.cell 3
  have k5 := b4.cell 5
  simp only [List.getElem?_toArray, List.getElem?_cons_zero, List.getElem?_cons_succ] at k0 k1 k2 k3 k5
  have hbq : ((byteStr [1]).toList == [1]) = true := by decide +kernel
  have hcv := run_conv (P := Tryz.prog) (src := 30) (dst := 9) (cap := c) (hO3.kept B4) (n := 1) rfl
  go_wp2
  go_ret
  exact ⟨rfl, bOn B30 B4⟩
end Go.Proofs.YtnjmplapjnnjdaaGreat

/- The walk of the statement on the order of dip, total and prefix metrics. -/
namespace Go.Proofs.YtnjmplapjnnjdaaGreat
open Go.RowKit

end Go.Proofs.YtnjmplapjnnjdaaGreat
