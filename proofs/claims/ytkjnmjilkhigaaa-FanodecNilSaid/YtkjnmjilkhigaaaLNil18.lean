import Derived.Test.YtkjnmjilkhigaaaFanoQ
import Derived.Test.YtkjnmjilkhigaaaFanoD
import Derived.Test.YtkjnmjilkhigaaaFdocL
import Derived.Test.YtkjnmjilkhigaaaLDecodes
set_option linter.unusedSimpArgs false
set_option linter.unusedVariables false
set_option linter.unnecessarySimpa false
/- Fano's machine, the program's: none, and one that nobody made. -/
namespace Go.Proofs.Ytkjnmjilkhigaaa
open Go.RowKit

/-- No machine, or one that nobody made. -/
def NoMach (w : World) (v : Value) : Prop := v = .pointer none ∨ ∃ b, v = .pointer (some ⟨b, 0, none⟩) ∧ w.cell? ⟨b, 40, none⟩ = some (.pointer none)
theorem NoMach.kept {w w' : World} {v : Value} (h : NoMach w v) (hB : Below w.heap.size w w') : NoMach w' v := by
  rcases h with h | ⟨b, h, hb⟩
  · exact .inl h
  · exact .inr ⟨b, h, KeptW.cell hb ⟨w', hB⟩⟩
theorem noM_none (v : Value) (w : World) (h : NoMach w v) : Pure Try.prog 41 #[v] w (.bool true) := by
  rcases h with rfl | ⟨b, rfl, hb⟩
  · go_enter Try.func41, Try.ntmps41
    go_wp2
    go_ret
    exact ⟨rfl, Below.refl _ _⟩
  · go_enter Try.func41, Try.ntmps41
    go_wp2
    go_ret
    exact ⟨rfl, Below.refl _ _⟩
theorem noM_Threshold (v : Value) (w : World) (h : NoMach w v) : Pure Try.prog 25 #[v] w (.int .i64 0) := by
  go_enter Try.func25, Try.ntmps25
  go_wp2_with fail
  refine (noM_none v w h).mono ?_
  rintro e w1 ⟨rfl, B1⟩
  go_wp2
  go_ret
  exact ⟨rfl, B1⟩
theorem noM_Least (v : Value) (w : World) (h : NoMach w v) : Pure Try.prog 24 #[v] w (.int .i64 0) := by
  go_enter Try.func24, Try.ntmps24
  go_wp2_with fail
  refine (noM_none v w h).mono ?_
  rintro e w1 ⟨rfl, B1⟩
  go_wp2
  go_ret
  exact ⟨rfl, B1⟩
theorem noM_Path (v : Value) (w : World) (h : NoMach w v) : Pure Try.prog 35 #[v] w (.slice none 0 0) := by
  go_enter Try.func35, Try.ntmps35
  go_wp2_with fail
  refine (noM_none v w h).mono ?_
  rintro e w1 ⟨rfl, B1⟩
  go_wp2
  go_ret
  exact ⟨rfl, B1⟩
theorem noM_Run (v : Value) (b : Int) (w : World) (h : NoMach w v) : Pure Try.prog 29 #[v, .int .i64 b] w (.tuple #[.bool false, .int .i64 1]) := by
  go_enter Try.func29, Try.ntmps29
  go_wp2_with fail
  refine (noM_none v w h).mono ?_
  rintro e w1 ⟨rfl, B1⟩
  go_wp2
  go_ret2
  exact ⟨rfl, B1⟩
theorem noM_Node (v : Value) (w : World) (h : NoMach w v) : Pure Try.prog 33 #[v] w (.tuple #[.agg (Nd.mk 0 0 0).cells, .bool false]) := by
  go_enter Try.func33, Try.ntmps33
  go_upto_region 1 with fail
  refine name1 ?_
  intro w0 b2 B0
  go_wp2_with fail
  refine (noM_none v w0 (h.kept B0)).mono ?_
  rintro e w1 ⟨rfl, B1⟩
  have b21 := b2.kept B1
  go_wp2_with (first | ((with_reducible apply w_build (d := 6) (cs := (Nd.mk 0 0 0).cells)); ((try simp only [List.map_toArray, List.map_cons, List.map_nil]); exact build_node0 _)) | ((with_reducible apply stO); rfl; rfl; exact b21; rfl; rfl; exact nodeCells_flat _ _ _; intro w2 b3 B2 ho2 hs2))
  refine bodyPost_ret (results_aggTmp rfl rfl rfl (b3.load (off := 0) (n := 3) (cs' := (Nd.mk 0 0 0).cells) (Nat.le_refl _) (Array.extract_eq_self_of_le (Nat.le_refl _)))) rfl ?_
  exact ⟨rfl, (bOn B0 B1).trans B2⟩
theorem noM_Result (v : Value) (w : World) (h : NoMach w v) : Pure Try.prog 19 #[v] w (.agg (Rs.zero.cells (.slice none 0 0))) := by
  go_enter Try.func19, Try.ntmps19
  go_upto_region 1 with fail
  refine name1 ?_
  intro w0 b2 B0
  go_wp2_with fail
  refine (noM_none v w0 (h.kept B0)).mono ?_
  rintro e w1 ⟨rfl, B1⟩
  have b21 := b2.kept B1
  go_wp2_with (first | ((with_reducible apply w_build (d := 6) (cs := Rs.zero.cells (.slice none 0 0))); ((try simp only [List.map_toArray, List.map_cons, List.map_nil]); exact build_res0 _)) | ((with_reducible apply stO); rfl; rfl; exact b21; rfl; rfl; exact flatR; intro w2 b3 B2 ho2 hs2))
  refine bodyPost_ret (results_cellAgg rfl rfl (b3.load (off := 0) (n := 7) (cs' := Rs.zero.cells (.slice none 0 0)) (Nat.le_refl _) rfl)) rfl ?_
  exact ⟨rfl, (bOn B0 B1).trans B2⟩
end Go.Proofs.Ytkjnmjilkhigaaa

/- outpostlaw18.FanodecNil: no machine, and one that nobody made. -/
namespace Go.Proofs.Ytkjnmjilkhigaaa
open Go.RowKit

set_option maxRecDepth 5000 in
theorem law18_Nil (w : World) : Pure Try.prog 10 #[] w (.bool true) := by
  go_enter Try.func10, Try.ntmps10
  go_upto_region 3 with fail
  go_loopw [1, 2] (fun m i wr => ∃ c : Nat, c ≤ 2 ∧ i = .int .i64 c ∧ NoMach wr m ∧ Below w.heap.size w wr) (fun _ i _ => 2 - (intOf i).toNat)
  case atStart => exact ⟨0, by omega, rfl, .inl rfl, Below.refl _ _⟩
  case round =>
    obtain ⟨c, hc, rfl, hM, B0⟩ := hrel
    by_cases hlt : c < 2
    · have h1 : decide ((c : Int) < 2) = true := by simpa using (by omega : (c : Int) < 2)
      go_wp2_with fail
      refine (noM_Run u1 5 wr hM).mono ?_
      rintro e w1 ⟨rfl, B1⟩
      have M1 := hM.kept B1
      have B10 := bOn B0 B1
      go_wp2_with fail
      refine (noM_Node u1 w1 M1).mono ?_
      rintro e w2 ⟨rfl, B2⟩
      have M2 := M1.kept B2
      have B20 := bOn B10 B2
      have bz := Box.new w2 #[.int .u32 0, .int .i64 0, .int .i64 0] 80
      clear M1 hM B0 B1 B2 B10
      go_upto_region 7 with (first | ((with_reducible apply ld); rfl; (with_reducible assumption); (simp only [List.set_cons_zero, List.set_cons_succ]; rfl)) | ((with_reducible apply stO); rfl; rfl; exact bz; rfl; rfl; exact nodeCells_flat 0 0 0; intro w3 b3 B3 ho3 hs3))
      have B32 : Below w2.heap.size w2 w3 := ((Below.refl _ w2).alloc (Nat.le_refl _) _).trans B3
      have M3 := M2.kept B32
      have B30 := bOn B20 B32
      clear B3 ho3 hs3 bz M2 B20 B32
      have K0 := b3.load (off := 0) (n := 3) (cs' := (Nd.mk 0 0 0).cells) (Nat.le_refl _) rfl
      go_wp2_with fail
      refine (o18_num 1 w3).mono ?_
      rintro e w4 ⟨rfl, B4⟩
      have M4 := M3.kept B4
      have b4 := b3.kept B4
      have B40 := bOn B30 B4
      clear K0 b3 M3 B30
      go_wp2_with fail
      refine (noM_Result u1 w4 M4).mono ?_
      rintro e w5 ⟨rfl, B5⟩
      have M5 := M4.kept B5
      have b5 := b4.kept B5
      have B50 := bOn B40 B5
      clear b4 M4 B40 B4 B5
      go_wp2_with fail
      refine (o18_same Rs.zero none none 0 0 w5 (Bytes.nil _ _) (Bytes.nil _ _)).mono ?_
      rintro e w6 ⟨rfl, B6⟩
      have M6 := M5.kept B6
      have b6 := b5.kept B6
      have B60 := bOn B50 B6
      clear b5 M5 B50 B6
      have K0 := b6.load (off := 0) (n := 3) (cs' := (Nd.mk 0 0 0).cells) (Nat.le_refl _) rfl
      have hne : ∀ w : World, (binOp .neq 80 (.agg (Nd.mk 0 0 0).cells) (.agg #[.int .u32 0, .int .i64 0, .int .i64 0])).run Try.prog w = .ok (.bool false) w := fun w => by
        have := neqNode ⟨0, 0, 0⟩ ⟨0, 0, 0⟩ w
        rw [show (Nd.mk 0 0 0).same ⟨0, 0, 0⟩ = true from rfl] at this
        exact this
      go_wp2_with (first | ((with_reducible apply ldG); rfl; rfl; (with_reducible assumption); (simp only [List.set_cons_zero, List.set_cons_succ]; rfl)))
      refine (noM_Threshold u1 w6 M6).mono ?_
      rintro e w7 ⟨rfl, B7⟩
      have M7 := M6.kept B7
      have B70 := bOn B60 B7
      go_wp2_with fail
      refine (noM_Least u1 w7 M7).mono ?_
      rintro e w8 ⟨rfl, B8⟩
      have M8 := M7.kept B8
      have B80 := bOn B70 B8
      go_wp2_with fail
      refine (noM_Path u1 w8 M8).mono ?_
      rintro e w9 ⟨rfl, B9⟩
      have B90 := bOn B80 B9
      clear M6 M7 M8 B60 B70 B80 B7 B8 B9 K0 b6
      go_wp2
      go_roundw
      case measure => simp only [intOf]; omega
      case rel => exact ⟨c + 1, by omega, by go_num, .inr ⟨_, rfl, by rw [(Box.new w9 _ _).cell]; rfl⟩, B90.alloc B90.size _⟩
    · have h1 : decide ((c : Int) < 2) = false := by simpa using (by omega : ¬ (c : Int) < 2)
      go_wp2_with fail
      refine (o18_live wr).mono ?_
      rintro e w1 ⟨rfl, B1⟩
      go_wp2
      go_ret
      exact ⟨rfl, bOn B0 B1⟩
end Go.Proofs.Ytkjnmjilkhigaaa
