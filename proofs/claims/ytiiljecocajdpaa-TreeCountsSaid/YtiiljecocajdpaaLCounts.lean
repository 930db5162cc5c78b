/- The walk of the statement on every count. -/
import Derived.Test.YtiiljecocajdpaaDocCount
import Derived.Test.YtiiljecocajdpaaNoTree
namespace Go.Proofs.Ytiiljecocajdpaa
open Go.RowKit

set_option maxRecDepth 5000 in
set_option maxHeartbeats 1000000 in
theorem law15_TreeCounts (p : Pb) (a : Option Addr) (cap : Nat) (hp : p.Ok) (dip : Int) (_d0 : -9223372036854775808 ≤ dip) (_d1 : dip ≤ 9223372036854775807) (most : Int) (_m0 : -9223372036854775808 ≤ most) (_m1 : most ≤ 9223372036854775807) (w : World) (hw : Bytes w a p.B) :
    Pure Try.prog 11 #[.agg (p.cells (.slice a p.B.length cap)), .int .i64 dip, .int .i64 most] w (.bool true) := by
  go_enter Try.func11, Try.ntmps11
  go_upto_region 1 with (fail)
  refine name1 ?_
  intro w0 b3 B0
  have hw0 := hw.kept B0
  obtain ⟨fk, fr, flev, fl, fwin, fcode, ftable, fall⟩ := b3.prob hp
  clear fk fr flev fl fwin fcode ftable
  by_cases hc : probChk p = 0
  · go_wp2_with ((with_reducible apply ld); rfl; (with_reducible assumption); (simp only [List.set_cons_zero, List.set_cons_succ]; rfl))
    refine (tree_New p a cap hp hc _ hw0).mono ?_
    rintro e w1 ⟨⟨tb, pb, rb, g, c, rfl, hT, _⟩, B1⟩
    clear fall
    have b31 := b3.kept B1
    have hw1 := hw0.kept B1
    obtain ⟨fk, fr, flev, fl, fwin, fcode, ftable, fall⟩ := b31.prob hp
    clear fk fr flev fl fwin fcode ftable
    go_wp2_with ((with_reducible apply ld); rfl; (with_reducible assumption); (simp only [List.set_cons_zero, List.set_cons_succ]; rfl))
    refine (doc_New p a cap hp hc _ hw1).mono ?_
    rintro e w2 ⟨⟨tb2, g2, c2, rfl, hD, _⟩, B2⟩
    have hT2 := hT.kept B2
    clear fall
    go_wp2_with (fail)
    refine (law15_num 0 _).mono ?_
    rintro e w3 ⟨rfl, B3⟩
    go_wp2_with (fail)
    refine (tree_Count p hp hc dip most _ (hT2.kept B3)).mono ?_
    rintro e w4 ⟨rfl, B4⟩
    go_wp2_with (fail)
    refine (doc_Count p hp hc dip most _ ((hD.kept B3).kept B4)).mono ?_
    rintro e w5 ⟨rfl, B5⟩
    go_wp2_with (fail)
    refine (law15_knows _).mono ?_
    rintro e w6 ⟨rfl, B6⟩
    go_wp2
    go_ret
    exact ⟨rfl, bOn (bOn (bOn (bOn (bOn (bOn B0 B1) B2) B3) B4) B5) B6⟩
  · go_wp2_with ((with_reducible apply ld); rfl; (with_reducible assumption); (simp only [List.set_cons_zero, List.set_cons_succ]; rfl))
    refine (tree_New_bad p a cap hp hc _ hw0).mono ?_
    rintro e w1 ⟨rfl, B1⟩
    clear fall
    have b31 := b3.kept B1
    have hw1 := hw0.kept B1
    obtain ⟨fk, fr, flev, fl, fwin, fcode, ftable, fall⟩ := b31.prob hp
    clear fk fr flev fl fwin fcode ftable
    go_wp2_with ((with_reducible apply ld); rfl; (with_reducible assumption); (simp only [List.set_cons_zero, List.set_cons_succ]; rfl))
    refine (doc_New_bad p a cap hp hc _ hw1).mono ?_
    rintro e w2 ⟨rfl, B2⟩
    clear fall
    go_wp2_with (fail)
    refine (law15_num _ _).mono ?_
    rintro e w3 ⟨rfl, B3⟩
    go_wp2_with (fail)
    refine (noTree_Count _ ⟨fun _ h => (by cases h), fun _ h => (by cases h)⟩ dip most _ (.inl rfl)).mono ?_
    rintro e w4 ⟨rfl, B4⟩
    go_wp2_with (fail)
    refine (doc_Count_nil dip most _).mono ?_
    rintro e w5 ⟨rfl, B5⟩
    go_wp2_with (fail)
    refine (law15_knows _).mono ?_
    rintro e w6 ⟨rfl, B6⟩
    go_wp2
    go_ret
    exact ⟨rfl, bOn (bOn (bOn (bOn (bOn (bOn B0 B1) B2) B3) B4) B5) B6⟩
end Go.Proofs.Ytiiljecocajdpaa
