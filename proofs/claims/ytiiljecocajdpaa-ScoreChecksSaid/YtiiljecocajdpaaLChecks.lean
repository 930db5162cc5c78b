/- The walk of the statement on every Check and Steps. -/
import Derived.Test.YtiiljecocajdpaaDip2
import Derived.Test.YtiiljecocajdpaaScoreB
import Derived.Test.YtiiljecocajdpaaLaw01
import Derived.Test.YtiiljecocajdpaaQuietG
namespace Go.Proofs.Ytiiljecocajdpaa
open Go.RowKit

set_option maxRecDepth 5000 in
set_option maxHeartbeats 2000000 in
theorem law11_ScoreChecks (p : Pb) (a : Option Addr) (cap : Nat) (hp : p.Ok) (hB : p.B.length ≤ 140737488351232) (w : World) (hw : Bytes w a p.B) :
    Pure Try.prog 5 #[.agg (p.cells (.slice a p.B.length cap))] w (.bool true) := by
  go_enter Try.func5, Try.ntmps5
  go_upto_region 1 with (fail)
  refine name1 ?_
  intro w0 b2 B0
  have hw0 := hw.kept B0
  obtain ⟨fk, fr, flev, fl, fwin, fcode, ftable, fall⟩ := b2.prob hp
  clear fk fr flev fl fwin fcode ftable
  go_wp2_with ((with_reducible apply ld); rfl; (with_reducible assumption); (simp only [List.set_cons_zero, List.set_cons_succ]; rfl))
  refine (law01_Problem p a cap hp hB _ hw0).mono ?_
  rintro e w1 ⟨v, rfl, hv, B1⟩
  obtain ⟨g, c, rfl, hc, hgb, hgB, _⟩ := hv.open hp.b
  have hb5 := Box.new w1 zero32 32
  have hf := hp.flat (v := .slice (some ⟨g, 0, none⟩) p.B.length c) ⟨fun _ h => (by cases h), fun _ h => (by cases h)⟩
  have hs40 := hp.size (.slice (some ⟨g, 0, none⟩) p.B.length c)
  clear fall
  go_upto_region 2 with (first | ((with_reducible apply stO); rfl; rfl; exact hb5; rfl; exact hs40; exact hf; intro w2 b5 B2 ho2 hs2))
  have B21 : Below w1.heap.size w1 w2 := ((Below.refl _ w1).alloc (Nat.le_refl _) _).trans B2
  have B20 := bOn B1 B21
  have hv2 := hv.below B21 (Nat.le_refl _)
  have hg2 := hgb.kept B21
  clear ho2 hs2 hb5 B2 hgb hf hs40
  obtain ⟨fk, fr, flev, fl, fwin, fcode, ftable, fall⟩ := b5.prob hp
  clear fk fr flev fl fwin fcode ftable
  go_wp2_with ((with_reducible apply ld); rfl; (with_reducible assumption); (simp only [List.set_cons_zero, List.set_cons_succ]; rfl))
  refine (score_Steps p (some ⟨g, 0, none⟩) c hp _ hg2).mono ?_
  rintro e w3 ⟨rfl, B3⟩
  have B30 := bOn B20 B3
  clear fall
  obtain ⟨fk, fr, flev, fl, fwin, fcode, ftable, fall⟩ := (b2.kept B30).prob hp
  clear fk fr flev fl fwin fcode ftable
  go_wp2_with ((with_reducible apply ld); rfl; (with_reducible assumption); (simp only [List.set_cons_zero, List.set_cons_succ]; rfl))
  refine (ref11_Steps p a cap hp _ (hw0.kept B30)).mono ?_
  rintro e w4 ⟨rfl, B4⟩
  have B40 := bOn B30 B4
  clear fall
  go_upto_region 4 with (fail)
  have x5 := ((b5.kept B3).kept B4)
  have y2 := b2.kept B40
  obtain ⟨fk, fr, flev, fl, fwin, fcode, ftable, fall⟩ := x5.prob hp
  clear fk fr flev fl fcode ftable
  obtain ⟨gk, gr, glev, gl, gwin, gcode, gtable, gall⟩ := y2.prob hp
  clear gk gr glev gl gcode gtable
  have hg4 := (hg2.kept B3).kept B4
  have hv4 := (hv2.below B3 (Nat.le_refl _)).below B4 (Nat.le_refl _)
  have hw4 := hw0.kept B40
  (refine wp_region_kept_tail 27 (by kernel_rfl) (by kernel_rfl) ?_; simp only [List.take_succ_cons, List.take_zero, List.drop_succ_cons, List.drop_zero])
  have q1 := KeptW.cell fwin
  have q2 := KeptW.cell gwin
  clear fwin gwin
  repeat first
    | go_big_quiet_skip
    | ((with_reducible apply q_ldG); rfl; rfl; (with_reducible assumption); (simp only [List.set_cons_zero, List.set_cons_succ]; rfl))
    | go_big_quiet_step (first | exact Calls.kept (score_Check p (some ⟨g, 0, none⟩) c hp _ (hg4.kept (Subtype.property _))) | exact Calls.kept (ref11_Check p a cap hp _ (hw4.kept (Subtype.property _))) | exact Calls.kept (law11_num _ _) | exact Calls.kept (law01_Stays a p.B cap hB _ _ _ (hw4.kept (Subtype.property _)) (hv4.below (Subtype.property _) (Nat.le_refl _))) | exact Calls.kept (law11_knows _))
  refine wpQuiet_nil ?_
  intro w9 B9
  go_wp2
  go_ret
  exact ⟨rfl, bOn (bOn B0 B40) B9⟩
end Go.Proofs.Ytiiljecocajdpaa
