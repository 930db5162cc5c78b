/- The walk of the statement on every Prefixes, Dip, Total, Both and Errors. -/
import Derived.Test.YtiiljecocajdpaaRErrs2
import Derived.Test.YtiiljecocajdpaaRBoth
import Derived.Test.YtiiljecocajdpaaSameI
import Derived.Test.YtiiljecocajdpaaLaw01
import Derived.Test.YtiiljecocajdpaaQuietG
namespace Go.Proofs.Ytiiljecocajdpaa
open Go.RowKit

/-- The prefix metrics of any path: none, where it is none. -/
def Pb.pmG (p : Pb) (bs : List Nat) : List Int := if p.pathChk bs != 0 then [] else p.pm bs
theorem Pb.pmG_len (p : Pb) (bs : List Nat) : ((p.pmG bs).length : Int) ≤ 2000 := by
  unfold Pb.pmG
  split
  · simp
  · rename_i h
    have hc : p.pathChk bs = 0 := by simpa using h
    have := Pb.N_le (Pb.pathChk_ok hc).1
    rw [p.pm_len]
    omega
def PrefG (p : Pb) (bs : List Nat) (w : World) (e : Ending) (w' : World) : Prop := (∃ al cl, e = .returned (.tuple #[.slice al (p.pmG bs).length cl, .int .i64 (p.pathChk bs)]) ∧ Ints w' al (p.pmG bs)) ∧ Below w.heap.size w w'
theorem IntsAt.ints' {w : World} {g : Nat} {l : List Int} (h : IntsAt w g l) : Ints w (some ⟨g, 0, none⟩) l := fun k x hk => ⟨g, 0, rfl, by rw [Nat.zero_add]; exact h.2 k x hk⟩
theorem prefG_bad {p : Pb} {bs : List Nat} (hc : p.pathChk bs ≠ 0) {w w' : World} {e : Ending} (h : e = .returned (.tuple #[.slice none 0 0, .int .i64 (p.pathChk bs)]) ∧ Below w.heap.size w w') : PrefG p bs w e w' := by
  have hg : p.pmG bs = [] := if_pos (by simpa using hc)
  unfold PrefG
  rw [hg]
  exact ⟨⟨none, 0, h.1, Ints.nil _ _⟩, h.2⟩
theorem prefG_ok {p : Pb} {bs : List Nat} (hc : p.pathChk bs = 0) {w w' : World} {e : Ending} (h : (∃ v, e = .returned (.tuple #[v, .int .i64 0]) ∧ Row64 w' w.heap.size v (p.pm bs)) ∧ Below w.heap.size w w') : PrefG p bs w e w' := by
  have hg : p.pmG bs = p.pm bs := if_neg (by simp [hc])
  obtain ⟨⟨v, rfl, hR⟩, hB⟩ := h
  obtain ⟨g, c, rfl, _, hI⟩ := hR.form (by rw [p.pm_len]; omega)
  unfold PrefG
  rw [hg, hc]
  exact ⟨⟨_, c, rfl, hI.ints'⟩, hB⟩
theorem score_PrefixesG (p : Pb) (a : Option Addr) (cap : Nat) (hp : p.Ok) (hcap : p.B.length ≤ cap) (bs : List Nat) (ab : Option Addr) (cb : Nat) (hbl : (bs.length : Int) ≤ 9223372036854775807) (w : World) (hw : Bytes w a p.B) (hby : Bytes w ab bs) :
    Calls Try.prog 45 #[.agg (p.cells (.slice a p.B.length cap)), .slice ab bs.length cb] w (PrefG p bs w) := by
  by_cases hc : p.pathChk bs = 0
  · obtain ⟨g, o, rfl, _⟩ := hw.cell 0 (prob_slice (Pb.pathChk_ok hc).1)
    exact (score_Prefixes p g o cap hp hcap bs ab cb hbl hc w hw hby).mono fun _ _ h => prefG_ok hc h
  · exact (score_Prefixes_bad p a cap hp bs ab cb hbl hc w hw hby).mono fun _ _ h => prefG_bad hc h
theorem ref11_PrefixesG (p : Pb) (a : Option Addr) (cap : Nat) (hp : p.Ok) (bs : List Nat) (ab : Option Addr) (cb : Nat) (hbl : (bs.length : Int) ≤ 9223372036854775807) (w : World) (hw : Bytes w a p.B) (hby : Bytes w ab bs) :
    Calls Try.prog 81 #[.agg (p.cells (.slice a p.B.length cap)), .slice ab bs.length cb] w (PrefG p bs w) := by
  by_cases hc : p.pathChk bs = 0
  · exact (ref11_Prefixes p a cap hp bs ab cb hbl hc w hw hby).mono fun _ _ h => prefG_ok hc h
  · exact (ref11_Prefixes_bad p a cap hp bs ab cb hbl hc w hw hby).mono fun _ _ h => prefG_bad hc h
set_option maxRecDepth 5000 in
set_option maxHeartbeats 2000000 in
theorem law11_paths (p : Pb) (a : Option Addr) (cap : Nat) (hp : p.Ok) (hB : p.B.length ≤ 140737488351232) (bs : List Nat) (ab : Option Addr) (cb : Nat) (hbs : bs.length ≤ 140737488351232) (w : World) (hw : Bytes w a p.B) (hby : Bytes w ab bs) :
    Pure Try.prog 51 #[.agg (p.cells (.slice a p.B.length cap)), .slice ab bs.length cb] w (.bool true) := by
  have hbl : (bs.length : Int) ≤ 9223372036854775807 := by omega
  go_enter Try.func51, Try.ntmps51
  go_upto_region 1 with (fail)
  refine name1 ?_
  intro w0 b2 B0
  have hw0 := hw.kept B0
  have hy0 := hby.kept B0
  obtain ⟨fk, fr, flev, fl, fwin, fcode, ftable, fall⟩ := b2.prob hp
  clear fk fr flev fl fwin fcode ftable
  go_wp2_with ((with_reducible apply ld); rfl; (with_reducible assumption); (simp only [List.set_cons_zero, List.set_cons_succ]; rfl))
  refine (law01_Problem p a cap hp hB _ hw0).mono ?_
  rintro e w1 ⟨v, rfl, hv, B1⟩
  obtain ⟨g, c, rfl, hc, hgb, hgB, _⟩ := hv.open hp.b
  have hb5 := Box.new w1 zero32 32
  have hf := hp.flat (v := .slice (some ⟨g, 0, none⟩) p.B.length c) ⟨fun _ h => (by cases h), fun _ h => (by cases h)⟩
  have hs40 := hp.size (.slice (some ⟨g, 0, none⟩) p.B.length c)
  clear fall
  go_upto_region 2 with (first | ((with_reducible apply stO); rfl; rfl; exact hb5; rfl; exact hs40; exact hf; intro w2 b5 B2 ho2 hs2))
  have B21 : Below w1.heap.size w1 w2 := ((Below.refl _ w1).alloc (Nat.le_refl _) _).trans B2
  have B20 := bOn B1 B21
  have hv2 := hv.below B21 (Nat.le_refl _)
  have hg2 := hgb.kept B21
  clear ho2 hs2 hb5 B2 hgb hf hs40
  go_wp2_with fail
  refine (law01_Lent ab bs cb hbs _ (hy0.kept B20)).mono ?_
  rintro e w3 ⟨vl, rfl, hl, B3⟩
  obtain ⟨gl, cl, rfl, hcl, hyl, hlB, _⟩ := hl.open hby.lt
  have B30 := bOn B20 B3
  have hg3 := hg2.kept B3
  have hv3 := hv2.below B3 (Nat.le_refl _)
  have b53 := b5.kept B3
  have b23 := b2.kept B30
  have hw3 := hw0.kept B30
  have hy3 := hy0.kept B30
  have hcc : p.B.length ≤ c := by omega
  clear hg2 hv2 hv hc hcl hlB hgB b5
  have hpmG := p.pmG_len bs
  obtain ⟨fk, fr, flev, fl, fwin, fcode, ftable, fall⟩ := b53.prob hp
  clear fk fr flev fl fwin fcode ftable
  go_wp2_with ((with_reducible apply ld); rfl; (with_reducible assumption); (simp only [List.set_cons_zero, List.set_cons_succ]; rfl))
  refine (score_PrefixesG p (some ⟨g, 0, none⟩) c hp hcc bs (some ⟨gl, 0, none⟩) cl hbl _ hg3 hyl).mono ?_
  rintro e w4 ⟨⟨a1, c1, rfl, I1⟩, B4⟩
  clear fall
  have hg4 := hg3.kept B4
  have hy4 := hyl.kept B4
  have b54 := b53.kept B4
  obtain ⟨fk, fr, flev, fl, fwin, fcode, ftable, fall⟩ := b54.prob hp
  clear fk fr flev fl fwin fcode ftable
  go_wp2_with ((with_reducible apply ld); rfl; (with_reducible assumption); (simp only [List.set_cons_zero, List.set_cons_succ]; rfl))
  refine (score_Dip p (some ⟨g, 0, none⟩) c hp hcc bs (some ⟨gl, 0, none⟩) cl hbl _ hg4 hy4).mono ?_
  rintro e w5 ⟨rfl, B5⟩
  clear fall
  have hg5 := hg4.kept B5
  have hy5 := hy4.kept B5
  have b55 := b54.kept B5
  obtain ⟨fk, fr, flev, fl, fwin, fcode, ftable, fall⟩ := b55.prob hp
  clear fk fr flev fl fwin fcode ftable
  go_wp2_with ((with_reducible apply ld); rfl; (with_reducible assumption); (simp only [List.set_cons_zero, List.set_cons_succ]; rfl))
  refine (score_Total p (some ⟨g, 0, none⟩) c hp hcc bs (some ⟨gl, 0, none⟩) cl hbl _ hg5 hy5).mono ?_
  rintro e w6 ⟨rfl, B6⟩
  clear fall
  have hg6 := hg5.kept B6
  have hy6 := hy5.kept B6
  have b56 := b55.kept B6
  obtain ⟨fk, fr, flev, fl, fwin, fcode, ftable, fall⟩ := b56.prob hp
  clear fk fr flev fl fwin fcode ftable
  go_wp2_with ((with_reducible apply ld); rfl; (with_reducible assumption); (simp only [List.set_cons_zero, List.set_cons_succ]; rfl))
  refine (score_BothG p (some ⟨g, 0, none⟩) c hp hcc bs (some ⟨gl, 0, none⟩) cl hbl _ hg6 hy6).mono ?_
  rintro e w7 ⟨rfl, B7⟩
  clear fall
  have hg7 := hg6.kept B7
  have hy7 := hy6.kept B7
  have b57 := b56.kept B7
  obtain ⟨fk, fr, flev, fl, fwin, fcode, ftable, fall⟩ := b57.prob hp
  clear fk fr flev fl fwin fcode ftable
  go_wp2_with ((with_reducible apply ld); rfl; (with_reducible assumption); (simp only [List.set_cons_zero, List.set_cons_succ]; rfl))
  refine (score_Errors p (some ⟨g, 0, none⟩) c hp hcc bs (some ⟨gl, 0, none⟩) cl hbl _ hg7 hy7).mono ?_
  rintro e w8 ⟨rfl, B8⟩
  clear fall
  have B83 := bOn (bOn (bOn (bOn B4 B5) B6) B7) B8
  have b58 := b53.kept B83
  have b28 := b23.kept B83
  have hw8 := hw3.kept B83
  have hy8 := hy3.kept B83
  have hv8 := hv3.below B83 (Nat.le_refl _)
  have hl8 := hl.below B83 (Nat.le_refl _)
  have I18 := (((I1.kept B5).kept B6).kept B7).kept B8
  clear hg4 hg5 hg6 hg7 hy4 hy5 hy6 hy7 b54 b55 b56 b57 I1 hg3 hyl b53 hv3 hl
  obtain ⟨fk, fr, flev, fl, fwin, fcode, ftable, fall⟩ := b28.prob hp
  clear fk fr flev fl fwin fcode ftable
  go_wp2_with ((with_reducible apply ld); rfl; (with_reducible assumption); (simp only [List.set_cons_zero, List.set_cons_succ]; rfl))
  refine (ref11_PrefixesG p a cap hp bs ab cb hbl _ hw8 hy8).mono ?_
  rintro e w9 ⟨⟨a2, c2, rfl, I2⟩, B9⟩
  clear fall
  have b29 := b28.kept B9
  obtain ⟨fk, fr, flev, fl, fwin, fcode, ftable, fall⟩ := b29.prob hp
  clear fk fr flev fl fwin fcode ftable
  go_wp2_with ((with_reducible apply ld); rfl; (with_reducible assumption); (simp only [List.set_cons_zero, List.set_cons_succ]; rfl))
  refine (ref11_Both p a cap hp bs ab cb hbl _ (hw8.kept B9) (hy8.kept B9)).mono ?_
  rintro e w10 ⟨rfl, B10⟩
  clear fall
  have b210 := b29.kept B10
  obtain ⟨fk, fr, flev, fl, fwin, fcode, ftable, fall⟩ := b210.prob hp
  clear fk fr flev fl fwin fcode ftable
  go_wp2_with ((with_reducible apply ld); rfl; (with_reducible assumption); (simp only [List.set_cons_zero, List.set_cons_succ]; rfl))
  refine (ref11_Errors p a cap hp bs ab cb hbl _ ((hw8.kept B9).kept B10) ((hy8.kept B9).kept B10)).mono ?_
  rintro e w11 ⟨rfl, B11⟩
  clear fall
  have B118 := bOn (bOn B9 B10) B11
  have b511 := b58.kept B118
  have b211 := b28.kept B118
  have hw11 := hw8.kept B118
  have hy11 := hy8.kept B118
  have hv11 := hv8.below B118 (Nat.le_refl _)
  have hl11 := hl8.below B118 (Nat.le_refl _)
  have I111 := I18.kept B118
  have I211 := (I2.kept B10).kept B11
  have B110 := bOn (bOn (bOn B0 B30) B83) B118
  clear hw8 hy8 hv8 hl8 I18 I2 b58 b28 b29 b210 hw3 hy3 hw0 hy0 b2 b23
  obtain ⟨P, hP⟩ : ∃ P, P = p.pathChk bs := ⟨_, rfl⟩
  obtain ⟨D, hD⟩ : ∃ D, D = p.dip bs := ⟨_, rfl⟩
  obtain ⟨T, hT⟩ : ∃ T, T = p.tot bs := ⟨_, rfl⟩
  obtain ⟨E, hE⟩ : ∃ E, E = p.errors bs := ⟨_, rfl⟩
  obtain ⟨L, hL⟩ : ∃ L, L = p.pmG bs := ⟨_, rfl⟩
  rw [← hL] at I111 I211 hpmG
  rw [← hP, ← hD, ← hT, ← hE, ← hL]
  have hnn : ∀ x : Int, (x != x) = false := fun x => by simp
  clear hP hD hT hE hL
  go_wp2_with fail
  refine (law11_num P _).mono ?_
  rintro e w12 ⟨rfl, B12⟩
  go_wp2_with fail
  refine (law11_num P _).mono ?_
  rintro e w13 ⟨rfl, B13⟩
  go_wp2_with fail
  refine (law11_num P _).mono ?_
  rintro e w14 ⟨rfl, B14⟩
  go_wp2_with fail
  refine (law11_num P _).mono ?_
  rintro e w15 ⟨rfl, B15⟩
  go_wp2_with fail
  refine (law11_num P _).mono ?_
  rintro e w16 ⟨rfl, B16⟩
  have B1611 := bOn (bOn (bOn (bOn B12 B13) B14) B15) B16
  go_wp2_with fail
  refine (law01_SameInts a1 a2 L L c1 c2 (by omega) _ (I111.kept B1611) (I211.kept B1611)).mono ?_
  rintro e w17 ⟨rfl, B17⟩
  rw [beq_self_eq_true]
  have B1711 := bOn B1611 B17
  obtain ⟨fk, fr, flev, fl, fwin, fcode, ftable, fall⟩ := (b511.kept B1711).prob hp
  clear fk fr flev fl fcode ftable fall
  obtain ⟨gk, gr, glev, gl', gwin, gcode, gtable, gall⟩ := (b211.kept B1711).prob hp
  clear gk gr glev gl' gcode gtable gall
  go_wp2_with fail
  refine (law01_Stays a p.B cap hB _ _ _ (hw11.kept B1711) (hv11.below B1711 (Nat.le_refl _))).mono ?_
  rintro e w18 ⟨rfl, B18⟩
  have B1811 := bOn B1711 B18
  clear fwin gwin
  go_wp2_with fail
  refine (law01_Stays ab bs cb hbs _ _ _ (hy11.kept B1811) (hl11.below B1811 (Nat.le_refl _))).mono ?_
  rintro e w19 ⟨rfl, B19⟩
  go_wp2
  go_ret
  exact ⟨rfl, bOn B110 (bOn B1811 B19)⟩
section
variable {P : Program} {ops : Array Oper} {md : Region.Mode} {w0 : World}
theorem headKn_one {n : Nat} {L : Array Bool → Act → (World → Prop) → Prop} {done : Array Bool} {a : Act} {S : World → Prop} (i : Nat) (e0 : Region.ready md ops done = [i]) (hi : i < n) (h : knOp P ops w0 i (L (done.setIfInBounds i true)) a S) : headKn P md ops w0 n L 1 done a S := by
  refine ⟨by rw [e0]; simp, fun j hj => ?_⟩
  rw [e0] at hj
  obtain rfl := List.mem_singleton.1 hj
  exact ⟨hi, h⟩
/-- a call whose answer lies in new memory; a stable fact R of it is told on -/
theorem kn_call {i : Nat} {S : World → Prop} {K : Act → (World → Prop) → Prop} {l : List Value} {ds : List Deferred} {x : Operand} {xs : List Operand} {ts : Array TypeId} {d : Nat} {f : FuncId} {cap args : List Value} {ty : TypeId} {ps : String} {af : Array Edge} {gd : Option (Nat × Bool)} (R : Value → World → Prop)
    (hi : ops[i]? = some ⟨some d, .call { callee := .value x, args := xs.toArray, argTypes := ts }, ty, ps, af, gd⟩) (hw : Region.wanted ⟨some d, .call { callee := .value x, args := xs.toArray, argTypes := ts }, ty, ps, af, gd⟩ (yielded ops l.toArray) = true)
    (hx : (Act.mk l.toArray ds).eval x = .func (.func f) #[] cap.toArray) (E : EnterF P f) (ha : xs.map (Act.mk l.toArray ds).eval ++ cap = args) (hst : ∀ v, Stable (R v))
    (hc : ∀ w, Ext w0 w → S w → Calls P f args.toArray w (fun e w' => (∃ v, e = .returned v ∧ R v w') ∧ Ext w w'))
    (hn : ∀ v, (∃ w, R v w) → K ⟨(l.set d v).toArray, ds⟩ (fun w => S w ∧ R v w)) : knOp P ops w0 i K ⟨l.toArray, ds⟩ S := by
  unfold knOp
  rw [hi]
  simp only
  rw [if_pos hw]
  refine ⟨R, ⟨hst, fun w hw hs => ?_⟩, fun v hv => by rw [put_list]; exact hn v hv⟩
  have hr : (execOp (Act.mk l.toArray ds).eval ⟨some d, .call { callee := .value x, args := xs.toArray, argTypes := ts }, ty, ps, af, gd⟩).run P w = .ok (.enter f args.toArray) w := by
    have hE := E.out args.toArray w
    rw [← ha] at hE ⊢
    unfold execOp
    simp only [resolve, hx, Deferred.ofValue, Sem.run_bind, Sem.run_pure, Result.andThen_ok, invoke]
    simpa using hE
  rw [hr]
  exact ⟨rfl, Below.refl _ _, hc w hw hs⟩
/-- an operation of a fixed value, whatever its guard, in the first phase -/
theorem det_fixed {o : Oper} {rest : List Oper} {l l' : List Value} {ds : List Deferred} {K : Act → Prop} {v : Value} {d : Nat} (hw : Region.wanted o (yielded ops l.toArray) = true) (hd : o.dst = some d)
    (hr : ∀ w, (execOp (Act.mk l.toArray ds).eval o).run P w = .ok (.value v) w) (hs : l.set d v = l') (hn : wpDet P ops w0 K rest ⟨l'.toArray, ds⟩) : wpDet P ops w0 K (o :: rest) ⟨l.toArray, ds⟩ := by
  unfold wpDet
  rw [if_pos hw]
  refine ⟨v, fun w _ => ?_, by rw [hd, put_list, hs]; exact hn⟩
  rw [hr]
  exact ⟨rfl, rfl⟩
end
theorem lp_min {L : Int} {x : Int} (h : x = if (1024 : Int) < L then 1024 else L) : x ≤ 1048576 ∧ x ≤ 1024 := by
  rw [h]; split <;> omega
set_option maxRecDepth 5000 in
set_option maxHeartbeats 2000000 in
theorem law11_ScorePaths (p : Pb) (a : Option Addr) (cap : Nat) (hp : p.Ok) (hB : p.B.length ≤ 140737488351232) (bs : List Nat) (ab : Option Addr) (cb : Nat) (hbs : bs.length ≤ 140737488351232) (w : World) (hw : Bytes w a p.B) (hby : Bytes w ab bs) :
    Pure Try.prog 14 #[.agg (p.cells (.slice a p.B.length cap)), .slice ab bs.length cb] w (.bool true) := by
  have hbl : (bs.length : Int) ≤ 9223372036854775807 := by omega
  go_enter Try.func14, Try.ntmps14
  go_upto_region 1 with (fail)
  refine name1 ?_
  intro w0 b2 B0
  have hw0 := hw.kept B0
  have hy0 := hby.kept B0
  obtain ⟨fk, fr, flev, fl, fwin, fcode, ftable, fall⟩ := b2.prob hp
  clear fk fr flev fwin fcode ftable
  have q1 := KeptW.cell fl
  clear fl
  obtain ⟨m, hm⟩ : ∃ m : Int, m = if (1024 : Int) < p.L then 1024 else p.L := ⟨_, rfl⟩
  obtain ⟨hm1, hm2⟩ := lp_min hm
  have lA := bitsOf_len bs m.toNat
  have tA : ∀ y ∈ bitsOf bs m.toNat, y < 2 := bitsOf_lt
  have hA2 : (bitsOf bs m.toNat).length ≤ 140737488351232 := by rw [lA]; omega
  refine wp_region_known 9 1 (by kernel_rfl) (by kernel_rfl) ?_
  simp only [List.take_succ_cons, List.take_zero, List.drop_succ_cons, List.drop_zero]
  repeat first
    | ((refine det_plain rfl ?_); ((with_reducible apply q_ld); rfl; (with_reducible assumption); (simp only [List.set_cons_zero, List.set_cons_succ]; rfl)); (refine wpQuiet_nil ?_))
    | ((with_reducible apply det_call); rfl; infer_instance; rfl; (intro w1 B1; exact law11_paths p a cap hp hB bs ab cb hbs _ (hw0.kept B1) (hy0.kept B1)); (simp only [List.set_cons_zero, List.set_cons_succ]; rfl))
    | (refine det_fixed (d := 13) (v := .int .i64 (if (1024 : Int) < p.L then 1024 else p.L)) rfl rfl (by intro w1; go_simp) (by simp only [List.set_cons_zero, List.set_cons_succ]; rfl) ?_)
    | ((refine det_plain rfl ?_); ((with_reducible apply q_ldG); rfl; rfl; (with_reducible assumption); (simp only [List.set_cons_zero, List.set_cons_succ]; rfl)); (refine wpQuiet_nil ?_))
    | ((refine det_plain rfl ?_); (go_big_quiet_step (fail)); (refine wpQuiet_nil ?_))
  refine wpDet_nil ?_
  rw [← hm]
  clear q1 hm fall
  refine headKn_one 9 (by kernel_rfl) (by decide) ?_
  refine kn_call (fun v w => ∃ g, v = .slice (some ⟨g, 0, none⟩) m.toNat m.toNat ∧ Bytes w (some ⟨g, 0, none⟩) (bitsOf bs m.toNat)) rfl rfl rfl inferInstance rfl ?_ ?_ ?_
  · exact fun v x y hx ⟨g, h1, h2⟩ => ⟨g, h1, h2.kept hx⟩
  · intro w1 B1 _
    refine (law11_Bits bs ab cb m hm1 hbl _ (hy0.kept B1)).mono ?_
    rintro e w2 ⟨rfl, ba, B2⟩
    exact ⟨⟨_, rfl, _, rfl, ba.bytes (fun y hy => by have := tA y hy; omega)⟩, B2⟩
  · rintro v ⟨_, g, rfl, _⟩
    refine ⟨by kernel_rfl, ?_⟩
    rintro w1 B1 ⟨_, g', hg', yA⟩
    obtain rfl : g = g' := by simpa using hg'
    have hw1 := hw0.kept B1
    obtain ⟨A, hA⟩ : ∃ A, A = bitsOf bs m.toNat := ⟨_, rfl⟩
    rw [← hA] at yA lA hA2
    have cP := law11_paths p a cap hp hB A (some ⟨g, 0, none⟩) m.toNat hA2 w1 hw1 yA
    rw [lA] at cP
    simp only [List.set_cons_zero, List.set_cons_succ]
    clear lA tA hA hA2 hm1 hm2 hg'
    go_wp2_with fail
    refine cP.mono ?_
    rintro e w3 ⟨rfl, B3⟩
    clear cP
    go_wp2_with fail
    refine (law11_knows _).mono ?_
    rintro e w4 ⟨rfl, B4⟩
    go_wp2
    go_ret
    exact ⟨rfl, bOn (bOn (bOn B0 B1) B3) B4⟩
end Go.Proofs.Ytiiljecocajdpaa
