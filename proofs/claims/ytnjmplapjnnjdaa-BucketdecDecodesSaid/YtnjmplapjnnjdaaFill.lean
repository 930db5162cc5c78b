import Derived.Test.YtnjmplapjnnjdaaPref2
import Derived.Test.YtnjmplapjnnjdaaKnow
import Derived.Test.YtnjmplapjnnjdaaNoTree
import Derived.Laws.Tables
set_option linter.unusedSimpArgs false
set_option linter.unusedVariables false
set_option linter.unnecessarySimpa false
/- The walks of dip and total: the program's. -/
namespace Go.Proofs.Ytnjmplapjnnjdaa
open Go.RowKit Go.Shelf
attribute [local go_sem] Oper.semAt_some

/-- What the prefixes' iterator stands on. -/
structure PrefIn (w : World) (B : Nat) (p : Pb) (v : Value) (hv : Value) (b1 b2 br bw : Nat) : Prop where
  prob : Box w b1 (p.cells v)
  bits : Box w b2 #[hv]
  rate : Box w br #[.int .i64 p.C.R]
  worth : Box w bw #[.func (.func 94) #[] #[.pointer (some ⟨b1, 0, none⟩), .pointer (some ⟨br, 0, none⟩)]]
  new : B ≤ b1 ∧ B ≤ b2 ∧ B ≤ br ∧ B ≤ bw
theorem score_prefixes (p : Pb) (hp : p.Ok) (v : Value) (ab : Option Addr) (nb cb : Nat) (w : World) :
    Calls Try.prog 69 #[.agg (p.cells v), .slice ab nb cb] w fun e w' => (∃ b1 b2 br bw, e = .returned (.func (.func 95) #[] #[.pointer (some ⟨b1, 0, none⟩), .pointer (some ⟨b2, 0, none⟩), .pointer (some ⟨bw, 0, none⟩)]) ∧ PrefIn w' w.heap.size p v (.slice ab nb cb) b1 b2 br bw) ∧ Below w.heap.size w w' := by
  go_enter Try.func69, Try.ntmps69
  go_upto_region 1 with (fail)
  refine name2 ?_
  intro w0 b2 b3 B0
  obtain ⟨fk, fr, flev, fl, fwin, fcode, ftable, fall⟩ := b2.prob hp
  clear fk flev fl fwin fcode ftable fall
  go_upto_region 2 with (fail)
  refine name1 ?_
  intro w1 b5 B1
  have b21 := b2.kept B1
  have b31 := b3.kept B1
  have hl3 := b3.lt
  have bz := Box.new w1 #[.nilFunc] 161
  have hs := bz.store (P := Try.prog) (i := 0) (v := .func (.func 94) #[] #[.pointer (some ⟨w.heap.size, 0, none⟩), .pointer (some ⟨w0.heap.size, 0, none⟩)]) (by simp) ⟨fun _ h => (by cases h), fun _ h => (by cases h)⟩
  have hl1 := b5.lt
  go_wp2
  go_ret
  have hB1 := B1.size
  have hB0 := B0.size
  refine ⟨⟨w.heap.size, w.heap.size + 1, w0.heap.size, w1.heap.size, rfl, ⟨?_, ?_, ?_, ?_, ⟨Nat.le_refl _, by omega, hB0, by omega⟩⟩⟩, ?_⟩
  · exact b21.alloc _
  · exact b31.alloc _
  · exact b5.alloc _
  · exact Box.new _ _ _
  · exact (bOn B0 B1).alloc (by omega) _

/-- The error of a problem and a path. -/
def Pb.pathChk (p : Pb) (bs : List Nat) : Int := if probChk p != 0 then probChk p else if bs.any (fun x => decide (1 < x)) then 10 else if (bs.length : Int) != p.L then 5 else 0
theorem Pb.pathChk_ok {p : Pb} {bs : List Nat} (h : p.pathChk bs = 0) : probChk p = 0 ∧ p.Path bs := by
  unfold Pb.pathChk at h
  by_cases h1 : probChk p = 0
  · rw [if_neg (by simp [h1])] at h
    cases h2 : bs.any (fun x => decide (1 < x))
    · rw [h2] at h
      by_cases h3 : (bs.length : Int) = p.L
      · refine ⟨h1, h3, fun x hx => ?_⟩
        have := List.any_eq_false.1 h2 x hx
        simp at this
        omega
      · rw [if_neg (by simp), if_pos (by simpa using h3)] at h
        cases h
    · rw [h2] at h; simp at h
  · rw [if_pos (by simpa using h1)] at h
    exact absurd h h1
set_option maxRecDepth 5000 in
theorem score_both (p : Pb) (a : Option Addr) (cap : Nat) (hp : p.Ok) (bs : List Nat) (ab : Option Addr) (cb : Nat) (hbl : (bs.length : Int) ≤ 9223372036854775807) (w : World) (hw : Bytes w a p.B) (hby : Bytes w ab bs) :
    Pure Try.prog 68 #[.agg (p.cells (.slice a p.B.length cap)), .slice ab bs.length cb] w (.int .i64 (p.pathChk bs)) := by
  obtain ⟨r, hr⟩ : ∃ r, r = p.pathChk bs := ⟨_, rfl⟩
  rw [← hr]
  have HR := Lib.hid hr
  clear hr
  go_enter Try.func68, Try.ntmps68
  go_upto_region 1 with (fail)
  refine name1 ?_
  intro w0 b2 B0
  obtain ⟨fk, fr, flev, fl, fwin, fcode, ftable, fall⟩ := b2.prob hp
  clear fk fr flev fl fwin fcode ftable
  by_cases hc : probChk p = 0
  · go_wp2_with ((with_reducible apply ld); rfl; (with_reducible assumption); (simp only [List.set_cons_zero, List.set_cons_succ]; rfl))
    refine (score_Check p a cap hp _ (hw.kept B0)).mono ?_
    rintro e w1 ⟨rfl, B1⟩
    rw [hc]
    clear fall
    have b21 := b2.kept B1
    have hb1 := (hby.kept B0).kept B1
    obtain ⟨fk, fr, flev, fl, fwin, fcode, ftable, fall⟩ := b21.prob hp
    clear fk fr flev fwin fcode ftable fall
    go_wp2_with fail
    go_loop [15] (fun i => ∃ k : Nat, k ≤ bs.length ∧ i = .int .i64 k ∧ Hid ((bs.take k).any (fun x => decide (1 < x)) = false)) (fun i => bs.length - (intOf i).toNat)
    case atStart => exact ⟨0, by omega, rfl, Lib.hid rfl⟩
    case round =>
      obtain ⟨k, hk, rfl, HK⟩ := hrel
      by_cases hkl : k < bs.length
      · obtain ⟨b, o, rfl, hcell⟩ := hb1.cell k hkl
        have hk2 : decide ((k : Int) < bs.length) = true := by simp; omega
        have hk3 : (k : Int) < bs.length := by omega
        have hx0 := hby.lt _ (List.getElem_mem hkl)
        by_cases hx : 1 < bs[k]
        · have hx2 : decide ((1 : Int) < (bs[k] : Nat)) = true := by simp; omega
          have hre : (10 : Int) = r := by
            rw [HR.out]
            unfold Pb.pathChk
            rw [if_neg (by simp [hc]), if_pos (any_get hkl (by simpa using hx))]
          clear HR
          subst hre
          go_wp2
          go_ret
          exact ⟨rfl, bOn B0 B1⟩
        · have hx2 : decide ((1 : Int) < (bs[k] : Nat)) = false := by simp; omega
          have HK2 := any_take_hid (p := fun x => decide (1 < x)) hkl HK.out (by simpa using hx)
          clear hx
          go_wp2
          go_round
          case measure => simp only [intOf]; omega
          case rel => exact ⟨k + 1, by omega, by go_num, HK2⟩
      · obtain rfl : k = bs.length := by omega
        have hany := HK.out
        rw [List.take_length] at hany
        by_cases hlen : (bs.length : Int) = p.L
        · have hl2 : ((bs.length : Int) != p.L) = false := by simp [hlen]
          have hre : (0 : Int) = r := by
            rw [HR.out]
            unfold Pb.pathChk
            rw [if_neg (by simp [hc]), if_neg (by simp [hany]), if_neg (by simp [hlen])]
          have HLEN := Lib.hid hlen
          clear HR hlen hany
          subst hre
          go_wp2
          go_ret
          exact ⟨rfl, bOn B0 B1⟩
        · have hl2 : ((bs.length : Int) != p.L) = true := by simp [hlen]
          have hre : (5 : Int) = r := by
            rw [HR.out]
            unfold Pb.pathChk
            rw [if_neg (by simp [hc]), if_neg (by simp [hany]), if_pos (by simp [hlen])]
          clear HR hlen hany
          subst hre
          go_wp2
          go_ret
          exact ⟨rfl, bOn B0 B1⟩
  · have hz : (probChk p != 0) = true := by simp [hc]
    have hre : probChk p = r := by
      rw [HR.out]
      unfold Pb.pathChk
      rw [if_pos hz]
    clear HR
    subst hre
    go_wp2_with ((with_reducible apply ld); rfl; (with_reducible assumption); (simp only [List.set_cons_zero, List.set_cons_succ]; rfl))
    refine (score_Check p a cap hp _ (hw.kept B0)).mono ?_
    rintro e w1 ⟨rfl, B1⟩
    go_wp2
    go_ret
    exact ⟨rfl, bOn B0 B1⟩
end Go.Proofs.Ytnjmplapjnnjdaa

/- The walks of dip and total: the program's. -/
namespace Go.Proofs.Ytnjmplapjnnjdaa
open Go.RowKit Go.Shelf
attribute [local go_sem] Oper.semAt_some

theorem bodyPostM_ret {n : Nat} {P : Program} {fn : Func} {R : Ending → World → Prop} {tmps : Array Value} {w : World} {v : Value} (hr : (results fn tmps).run P w = .ok v w) (hR : R (.returned v) w) : bodyPostM Fence.wide n P fn R .ret ⟨tmps, []⟩ w := ⟨v, hr, hR⟩
theorem run_loadVar_cell {P : Program} {t : TypeId} (T : CellTy P t) {w : World} {b : Nat} {v : Value} (h : w.cell? ⟨b, 0, none⟩ = some v) : (loadVar t ⟨b, 0, none⟩).run P w = .ok v w := by
  simp [loadVar, Sem.run_bind, run_isCell T, load, Sem.run, h]
theorem results_cells2tmp {P : Program} {fn : Func} {t0 ty0 t1 ty1 t2 b0 b1 : Nat} {tmps : Array Value} {w : World} {v0 v1 v2 : Value} [T0 : CellTy P ty0] [T1 : CellTy P ty1] (h : fn.results = #[.cell t0 ty0, .cell t1 ty1, .tmp t2]) (p0 : tmps.getD t0 undef = .pointer (some ⟨b0, 0, none⟩)) (p1 : tmps.getD t1 undef = .pointer (some ⟨b1, 0, none⟩)) (h2 : tmps.getD t2 undef = v2)
    (x0 : Box w b0 #[v0]) (x1 : Box w b1 #[v1]) : (results fn tmps).run P w = .ok (.tuple #[v0, v1, v2]) w := by
  have l0 := run_loadVar_cell T0 (v := v0) ((x0.cell 0).trans rfl)
  have l1 := run_loadVar_cell T1 (v := v1) ((x1.cell 0).trans rfl)
  simp only [Array.getD_eq_getD_getElem?] at p0 p1 h2
  simp [results, h, p0, p1, h2, asAddr, Sem.run_bind, l0, l1]
/-- The prefix metrics of a path. -/
def Pb.pm (p : Pb) (bs : List Nat) : List Int := p.psums (p.pathL bs)
def dipOf (l : List Int) : Int := l.foldl min 0
theorem dipOf_snoc (l : List Int) (m : Int) : dipOf (l ++ [m]) = min (dipOf l) m := by simp [dipOf]
def lastOf (l : List Int) : Int := l.getLastD 0
theorem lastOf_snoc (l : List Int) (m : Int) : lastOf (l ++ [m]) = m := by simp [lastOf]
set_option maxRecDepth 5000 in
set_option maxHeartbeats 1000000 in
theorem score_Both (p : Pb) (g o cap : Nat) (hp : p.Ok) (hcap : p.B.length ≤ cap) (bs : List Nat) (ab : Option Addr) (cb : Nat) (hbl : (bs.length : Int) ≤ 9223372036854775807) (hc : p.pathChk bs = 0) (w : World) (hw : Bytes w (some ⟨g, o, none⟩) p.B) (hby : Bytes w ab bs) :
    Pure Try.prog 32 #[.agg (p.cells (.slice (some ⟨g, o, none⟩) p.B.length cap)), .slice ab bs.length cb] w (.tuple #[.int .i64 (dipOf (p.pm bs)), .int .i64 (lastOf (p.pm bs)), .int .i64 0]) := by
  obtain ⟨hch, hpath⟩ := Pb.pathChk_ok hc
  refine (callsIn_wide (n := 3)).1 (callsIn_of_wp_marks Try.func32 rfl trivial ?_ rfl)
  simp only [Try.ntmps32, List.size_toArray, List.length_cons, List.length_nil, Nat.reduceAdd, Nat.reduceSub, Array.replicate_succ, Array.replicate_zero, List.push_toArray, List.append_toArray, List.nil_append, List.cons_append]
  refine wpIn_wide.2 ?_
  go_upto_region 1 with (fail)
  refine name3 ?_
  intro w0 b2 b4 b5 B0
  obtain ⟨fk, fr, flev, fl, fwin, fcode, ftable, fall⟩ := b2.prob hp
  clear fk fr flev fl fwin fcode ftable
  go_wp2_with ((with_reducible apply ld); rfl; (with_reducible assumption); (simp only [List.set_cons_zero, List.set_cons_succ]; rfl))
  refine (score_both p (some ⟨g, o, none⟩) cap hp bs ab cb hbl _ (hw.kept B0) (hby.kept B0)).mono ?_
  rintro e w1 ⟨rfl, B1⟩
  rw [hc]
  clear fall
  obtain ⟨fk, fr, flev, fl, fwin, fcode, ftable, fall⟩ := (b2.kept B1).prob hp
  clear fk fr flev fl fwin fcode ftable
  go_wp2_with ((with_reducible apply ld); rfl; (with_reducible assumption); (simp only [List.set_cons_zero, List.set_cons_succ]; rfl))
  refine (score_prefixes p hp _ ab bs.length cb w1).mono ?_
  rintro e w2 ⟨⟨q1, q2, qr, qw, rfl, hP⟩, B2⟩
  clear fall
  go_wp2_with fail
  have hs0 := b5.lt
  have hs1 := B1.size
  have hs2 := B2.size
  have hsw := B0.size
  obtain ⟨Rd, hRd⟩ : ∃ Rd : Nat → Prop, Rd = fun k => k < w.heap.size ∨ (w1.heap.size ≤ k ∧ k < w2.heap.size) := ⟨_, rfl⟩
  have Rold : ∀ k, k < w.heap.size → Rd k := fun k h => by rw [hRd]; exact .inl h
  have Rnew : ∀ k, w1.heap.size ≤ k → k < w2.heap.size → Rd k := fun k h h' => by rw [hRd]; exact .inr ⟨h, h'⟩
  have R3 : ∀ k, Rd k → k < w2.heap.size ∧ k ≠ w.heap.size + 1 ∧ k ≠ w.heap.size + 2 := fun k h => by
    rw [hRd] at h
    rcases h with h | h
    · omega
    · omega
  have hgl : g < w.heap.size := by
    obtain ⟨⟨k1, k2⟩, l1, l2, cr, hwin, _⟩ := probChk_ok hch
    have hne : 0 < p.B.length := by
      have h1 : 3 ≤ p.N := by unfold Pb.N; omega
      rcases cr with h | h <;> rw [h] at hwin <;> omega
    obtain ⟨b, o', ha, hc⟩ := hw.cell 0 hne
    obtain ⟨rfl, rfl⟩ : g = b ∧ o = o' := by simpa using ha
    exact lt_of_cell hc
  have hbl2 : ∀ b o s, ab = some ⟨b, o, s⟩ → b < w.heap.size := fun b o' s he => by
    obtain ⟨⟨k1, k2⟩, l1, l2, _⟩ := probChk_ok hch
    have hne : 0 < bs.length := by have := hpath.len; omega
    obtain ⟨b', o2, ha, hc⟩ := hby.cell 0 hne
    rw [he] at ha
    obtain ⟨rfl, _⟩ : b = b' ∧ o' = o2 := by simp at ha; exact ⟨ha.1, ha.2.1⟩
    exact lt_of_cell hc
  have b42 := (b4.kept B1).kept B2
  have b52 := (b5.kept B1).kept B2
  have hw2 := ((hw.kept B0).kept B1).kept B2
  have hby2 := ((hby.kept B0).kept B1).kept B2
  have B20 := bOn (bOn B0 B1) B2
  refine (wpIn_wide (n := 3)).1 (wp_rangeSeq (n := 3) (gf := 95) (lb := #[.pointer (some ⟨q1, 0, none⟩), .pointer (some ⟨q2, 0, none⟩), .pointer (some ⟨qw, 0, none⟩)]) rfl (EnterF.out (P := Try.prog)) (encs := fun m : Int => #[.int .i64 m]) (S := fun xs => xs = p.pm bs) (N := p.N.toNat + 1) (Rd := Rd) ?hseq (fun k hk => (R3 k hk).1) (fun x => rfl)
    (fun _ pre A => Box A (w.heap.size + 1) #[.int .i64 (dipOf pre)] ∧ Box A (w.heap.size + 1 + 1) #[.int .i64 (lastOf pre)] ∧ Below w.heap.size w A ∧ w2.heap.size ≤ A.heap.size) ?hI ⟨b42, b52, B20, Nat.le_refl _⟩ ?hround ?hdone)
  case hseq =>
    intro A hA
    exact prefixes_seq p hp hch bs hpath g o cap q1 q2 qr qw ab cb hcap Rd A _ (hP.prob.kept hA) (hP.bits.kept hA) (hP.rate.kept hA) (hP.worth.kept hA) (hw2.kept hA) (hby2.kept hA) (Rnew _ hP.new.1 hP.prob.lt) (Rnew _ hP.new.2.1 hP.bits.lt) (Rnew _ hP.new.2.2.1 hP.rate.lt) (Rnew _ hP.new.2.2.2 hP.worth.lt) (Rold _ hgl) (fun b o s he => Rold _ (hbl2 b o s he)) (fun k hk => by have := (R3 k hk).1; have := hA.size; omega)
  case hI =>
    rintro H H' s A A' ⟨i1, i2, i3, i4⟩ hT hH hH'
    exact ⟨hT.box i1 (fun hx => by have := hH _ hx; omega), hT.box i2 (fun hx => by have := hH _ hx; omega), i3.trans (hT.below fun k hk => ⟨by omega, fun hx => by have := hH _ hx; omega⟩), Nat.le_trans i4 hT.size⟩
  case hround =>
    rintro l2 H pre x A ⟨i1, i2, i3, i4⟩ hlen hH hl2
    gi_wp2
    refine ⟨Turn.refl _ _, fun w5 hT5 => ?_⟩
    have hgl2 := (hH _ hl2).1
    have j1 := hT5.box i1 (by omega)
    have j2 := hT5.box i2 (by omega)
    have c4 := j1.cell 0
    have c5 := j2.cell 0
    have z4 := j1.frozen 0
    have z5 := j2.frozen 0
    simp only [List.getElem?_toArray, List.getElem?_cons_zero] at c4 c5
    have hmin : (if x < dipOf pre then x else dipOf pre) = dipOf (pre ++ [x]) := by
      rw [dipOf_snoc]
      split <;> omega
    have hs5 := hT5.size
    gi_wp2
    have n4 : ¬(Rd (w.heap.size + 1) ∨ H (w.heap.size + 1)) := fun hx => by
      rcases hx with hx | hx
      · exact (R3 _ hx).2.1 rfl
      · have := (hH _ hx).1; omega
    have n5 : ¬(Rd (w.heap.size + 1 + 1) ∨ H (w.heap.size + 1 + 1)) := fun hx => by
      rcases hx with hx | hx
      · exact (R3 _ hx).2.2 rfl
      · have := (hH _ hx).1; omega
    exact (show roundEnds _ _ _ _ _ .normal _ _ from ⟨(Turn.setCell _ _ _ n4).trans (Turn.setCell _ _ _ n5), ((j1.setCell _).cast rfl).setOther (by simp) _, ((j2.setOther (by simp) _).setCell _).cast (by rw [lastOf_snoc]; rfl),
      ((i3.trans (hT5.below fun k hk => ⟨by omega, fun hx => by omega⟩)).setCell (by simp) _).setCell (by simp; omega) _, by simp [World.setCell]; omega⟩)
  case hdone =>
    rintro H xs A rfl ⟨i1, i2, i3, i4⟩ hH hHD hD
    have c4 := i1.cell 0
    have c5 := i2.cell 0
    have z4 := i1.frozen 0
    have z5 := i2.frozen 0
    simp only [List.getElem?_toArray, List.getElem?_cons_zero] at c4 c5
    go_upto_region 7 with (fail)
    go_region
    have e1 : Box ((A.setCell ⟨w.heap.size + 1, 0, none⟩ (.int .i64 (dipOf (p.pm bs)))).setCell ⟨w.heap.size + 1 + 1, 0, none⟩ (.int .i64 (lastOf (p.pm bs)))).drew (w.heap.size + 1) #[.int .i64 (dipOf (p.pm bs))] := ((i1.setCell _).cast rfl).setOther (p := ⟨w.heap.size + 1 + 1, 0, none⟩) (by simp) _
    have e2 : Box ((A.setCell ⟨w.heap.size + 1, 0, none⟩ (.int .i64 (dipOf (p.pm bs)))).setCell ⟨w.heap.size + 1 + 1, 0, none⟩ (.int .i64 (lastOf (p.pm bs)))).drew (w.heap.size + 1 + 1) #[.int .i64 (lastOf (p.pm bs))] := ((i2.setOther (p := ⟨w.heap.size + 1, 0, none⟩) (by simp) _).setCell _).cast rfl
    have e3 : ((A.setCell ⟨w.heap.size + 1, 0, none⟩ (.int .i64 (dipOf (p.pm bs)))).setCell ⟨w.heap.size + 1 + 1, 0, none⟩ (.int .i64 (lastOf (p.pm bs)))).drew.heap[w2.heap.size]? = some (.deferred (some [])) :=
      (Below.heap_setCell _ _ _ _ (by simp; omega)).trans ((Below.heap_setCell _ _ _ _ (by simp; omega)).trans hD)
    have e4 : Below w.heap.size w ((A.setCell ⟨w.heap.size + 1, 0, none⟩ (.int .i64 (dipOf (p.pm bs)))).setCell ⟨w.heap.size + 1 + 1, 0, none⟩ (.int .i64 (lastOf (p.pm bs)))).drew := ((i3.setCell (by simp) _).setCell (by simp; omega) _).drew
    generalize ((A.setCell ⟨w.heap.size + 1, 0, none⟩ (.int .i64 (dipOf (p.pm bs)))).setCell ⟨w.heap.size + 1 + 1, 0, none⟩ (.int .i64 (lastOf (p.pm bs)))).drew = A' at e1 e2 e3 e4 ⊢
    go_wp2
    refine ⟨by simp, .inl ⟨_, _, rfl, run_takeDeferred e3, ?_⟩⟩
    have hT : Turn (fun k => k = w2.heap.size) A' (A'.putObj w2.heap.size (.deferred none)) := Turn.putObj _ _ rfl
    refine ⟨_, results_cells2tmp rfl rfl rfl rfl (hT.box e1 (by omega)) (hT.box e2 (by omega)), rfl, e4.trans (hT.below fun k hk => ⟨by have := e4.size; omega, by omega⟩)⟩
end Go.Proofs.Ytnjmplapjnnjdaa
/- The walks of dip and total at any path: the program's; what must come of the chapters' example. -/
namespace Go.Proofs.Ytnjmplapjnnjdaa
open Go.RowKit

def Pb.dip (p : Pb) (bs : List Nat) : Int := if p.pathChk bs != 0 then 0 else dipOf (p.pm bs)
def Pb.tot (p : Pb) (bs : List Nat) : Int := if p.pathChk bs != 0 then 0 else lastOf (p.pm bs)
theorem score_Both_bad (p : Pb) (a : Option Addr) (cap : Nat) (hp : p.Ok) (bs : List Nat) (ab : Option Addr) (cb : Nat) (hbl : (bs.length : Int) ≤ 9223372036854775807) (hc : p.pathChk bs ≠ 0) (w : World) (hw : Bytes w a p.B) (hby : Bytes w ab bs) :
    Pure Try.prog 32 #[.agg (p.cells (.slice a p.B.length cap)), .slice ab bs.length cb] w (.tuple #[.int .i64 0, .int .i64 0, .int .i64 (p.pathChk bs)]) := by
  have hz : (p.pathChk bs != 0) = true := by simpa using hc
  go_enter Try.func32, Try.ntmps32
  go_upto_region 1 with (fail)
  refine name3 ?_
  intro w0 b2 b4 b5 B0
  obtain ⟨fk, fr, flev, fl, fwin, fcode, ftable, fall⟩ := b2.prob hp
  clear fk fr flev fl fwin fcode ftable
  go_wp2_with ((with_reducible apply ld); rfl; (with_reducible assumption); (simp only [List.set_cons_zero, List.set_cons_succ]; rfl))
  refine (score_both p a cap hp bs ab cb hbl _ (hw.kept B0) (hby.kept B0)).mono ?_
  rintro e w1 ⟨rfl, B1⟩
  clear fall
  have i1 := b4.kept B1
  have i2 := b5.kept B1
  have c4 := i1.cell 0
  have c5 := i2.cell 0
  have z4 := i1.frozen 0
  have z5 := i2.frozen 0
  simp only [List.getElem?_toArray, List.getElem?_cons_zero] at c4 c5
  go_wp2
  refine bodyPost_ret (results_cells2tmp rfl rfl rfl rfl (((i1.setCell _).cast rfl).setOther (by simp) _) (((i2.setOther (by simp) _).setCell _).cast rfl)) rfl ?_
  exact ⟨rfl, ((bOn B0 B1).setCell (by simp) _).setCell (by simp; omega) _⟩
theorem score_BothG (p : Pb) (a : Option Addr) (cap : Nat) (hp : p.Ok) (hcap : p.B.length ≤ cap) (bs : List Nat) (ab : Option Addr) (cb : Nat) (hbl : (bs.length : Int) ≤ 9223372036854775807) (w : World) (hw : Bytes w a p.B) (hby : Bytes w ab bs) :
    Pure Try.prog 32 #[.agg (p.cells (.slice a p.B.length cap)), .slice ab bs.length cb] w (.tuple #[.int .i64 (p.dip bs), .int .i64 (p.tot bs), .int .i64 (p.pathChk bs)]) := by
  unfold Pb.dip Pb.tot
  by_cases hc : p.pathChk bs = 0
  · rw [if_neg (by simp [hc]), if_neg (by simp [hc]), hc]
    obtain ⟨hch, _⟩ := Pb.pathChk_ok hc
    obtain ⟨⟨k1, k2⟩, l1, l2, cr, hwin, _⟩ := probChk_ok hch
    have hne : 0 < p.B.length := by
      have h1 : 3 ≤ p.N := by unfold Pb.N; omega
      rcases cr with h | h <;> rw [h] at hwin <;> omega
    obtain ⟨g, o, rfl, _⟩ := hw.cell 0 hne
    exact score_Both p g o cap hp hcap bs ab cb hbl hc w hw hby
  · rw [if_pos (by simpa using hc), if_pos (by simpa using hc)]
    exact score_Both_bad p a cap hp bs ab cb hbl hc w hw hby
theorem score_Dip (p : Pb) (a : Option Addr) (cap : Nat) (hp : p.Ok) (hcap : p.B.length ≤ cap) (bs : List Nat) (ab : Option Addr) (cb : Nat) (hbl : (bs.length : Int) ≤ 9223372036854775807) (w : World) (hw : Bytes w a p.B) (hby : Bytes w ab bs) :
    Pure Try.prog 33 #[.agg (p.cells (.slice a p.B.length cap)), .slice ab bs.length cb] w (.tuple #[.int .i64 (p.dip bs), .int .i64 (p.pathChk bs)]) := by
  go_enter Try.func33, Try.ntmps33
  go_upto_region 1 with (fail)
  refine name1 ?_
  intro w0 b2 B0
  obtain ⟨fk, fr, flev, fl, fwin, fcode, ftable, fall⟩ := b2.prob hp
  clear fk fr flev fl fwin fcode ftable
  go_wp2_with ((with_reducible apply ld); rfl; (with_reducible assumption); (simp only [List.set_cons_zero, List.set_cons_succ]; rfl))
  refine (score_BothG p a cap hp hcap bs ab cb hbl _ (hw.kept B0) (hby.kept B0)).mono ?_
  rintro e w1 ⟨rfl, B1⟩
  go_wp2
  go_ret2
  exact ⟨rfl, bOn B0 B1⟩
theorem plain_one : plainPb.pathChk [1] = 0 ∧ plainPb.dip [1] = 0 ∧ plainPb.tot [1] = 6 := by
  refine ⟨by kernel_rfl, by kernel_rfl, by kernel_rfl⟩
theorem plain_zero : plainPb.pathChk [0] = 0 ∧ plainPb.dip [0] = -24 ∧ plainPb.tot [0] = -24 := by
  refine ⟨by kernel_rfl, by kernel_rfl, by kernel_rfl⟩
end Go.Proofs.Ytnjmplapjnnjdaa

/- The walk of the prefix metrics: an append in the round of a range over the iterator. -/
namespace Go.Proofs.Ytnjmplapjnnjdaa
open Go.RowKit Go.Shelf
attribute [local go_sem] Oper.semAt_some

section
variable {P : Program} {ops : Array Oper} {rest : List Oper} {Q : Exit → Act → World → Prop} {w : World} {F : Fence} {nn : Nat}
/-- THE ARM for 'append(s, x ..)' in a round. -/
theorem apIn {l : List Value} {ds : List Deferred} {t e te d n m c size bytes base : Nat} {s x : Operand} {z v : Value} {xs us : List Value} {ty : TypeId} {ps : String} {af : Array Edge} (hF : ∀ f, F.fn f)
    [S : SlTy P t e] [E : ElTy P e z size bytes] (hown : w.ownsRow base e size v n xs) (hsz : 0 < size) (hs : (Act.mk l.toArray ds).eval s = v) (hx : (Act.mk l.toArray ds).eval x = .slice (some ⟨w.heap.size, 0, none⟩) m c)
    (hl : us.length = m * size) (h1 : ∀ u ∈ us, u.oneCell' = true) (h63 : n + m ≤ 9223372036854775807 / 65536) (hbytes : (n + m) * bytes ≤ 140737488355328) (hbase : base ≤ w.heap.size)
    (h : ∀ v' w', w'.ownsRow base e size v' (n + m) (xs ++ us) → w.grownBy w' v.ownBlock → (v'.ownBlock = v.ownBlock ∨ v'.ownBlock = some (w.heap.size + 1)) → wpListIn F nn P ops Q rest ⟨(l.set d v').toArray, ds⟩ w') :
    wpListIn F nn P ops Q (⟨some d, .call { callee := .builtin .append, args := #[s, x], argTypes := #[t, t] }, ty, ps, af, none⟩ :: rest) ⟨l.toArray, ds⟩ (w.alloc (.cells us.toArray te)) := by
  obtain ⟨i, hi, hz0, hz1, hz2, hz3⟩ := E.out
  obtain ⟨v', w', hr, h2, h3, _, h5⟩ := run_append_own_at (P := P) (w.alloc (.cells us.toArray te)) base t ty e i z size bytes S.out hi hz0 hz1 hz2 hz3 hsz v n xs (hown.alloc _) ⟨w.heap.size, 0, none⟩ m c us hl (alloc_cells_new w us te) h1 (by unfold maxLen; omega) hbytes (by simp; omega)
  refine in_value (v := v') (w' := w') hF (fun c h => by cases h) rfl ?_ ?_
  · unfold execOp
    simp only [resolve, invoke, builtin, Sem.run_bind, Sem.run_pure, Result.andThen_ok, List.map_toArray, List.map_cons, List.map_nil, hs, hx, hr]
  · rw [put_list]
    exact h v' w' h2 ((World.grownBy_alloc w _ _).trans h3) (by simpa using h5)
end
theorem row_form {w : World} {B e size n : Nat} {v : Value} {xs : List Value} (h : w.ownsRow B e size v (n + 1) xs) : ∃ g cap, v = .slice (some ⟨g, 0, none⟩) (n + 1) cap := by
  rcases h.2 with ⟨_, h⟩ | ⟨g, cap, cur, hv, _⟩
  · omega
  · exact ⟨g, cap, hv⟩
/-- A row of numbers that a call has lent. -/
def Row64 (w : World) (B : Nat) (v : Value) (l : List Int) : Prop := w.ownsRow B 3 1 v l.length (l.map (Value.int .i64))
theorem Row64.turn {H : Nat → Prop} {w w' : World} {B : Nat} {v : Value} {l : List Int} (h : Row64 w B v l) (hT : Turn H w w') (hn : ∀ k, v.ownBlock = some k → ¬H k) : Row64 w' B v l := by
  refine ⟨h.1, ?_⟩
  rcases h.2 with h | ⟨g, cap, cur, hv, hb, hg, rest⟩
  · exact .inl h
  · refine .inr ⟨g, cap, cur, hv, hb, (hT.block g ?_ (hn g (by rw [hv]; rfl))).trans hg, rest⟩
    exact (Array.getElem?_eq_some_iff.1 hg).1
theorem Turn.grown {w w' : World} {row : Option Nat} (h : w.grownBy w' row) : Turn (fun k => some k = row) w w' := ⟨h.os, h.tape, h.output, h.size, h.block⟩
theorem Row64.mono {w : World} {B B' : Nat} {v : Value} {l : List Int} (h : Row64 w B v l) (hb : B' ≤ B) : Row64 w B' v l := by
  refine ⟨h.1, ?_⟩
  rcases h.2 with h | ⟨g, cap, cur, hv, hbg, rest⟩
  · exact .inl h
  · exact .inr ⟨g, cap, cur, hv, Nat.le_trans hb hbg, rest⟩
end Go.Proofs.Ytnjmplapjnnjdaa
/- The walk of a law's own path: bits out of any bytes. -/
namespace Go.Proofs.Ytnjmplapjnnjdaa
open Go.RowKit

/-- THE ARM for 'make([]T, n)'. -/
theorem mkA {P : Program} {ops : Array Oper} {rest : List Oper} {l l' : List Value} {ds : List Deferred} {w : World} {Q : Exit → Act → World → Prop} {t e d size bytes : Nat} {n : Int} {kl kc : IntKind} {s x : Operand} {z : Value} {ty : TypeId} {ps : String} {af : Array Edge}
    [S : SlTy P t e] [E : ElTy P e z size bytes] (hs : (Act.mk l.toArray ds).eval s = .int kl n) (hx : (Act.mk l.toArray ds).eval x = .int kc n) (h0 : 0 ≤ n) (hb : (bytes : Int) * n ≤ 281474976710656) (h63 : n ≤ 9223372036854775807)
    (hl : l.set d (.slice (some ⟨w.heap.size, 0, none⟩) n.toNat n.toNat) = l')
    (h : ∀ w', Box w' w.heap.size (madeCells z.cells (n.toNat * size)) → Below w.heap.size w w' → w'.heap.size = w.heap.size + 1 → wpList P ops Q rest ⟨l'.toArray, ds⟩ w') :
    wpList P ops Q (⟨some d, .makeSlice t s x, ty, ps, af, none⟩ :: rest) ⟨l.toArray, ds⟩ w := by
  obtain ⟨i, hi, hz0, hz1, hz2, hz3⟩ := E.out
  have hr := run_make (P := P) w t e i z S.out hi hz0 kl kc n n h0 (Int.le_refl _) (by rw [hz2]; exact hb) h63
  refine wpList_plain rfl fun K hK => ?_
  unfold Oper.wp execOp
  simp only [hs, hx, Sem.run_bind, hr, Result.andThen_ok, Sem.run_pure]
  rw [Oper.upon_value, put_list, hl]
  exact hK _ _ (h (w.alloc (.cells (madeCells z.cells (n.toNat * i.size)) e)) ⟨e, by rw [← hz1]; exact heap_alloc_new w _⟩ ((Below.refl _ w).alloc (Nat.le_refl _) _) (by simp))
set_option maxRecDepth 100000 in
theorem and8F : ∀ x : Fin 256, bits .and .u8 ((x.val : Nat) : Int) 1 = ((x.val % 2 : Nat) : Int) := by decide
theorem and8 (x : Nat) (h : x < 256) : bits .and .u8 (x : Int) 1 = ((x % 2 : Nat) : Int) := and8F ⟨x, h⟩
def bitsTo (bs : List Nat) (m k : Nat) : List Nat := (List.range m).map fun i => if i < k then bs.getD i 0 % 2 else 0
def bitsOf (bs : List Nat) (m : Nat) : List Nat := (List.range m).map fun i => bs.getD i 0 % 2
theorem bitsTo_len (bs : List Nat) (m k : Nat) : (bitsTo bs m k).length = m := by simp [bitsTo]
theorem bitsOf_len (bs : List Nat) (m : Nat) : (bitsOf bs m).length = m := by simp [bitsOf]
theorem bitsTo_zero (bs : List Nat) (m : Nat) : (u8s (bitsTo bs m 0)).toArray = madeCells (Value.int .u8 0).cells m := by
  have h1 : u8s (bitsTo bs m 0) = List.replicate m (Value.int .u8 0) := by
    apply List.ext_getElem
    · simp [u8s_len, bitsTo_len]
    · intro i h1 h2
      simp [u8s, bitsTo]
  rw [h1]
  unfold madeCells
  apply Array.ext
  · simp
  · intro i h1 h2
    simp [Value.cells, Nat.mod_one]
theorem bitsTo_full {bs : List Nat} {m k : Nat} (h : m ≤ k ∨ bs.length ≤ k) : bitsTo bs m k = bitsOf bs m := by
  unfold bitsTo bitsOf
  apply List.map_congr_left
  intro i hi
  have him := List.mem_range.1 hi
  split
  · rfl
  · have : bs.length ≤ i := by omega
    simp [List.getD, List.getElem?_eq_none this]
theorem bitsTo_set {bs : List Nat} {m k : Nat} (_hk : k < m) (x : Nat) (hx : x = bs.getD k 0 % 2) : (u8s (bitsTo bs m k)).toArray.setIfInBounds k (Value.int .u8 (x : Nat)) = (u8s (bitsTo bs m (k + 1))).toArray := by
  subst hx
  apply Array.ext_getElem?
  intro i
  rw [Array.getElem?_setIfInBounds]
  simp only [List.size_toArray, List.getElem?_toArray, u8s, bitsTo, List.length_map, List.length_range, List.getElem?_map]
  by_cases hi : i < m
  · rw [List.getElem?_range hi]
    simp only [Option.map_some]
    by_cases hik : k = i
    · subst hik
      rw [if_pos rfl, if_pos hi, if_pos (by omega)]
    · rw [if_neg hik]
      by_cases h1 : i < k
      · rw [if_pos h1, if_pos (by omega)]
      · rw [if_neg h1, if_neg (by omega)]
  · rw [List.getElem?_eq_none (by simp; omega)]
    by_cases hik : k = i
    · omega
    · rw [if_neg hik]
      rfl
set_option maxRecDepth 5000 in
set_option maxHeartbeats 1000000 in
theorem law11_Bits (bs : List Nat) (a : Option Addr) (cap : Nat) (n : Int) (hn : n ≤ 1048576) (hbl : (bs.length : Int) ≤ 9223372036854775807) (w : World) (hw : Bytes w a bs) :
    Calls Try.prog 34 #[.slice a bs.length cap, .int .i64 n] w fun e w' => e = .returned (.slice (some ⟨w.heap.size, 0, none⟩) n.toNat n.toNat) ∧ Box w' w.heap.size (u8s (bitsOf bs n.toNat)).toArray ∧ Below w.heap.size w w' := by
  have hm : (n.toNat : Int) ≤ 1048576 := by omega
  obtain ⟨m, hmm⟩ : ∃ m, m = n.toNat := ⟨_, rfl⟩
  rw [← hmm] at hm ⊢
  go_enter Try.func34, Try.ntmps34
  go_upto_region 2 with ((with_reducible apply mkA); rfl; rfl; omega; omega; omega; (simp only [List.set_cons_zero, List.set_cons_succ]; rfl); intro w0 b0 B0 s0)
  have en : (if 0 < n then n else 0).toNat = n.toNat := by split <;> omega
  obtain ⟨x, hx⟩ : ∃ x, x = (if 0 < n then n else 0) := ⟨_, rfl⟩
  rw [← hx] at en b0 ⊢
  rw [en, Nat.mul_one, ← hmm, ← bitsTo_zero bs] at b0
  rw [en, ← hmm]
  clear hmm en hn hx
  go_wp2_with fail
  go_loopw [6] (fun i wr => ∃ k : Nat, k ≤ m ∧ i = .int .i64 k ∧ Box wr w.heap.size (u8s (bitsTo bs m k)).toArray ∧ Below w.heap.size w wr) (fun i _ => m - (intOf i).toNat)
  case atStart => exact ⟨0, by omega, rfl, b0, B0⟩
  case round =>
    obtain ⟨k, hk, rfl, hR, hB⟩ := hrel
    by_cases hkm : k < m
    · by_cases hkl : k < bs.length
      · obtain ⟨b, o, rfl, hc⟩ := hw.cell k hkl
        have hbw : b < w.heap.size := lt_of_cell hc
        have hc2 := ((hw.kept hB).cell k hkl)
        obtain ⟨b', o', ha, hc2⟩ := hc2
        obtain ⟨rfl, rfl⟩ : b = b' ∧ o = o' := by simpa using ha
        have hg : (u8s (bitsTo bs m k)).toArray[k]? = some (Value.int .u8 0) := by
          simp [u8s, bitsTo, hkm]
        have hc3 := (hR.cell k).trans hg
        have hz := hR.frozen k
        have hx : (bs[k] % 2) = bs.getD k 0 % 2 := by simp [List.getD, List.getElem?_eq_getElem hkl]
        have hset := bitsTo_set (bs := bs) hkm (bs[k] % 2) hx
        have hR2 := fun v => hR.setCell (i := k) v
        have hB2 := fun v => hB.setCell (p := ⟨w.heap.size, k, none⟩) (Nat.le_refl _) v
        have k1 : decide ((k : Int) < m) = true := by simp; omega
        have k2 : decide ((k : Int) < bs.length) = true := by simp; omega
        have k3 : (k : Int) < m := by omega
        have k4 : (k : Int) < bs.length := by omega
        have k5 : bs[k] < 256 := hw.lt _ (List.getElem_mem hkl)
        go_wp2
        go_roundw
        case measure => simp only [intOf]; omega
        case rel =>
          refine ⟨k + 1, by omega, by go_num, (hR2 _).cast ?_, hB2 _⟩
          rw [← hset]
          rw [and8 _ k5]
      · have k1 : decide ((k : Int) < m) = true := by simp; omega
        have k2 : decide ((k : Int) < bs.length) = false := by simp; omega
        have hf := bitsTo_full (bs := bs) (m := m) (k := k) (.inr (by omega))
        rw [hf] at hR
        go_wp2
        go_ret
        exact ⟨rfl, hR, hB⟩
    · have k1 : decide ((k : Int) < m) = false := by simp; omega
      have hf := bitsTo_full (bs := bs) (m := m) (k := k) (.inl (by omega))
      rw [hf] at hR
      go_wp2
      go_ret
      exact ⟨rfl, hR, hB⟩
end Go.Proofs.Ytnjmplapjnnjdaa
/- Laws of the prefix metrics: the least, the last, paths that begin alike. No walk. -/
namespace Go.Proofs.Ytnjmplapjnnjdaa
open Go.RowKit

theorem foldl_min_le : ∀ (l : List Int) (m : Int), l.foldl min m ≤ m ∧ (∀ x ∈ l, l.foldl min m ≤ x) ∧ (l.foldl min m = m ∨ l.foldl min m ∈ l)
  | [], m => ⟨Int.le_refl _, fun x hx => (by cases hx), .inl rfl⟩
  | a :: l, m => by
    obtain ⟨h1, h2, h3⟩ := foldl_min_le l (min m a)
    simp only [List.foldl_cons]
    refine ⟨by omega, fun x hx => ?_, ?_⟩
    · rcases List.mem_cons.1 hx with rfl | hx
      · omega
      · exact h2 x hx
    · rcases h3 with h | h
      · by_cases hm : m ≤ a
        · left; rw [h]; omega
        · right; rw [h]; rw [show min m a = a by omega]; exact List.mem_cons_self
      · right; exact List.mem_cons_of_mem _ h
theorem Pb.pm_len (p : Pb) (bs : List Nat) : (p.pm bs).length = p.N.toNat + 1 := by unfold Pb.pm; rw [Pb.psums_len, Pb.pathL_len]
theorem Pb.pm_get (p : Pb) (bs : List Nat) {i : Nat} (h : i ≤ p.N.toNat) : (p.pm bs)[i]? = some (p.psum ((p.pathL bs).take i)) := by
  unfold Pb.pm Pb.psums
  rw [Pb.pathL_len, List.getElem?_map, List.getElem?_range (by omega)]
  rfl
theorem Pb.pm_zero (p : Pb) (bs : List Nat) : (p.pm bs)[0]? = some 0 := by rw [p.pm_get bs (Nat.zero_le _)]; rfl
theorem Pb.pm_last (p : Pb) (bs : List Nat) : (p.pm bs)[p.N.toNat]? = some (lastOf (p.pm bs)) := by
  have h := p.pm_len bs
  unfold lastOf
  rw [List.getLastD_eq_getLast?, List.getLast?_eq_getElem?, h]
  simp only [Nat.add_sub_cancel]
  rw [List.getElem?_eq_getElem (by omega)]
  rfl
theorem Pb.pm_dip (p : Pb) (bs : List Nat) : dipOf (p.pm bs) ≤ 0 ∧ (∀ (i : Nat) x, (p.pm bs)[i]? = some x → dipOf (p.pm bs) ≤ x) ∧ ∃ i : Nat, i ≤ p.N.toNat ∧ (p.pm bs)[i]? = some (dipOf (p.pm bs)) := by
  obtain ⟨h1, h2, h3⟩ := foldl_min_le (p.pm bs) 0
  refine ⟨h1, fun i x hi => h2 x (List.mem_of_getElem? hi), ?_⟩
  rcases h3 with h | h
  · exact ⟨0, Nat.zero_le _, by rw [p.pm_zero bs]; unfold dipOf; rw [h]⟩
  · obtain ⟨i, hi, he⟩ := List.getElem_of_mem h
    have := p.pm_len bs
    exact ⟨i, by omega, by rw [List.getElem?_eq_getElem hi, he]; rfl⟩
theorem Pb.bit_congr (p : Pb) {bs cs : List Nat} {j : Nat} (h : bs.getD j 0 = cs.getD j 0) : p.bit bs j = p.bit cs j := by unfold Pb.bit; rw [h]
theorem Pb.st_congr (p : Pb) {bs cs : List Nat} : ∀ i, (∀ j, j < i → bs.getD j 0 = cs.getD j 0) → p.st bs i = p.st cs i
  | 0, _ => rfl
  | i + 1, h => by
    unfold Pb.st
    rw [Pb.st_congr p i (fun j hj => h j (by omega)), p.bit_congr (h i (by omega))]
theorem Pb.take_congr (p : Pb) {bs cs : List Nat} {i : Nat} (h : ∀ j, j < i → bs.getD j 0 = cs.getD j 0) : (p.pathL bs).take i = (p.pathL cs).take i := by
  apply List.ext_getElem
  · simp [Pb.pathL_len]
  · intro k h1 h2
    simp only [List.length_take, Nat.lt_min] at h1
    simp only [List.getElem_take, Pb.pathL, List.getElem_ofFn]
    have : p.reg bs k = p.reg cs k := by
      unfold Pb.reg
      rw [p.st_congr k (fun j hj => h j (by omega)), p.bit_congr (h k h1.1)]
    congr 1
    rw [this]
theorem Pb.pm_congr (p : Pb) {bs cs : List Nat} {i : Nat} (h : ∀ j, j < i → bs.getD j 0 = cs.getD j 0) (hi : i ≤ p.N.toNat) : (p.pm bs)[i]? = (p.pm cs)[i]? := by
  rw [p.pm_get bs hi, p.pm_get cs hi, p.take_congr h]
/-- A path that begins as another one. -/
def joinAt (l m : List Nat) (k : Nat) : List Nat := l.take k ++ m.drop k
theorem joinAt_len {l m : List Nat} {k : Nat} (h : l.length = m.length) : (joinAt l m k).length = m.length := by
  unfold joinAt; simp; omega
theorem joinAt_getD {l m : List Nat} {j k : Nat} (hk : k ≤ l.length) (hj : j < k) : (joinAt l m k).getD j 0 = l.getD j 0 := by
  unfold joinAt
  simp only [List.getD]
  rw [List.getElem?_append_left (by simp; omega), List.getElem?_take, if_pos hj]
theorem bitsOf_lt {bs : List Nat} {m : Nat} : ∀ x ∈ bitsOf bs m, x < 2 := by
  intro x hx
  obtain ⟨i, _, rfl⟩ := List.mem_map.1 hx
  exact Nat.mod_lt _ (by decide)
theorem joinAt_lt {l m : List Nat} {k c : Nat} (hl : ∀ x ∈ l, x < c) (hm : ∀ x ∈ m, x < c) : ∀ x ∈ joinAt l m k, x < c := by
  intro x hx
  rcases List.mem_append.1 hx with h | h
  · exact hl x (List.mem_of_mem_take h)
  · exact hm x (List.mem_of_mem_drop h)
theorem Pb.path_chk {p : Pb} {bs : List Nat} (h : probChk p = 0) (hlen : (bs.length : Int) = p.L) (hb : ∀ x ∈ bs, x < 2) : p.pathChk bs = 0 := by
  unfold Pb.pathChk
  have h2 : bs.any (fun x => decide (1 < x)) = false := by
    rw [List.any_eq_false]
    intro x hx
    have := hb x hx
    simp; omega
  rw [if_neg (by simp [h]), h2, if_neg (by simp), if_neg (by simp [hlen])]
/-- Numbers at the head of a block. -/
def IntsAt (w : World) (g : Nat) (l : List Int) : Prop := g < w.heap.size ∧ ∀ (i : Nat) x, l[i]? = some x → w.cell? ⟨g, i, none⟩ = some (.int .i64 x)
theorem IntsAt.kept {w w' : World} {g : Nat} {l : List Int} (h : IntsAt w g l) (hB : Below w.heap.size w w') : IntsAt w' g l := ⟨Nat.lt_of_lt_of_le h.1 hB.size, fun i x hx => (hB.cell h.1).trans (h.2 i x hx)⟩
theorem Row64.form {w : World} {B : Nat} {v : Value} {l : List Int} (h : Row64 w B v l) (hl : 0 < l.length) : ∃ g cap, v = .slice (some ⟨g, 0, none⟩) l.length cap ∧ B ≤ g ∧ IntsAt w g l := by
  have h0 := h
  rcases h.2 with ⟨_, h⟩ | ⟨g, cap, cur, hv, hb, hg, _⟩
  · omega
  · subst hv
    refine ⟨g, cap, rfl, hb, (Array.getElem?_eq_some_iff.1 hg).1, fun i x hx => ?_⟩
    have hil : i < l.length := by
      rcases Nat.lt_or_ge i l.length with h | h
      · exact h
      · rw [List.getElem?_eq_none h] at hx; cases hx
    rw [World.ownsRow.cellAt h0 i (by omega), List.getElem?_map, hx]
    rfl
theorem prob_slice {p : Pb} (h : probChk p = 0) : 0 < p.B.length := by
  obtain ⟨⟨k1, k2⟩, l1, l2, cr, hwin, _⟩ := probChk_ok h
  have h1 : 3 ≤ p.N := by unfold Pb.N; omega
  rcases cr with h | h <;> rw [h] at hwin <;> omega
end Go.Proofs.Ytnjmplapjnnjdaa

/- A struct of one field, built of that field's value. No program's text is named here. -/
namespace Go.Proofs.Ytnjmplapjnnjdaa
open Go.RowKit

theorem fold_set : ∀ (l : List Value) (k : Nat) (zs : Array Value) (i : Nat), k + l.length ≤ zs.size → ((l.zipIdx k).foldl (fun cs x => cs.setIfInBounds (0 + x.2) x.1) zs)[i]? = if k ≤ i ∧ i < k + l.length then l[i - k]? else zs[i]?
  | [], k, zs, i, _ => by simp; omega
  | v :: l, k, zs, i, h => by
    simp only [List.length_cons] at h
    rw [List.zipIdx_cons, List.foldl_cons, fold_set l (k + 1) _ i (by simp; omega)]
    simp only [List.length_cons, Nat.zero_add]
    by_cases h1 : i = k
    · subst h1
      rw [if_neg (by omega), if_pos (by omega)]
      simp [Array.getElem?_setIfInBounds]
      omega
    · by_cases h2 : k + 1 ≤ i ∧ i < k + 1 + l.length
      · rw [if_pos h2, if_pos (by omega), show i - k = (i - (k + 1)) + 1 by omega, List.getElem?_cons_succ]
      · rw [if_neg h2, if_neg (by omega), Array.getElem?_setIfInBounds_ne (Ne.symm h1)]
theorem fill_one {cs zs : Array Value} (h : cs.size = zs.size) : cs.zipIdx.foldl (fun cs (x : Value × Nat) => cs.setIfInBounds (0 + x.2) x.1) zs = cs := by
  rw [← Array.foldl_toList, Array.toList_zipIdx]
  apply Array.ext_getElem?
  intro i
  rw [fold_set cs.toList 0 zs i (by simp [h])]
  split
  · simp
  · rw [Array.getElem?_eq_none (by simp at *; omega), Array.getElem?_eq_none (by simp at *; omega)]
theorem run_build_one {P : Program} {t : TypeId} {f : Field} {n : Nat} {z : Value} (hu : P.underlying t = some (.struct #[f])) (hf : f.offset = 0) (hi : (P.info? t).map (·.zero) = some (some z)) (hz : z.cells.size = n) (hs : (P.info? f.type).map (·.size) = some n) {cs : Array Value} (hc : cs.size = n) (w : World) :
    (Instr.build t #[(0, .agg cs)]).run P w = .ok (.agg cs) w := by
  refine run_build w t _ cs ?_
  unfold Program.built
  cases h1 : P.info? t with
  | none => simp [h1] at hi
  | some it =>
    cases h2 : P.info? f.type with
    | none => simp [h2] at hs
    | some jt =>
      have hz' : it.zero = some z := by simpa [h1] using hi
      have hs' : jt.size = n := by simpa [h2] using hs
      simp only [hu, hz']
      simp only [List.mapM_cons, List.mapM_nil, h2, Option.map_some, hf, hs']
      have := fill_one (cs := cs) (zs := z.cells) (by rw [hc, hz])
      show Instr.fill _ z.cells [(0, .agg cs)] = some cs
      have hvc : (Value.agg cs).cells.size = n := hc
      unfold Instr.fill
      simp only [List.getElem?_toArray, List.getElem?_cons_zero]
      split
      · rename_i hbad
        exfalso
        rcases (by simpa using hbad : (Value.agg cs).cells.size ≠ n ∨ _) with h | h
        · exact h hvc
        · omega
      · unfold Instr.fill
        exact congrArg some this
end Go.Proofs.Ytnjmplapjnnjdaa
