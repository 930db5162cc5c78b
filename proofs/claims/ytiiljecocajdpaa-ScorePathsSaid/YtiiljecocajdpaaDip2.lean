import Derived.Test.YtiiljecocajdpaaBoth
import Derived.Test.YtiiljecocajdpaaPlain
/- The walks of dip and total: the program's. -/
namespace Go.Proofs.Ytiiljecocajdpaa
open Go.RowKit Go.Shelf
attribute [local go_sem] Oper.semAt_some

theorem bodyPostM_ret {n : Nat} {P : Program} {fn : Func} {R : Ending → World → Prop} {tmps : Array Value} {w : World} {v : Value} (hr : (results fn tmps).run P w = .ok v w) (hR : R (.returned v) w) : bodyPostM Fence.wide n P fn R .ret ⟨tmps, []⟩ w := ⟨v, hr, hR⟩
theorem run_loadVar_cell {P : Program} {t : TypeId} (T : CellTy P t) {w : World} {b : Nat} {v : Value} (h : w.cell? ⟨b, 0, none⟩ = some v) : (loadVar t ⟨b, 0, none⟩).run P w = .ok v w := by
  simp [loadVar, Sem.run_bind, run_isCell T, load, Sem.run, h]
theorem results_cells2tmp {P : Program} {fn : Func} {t0 ty0 t1 ty1 t2 b0 b1 : Nat} {tmps : Array Value} {w : World} {v0 v1 v2 : Value} [T0 : CellTy P ty0] [T1 : CellTy P ty1] (h : fn.results = #[.cell t0 ty0, .cell t1 ty1, .tmp t2]) (p0 : tmps.getD t0 undef = .pointer (some ⟨b0, 0, none⟩)) (p1 : tmps.getD t1 undef = .pointer (some ⟨b1, 0, none⟩)) (h2 : tmps.getD t2 undef = v2)
    (x0 : Box w b0 #[v0]) (x1 : Box w b1 #[v1]) : (results fn tmps).run P w = .ok (.tuple #[v0, v1, v2]) w := by
  have l0 := run_loadVar_cell T0 (v := v0) ((x0.cell 0).trans rfl)
  have l1 := run_loadVar_cell T1 (v := v1) ((x1.cell 0).trans rfl)
  simp only [Array.getD_eq_getD_getElem?] at p0 p1 h2
  simp [results, h, p0, p1, h2, asAddr, Sem.run_bind, l0, l1]
/-- The prefix metrics of a path. -/
def Pb.pm (p : Pb) (bs : List Nat) : List Int := p.psums (p.pathL bs)
def dipOf (l : List Int) : Int := l.foldl min 0
theorem dipOf_snoc (l : List Int) (m : Int) : dipOf (l ++ [m]) = min (dipOf l) m := by simp [dipOf]
def lastOf (l : List Int) : Int := l.getLastD 0
theorem lastOf_snoc (l : List Int) (m : Int) : lastOf (l ++ [m]) = m := by simp [lastOf]
set_option maxRecDepth 5000 in
set_option maxHeartbeats 1000000 in
theorem score_Both (p : Pb) (g o cap : Nat) (hp : p.Ok) (hcap : p.B.length ≤ cap) (bs : List Nat) (ab : Option Addr) (cb : Nat) (hbl : (bs.length : Int) ≤ 9223372036854775807) (hc : p.pathChk bs = 0) (w : World) (hw : Bytes w (some ⟨g, o, none⟩) p.B) (hby : Bytes w ab bs) :
    Pure Try.prog 46 #[.agg (p.cells (.slice (some ⟨g, o, none⟩) p.B.length cap)), .slice ab bs.length cb] w (.tuple #[.int .i64 (dipOf (p.pm bs)), .int .i64 (lastOf (p.pm bs)), .int .i64 0]) := by
  obtain ⟨hch, hpath⟩ := Pb.pathChk_ok hc
  refine (callsIn_wide (n := 3)).1 (callsIn_of_wp_marks Try.func46 rfl trivial ?_ rfl)
  simp only [Try.ntmps46, List.size_toArray, List.length_cons, List.length_nil, Nat.reduceAdd, Nat.reduceSub, Array.replicate_succ, Array.replicate_zero, List.push_toArray, List.append_toArray, List.nil_append, List.cons_append]
  refine wpIn_wide.2 ?_
  go_upto_region 1 with (fail)
  refine name3 ?_
  intro w0 b2 b4 b5 B0
  obtain ⟨fk, fr, flev, fl, fwin, fcode, ftable, fall⟩ := b2.prob hp
  clear fk fr flev fl fwin fcode ftable
  go_wp2_with ((with_reducible apply ld); rfl; (with_reducible assumption); (simp only [List.set_cons_zero, List.set_cons_succ]; rfl))
  refine (score_both p (some ⟨g, o, none⟩) cap hp bs ab cb hbl _ (hw.kept B0) (hby.kept B0)).mono ?_
  rintro e w1 ⟨rfl, B1⟩
  rw [hc]
  clear fall
  obtain ⟨fk, fr, flev, fl, fwin, fcode, ftable, fall⟩ := (b2.kept B1).prob hp
  clear fk fr flev fl fwin fcode ftable
  go_wp2_with ((with_reducible apply ld); rfl; (with_reducible assumption); (simp only [List.set_cons_zero, List.set_cons_succ]; rfl))
  refine (score_prefixes p hp _ ab bs.length cb w1).mono ?_
  rintro e w2 ⟨⟨q1, q2, qr, qw, rfl, hP⟩, B2⟩
  clear fall
  go_wp2_with fail
  have hs0 := b5.lt
  have hs1 := B1.size
  have hs2 := B2.size
  have hsw := B0.size
  obtain ⟨Rd, hRd⟩ : ∃ Rd : Nat → Prop, Rd = fun k => k < w.heap.size ∨ (w1.heap.size ≤ k ∧ k < w2.heap.size) := ⟨_, rfl⟩
  have Rold : ∀ k, k < w.heap.size → Rd k := fun k h => by rw [hRd]; exact .inl h
  have Rnew : ∀ k, w1.heap.size ≤ k → k < w2.heap.size → Rd k := fun k h h' => by rw [hRd]; exact .inr ⟨h, h'⟩
  have R3 : ∀ k, Rd k → k < w2.heap.size ∧ k ≠ w.heap.size + 1 ∧ k ≠ w.heap.size + 2 := fun k h => by
    rw [hRd] at h
    rcases h with h | h
    · omega
    · omega
  have hgl : g < w.heap.size := by
    obtain ⟨⟨k1, k2⟩, l1, l2, cr, hwin, _⟩ := probChk_ok hch
    have hne : 0 < p.B.length := by
      have h1 : 3 ≤ p.N := by unfold Pb.N; omega
      rcases cr with h | h <;> rw [h] at hwin <;> omega
    obtain ⟨b, o', ha, hc⟩ := hw.cell 0 hne
    obtain ⟨rfl, rfl⟩ : g = b ∧ o = o' := by simpa using ha
    exact lt_of_cell hc
  have hbl2 : ∀ b o s, ab = some ⟨b, o, s⟩ → b < w.heap.size := fun b o' s he => by
    obtain ⟨⟨k1, k2⟩, l1, l2, _⟩ := probChk_ok hch
    have hne : 0 < bs.length := by have := hpath.len; omega
    obtain ⟨b', o2, ha, hc⟩ := hby.cell 0 hne
    rw [he] at ha
    obtain ⟨rfl, _⟩ : b = b' ∧ o' = o2 := by simp at ha; exact ⟨ha.1, ha.2.1⟩
    exact lt_of_cell hc
  have b42 := (b4.kept B1).kept B2
  have b52 := (b5.kept B1).kept B2
  have hw2 := ((hw.kept B0).kept B1).kept B2
  have hby2 := ((hby.kept B0).kept B1).kept B2
  have B20 := bOn (bOn B0 B1) B2
  refine (wpIn_wide (n := 3)).1 (wp_rangeSeq (n := 3) (gf := 96) (lb := #[.pointer (some ⟨q1, 0, none⟩), .pointer (some ⟨q2, 0, none⟩), .pointer (some ⟨qw, 0, none⟩)]) rfl (EnterF.out (P := Try.prog)) (encs := fun m : Int => #[.int .i64 m]) (S := fun xs => xs = p.pm bs) (N := p.N.toNat + 1) (Rd := Rd) ?hseq (fun k hk => (R3 k hk).1) (fun x => rfl)
    (fun _ pre A => Box A (w.heap.size + 1) #[.int .i64 (dipOf pre)] ∧ Box A (w.heap.size + 1 + 1) #[.int .i64 (lastOf pre)] ∧ Below w.heap.size w A ∧ w2.heap.size ≤ A.heap.size) ?hI ⟨b42, b52, B20, Nat.le_refl _⟩ ?hround ?hdone)
  case hseq =>
    intro A hA
    exact prefixes_seq p hp hch bs hpath g o cap q1 q2 qr qw ab cb hcap Rd A _ (hP.prob.kept hA) (hP.bits.kept hA) (hP.rate.kept hA) (hP.worth.kept hA) (hw2.kept hA) (hby2.kept hA) (Rnew _ hP.new.1 hP.prob.lt) (Rnew _ hP.new.2.1 hP.bits.lt) (Rnew _ hP.new.2.2.1 hP.rate.lt) (Rnew _ hP.new.2.2.2 hP.worth.lt) (Rold _ hgl) (fun b o s he => Rold _ (hbl2 b o s he)) (fun k hk => by have := (R3 k hk).1; have := hA.size; omega)
  case hI =>
    rintro H H' s A A' ⟨i1, i2, i3, i4⟩ hT hH hH'
    exact ⟨hT.box i1 (fun hx => by have := hH _ hx; omega), hT.box i2 (fun hx => by have := hH _ hx; omega), i3.trans (hT.below fun k hk => ⟨by omega, fun hx => by have := hH _ hx; omega⟩), Nat.le_trans i4 hT.size⟩
  case hround =>
    rintro l2 H pre x A ⟨i1, i2, i3, i4⟩ hlen hH hl2
    gi_wp2
    refine ⟨Turn.refl _ _, fun w5 hT5 => ?_⟩
    have hgl2 := (hH _ hl2).1
    have j1 := hT5.box i1 (by omega)
    have j2 := hT5.box i2 (by omega)
    have c4 := j1.cell 0
    have c5 := j2.cell 0
    have z4 := j1.frozen 0
    have z5 := j2.frozen 0
    simp only [List.getElem?_toArray, List.getElem?_cons_zero] at c4 c5
    have hmin : (if x < dipOf pre then x else dipOf pre) = dipOf (pre ++ [x]) := by
      rw [dipOf_snoc]
      split <;> omega
    have hs5 := hT5.size
    gi_wp2
    have n4 : ¬(Rd (w.heap.size + 1) ∨ H (w.heap.size + 1)) := fun hx => by
      rcases hx with hx | hx
      · exact (R3 _ hx).2.1 rfl
      · have := (hH _ hx).1; omega
    have n5 : ¬(Rd (w.heap.size + 1 + 1) ∨ H (w.heap.size + 1 + 1)) := fun hx => by
      rcases hx with hx | hx
      · exact (R3 _ hx).2.2 rfl
      · have := (hH _ hx).1; omega
    exact (show roundEnds _ _ _ _ _ .normal _ _ from ⟨(Turn.setCell _ _ _ n4).trans (Turn.setCell _ _ _ n5), ((j1.setCell _).cast rfl).setOther (by simp) _, ((j2.setOther (by simp) _).setCell _).cast (by rw [lastOf_snoc]; rfl),
      ((i3.trans (hT5.below fun k hk => ⟨by omega, fun hx => by omega⟩)).setCell (by simp) _).setCell (by simp; omega) _, by simp [World.setCell]; omega⟩)
  case hdone =>
    rintro H xs A rfl ⟨i1, i2, i3, i4⟩ hH hHD hD
    have c4 := i1.cell 0
    have c5 := i2.cell 0
    have z4 := i1.frozen 0
    have z5 := i2.frozen 0
    simp only [List.getElem?_toArray, List.getElem?_cons_zero] at c4 c5
    go_upto_region 7 with (fail)
    go_region
    have e1 : Box ((A.setCell ⟨w.heap.size + 1, 0, none⟩ (.int .i64 (dipOf (p.pm bs)))).setCell ⟨w.heap.size + 1 + 1, 0, none⟩ (.int .i64 (lastOf (p.pm bs)))).drew (w.heap.size + 1) #[.int .i64 (dipOf (p.pm bs))] := ((i1.setCell _).cast rfl).setOther (p := ⟨w.heap.size + 1 + 1, 0, none⟩) (by simp) _
    have e2 : Box ((A.setCell ⟨w.heap.size + 1, 0, none⟩ (.int .i64 (dipOf (p.pm bs)))).setCell ⟨w.heap.size + 1 + 1, 0, none⟩ (.int .i64 (lastOf (p.pm bs)))).drew (w.heap.size + 1 + 1) #[.int .i64 (lastOf (p.pm bs))] := ((i2.setOther (p := ⟨w.heap.size + 1, 0, none⟩) (by simp) _).setCell _).cast rfl
    have e3 : ((A.setCell ⟨w.heap.size + 1, 0, none⟩ (.int .i64 (dipOf (p.pm bs)))).setCell ⟨w.heap.size + 1 + 1, 0, none⟩ (.int .i64 (lastOf (p.pm bs)))).drew.heap[w2.heap.size]? = some (.deferred (some [])) :=
      (Below.heap_setCell _ _ _ _ (by simp; omega)).trans ((Below.heap_setCell _ _ _ _ (by simp; omega)).trans hD)
    have e4 : Below w.heap.size w ((A.setCell ⟨w.heap.size + 1, 0, none⟩ (.int .i64 (dipOf (p.pm bs)))).setCell ⟨w.heap.size + 1 + 1, 0, none⟩ (.int .i64 (lastOf (p.pm bs)))).drew := ((i3.setCell (by simp) _).setCell (by simp; omega) _).drew
    generalize ((A.setCell ⟨w.heap.size + 1, 0, none⟩ (.int .i64 (dipOf (p.pm bs)))).setCell ⟨w.heap.size + 1 + 1, 0, none⟩ (.int .i64 (lastOf (p.pm bs)))).drew = A' at e1 e2 e3 e4 ⊢
    go_wp2
    refine ⟨by simp, .inl ⟨_, _, rfl, run_takeDeferred e3, ?_⟩⟩
    have hT : Turn (fun k => k = w2.heap.size) A' (A'.putObj w2.heap.size (.deferred none)) := Turn.putObj _ _ rfl
    refine ⟨_, results_cells2tmp rfl rfl rfl rfl (hT.box e1 (by omega)) (hT.box e2 (by omega)), rfl, e4.trans (hT.below fun k hk => ⟨by have := e4.size; omega, by omega⟩)⟩
end Go.Proofs.Ytiiljecocajdpaa
/- The walks of dip and total at any path: the program's; what must come of the chapters' example. -/
namespace Go.Proofs.Ytiiljecocajdpaa
open Go.RowKit

def Pb.dip (p : Pb) (bs : List Nat) : Int := if p.pathChk bs != 0 then 0 else dipOf (p.pm bs)
def Pb.tot (p : Pb) (bs : List Nat) : Int := if p.pathChk bs != 0 then 0 else lastOf (p.pm bs)
theorem score_Both_bad (p : Pb) (a : Option Addr) (cap : Nat) (hp : p.Ok) (bs : List Nat) (ab : Option Addr) (cb : Nat) (hbl : (bs.length : Int) ≤ 9223372036854775807) (hc : p.pathChk bs ≠ 0) (w : World) (hw : Bytes w a p.B) (hby : Bytes w ab bs) :
    Pure Try.prog 46 #[.agg (p.cells (.slice a p.B.length cap)), .slice ab bs.length cb] w (.tuple #[.int .i64 0, .int .i64 0, .int .i64 (p.pathChk bs)]) := by
  have hz : (p.pathChk bs != 0) = true := by simpa using hc
  go_enter Try.func46, Try.ntmps46
  go_upto_region 1 with (fail)
  refine name3 ?_
  intro w0 b2 b4 b5 B0
  obtain ⟨fk, fr, flev, fl, fwin, fcode, ftable, fall⟩ := b2.prob hp
  clear fk fr flev fl fwin fcode ftable
  go_wp2_with ((with_reducible apply ld); rfl; (with_reducible assumption); (simp only [List.set_cons_zero, List.set_cons_succ]; rfl))
  refine (score_both p a cap hp bs ab cb hbl _ (hw.kept B0) (hby.kept B0)).mono ?_
  rintro e w1 ⟨rfl, B1⟩
  clear fall
  have i1 := b4.kept B1
  have i2 := b5.kept B1
  have c4 := i1.cell 0
  have c5 := i2.cell 0
  have z4 := i1.frozen 0
  have z5 := i2.frozen 0
  simp only [List.getElem?_toArray, List.getElem?_cons_zero] at c4 c5
  go_wp2
  refine bodyPost_ret (results_cells2tmp rfl rfl rfl rfl (((i1.setCell _).cast rfl).setOther (by simp) _) (((i2.setOther (by simp) _).setCell _).cast rfl)) rfl ?_
  exact ⟨rfl, ((bOn B0 B1).setCell (by simp) _).setCell (by simp; omega) _⟩
theorem score_BothG (p : Pb) (a : Option Addr) (cap : Nat) (hp : p.Ok) (hcap : p.B.length ≤ cap) (bs : List Nat) (ab : Option Addr) (cb : Nat) (hbl : (bs.length : Int) ≤ 9223372036854775807) (w : World) (hw : Bytes w a p.B) (hby : Bytes w ab bs) :
    Pure Try.prog 46 #[.agg (p.cells (.slice a p.B.length cap)), .slice ab bs.length cb] w (.tuple #[.int .i64 (p.dip bs), .int .i64 (p.tot bs), .int .i64 (p.pathChk bs)]) := by
  unfold Pb.dip Pb.tot
  by_cases hc : p.pathChk bs = 0
  · rw [if_neg (by simp [hc]), if_neg (by simp [hc]), hc]
    obtain ⟨hch, _⟩ := Pb.pathChk_ok hc
    obtain ⟨⟨k1, k2⟩, l1, l2, cr, hwin, _⟩ := probChk_ok hch
    have hne : 0 < p.B.length := by
      have h1 : 3 ≤ p.N := by unfold Pb.N; omega
      rcases cr with h | h <;> rw [h] at hwin <;> omega
    obtain ⟨g, o, rfl, _⟩ := hw.cell 0 hne
    exact score_Both p g o cap hp hcap bs ab cb hbl hc w hw hby
  · rw [if_pos (by simpa using hc), if_pos (by simpa using hc)]
    exact score_Both_bad p a cap hp bs ab cb hbl hc w hw hby
theorem score_Dip (p : Pb) (a : Option Addr) (cap : Nat) (hp : p.Ok) (hcap : p.B.length ≤ cap) (bs : List Nat) (ab : Option Addr) (cb : Nat) (hbl : (bs.length : Int) ≤ 9223372036854775807) (w : World) (hw : Bytes w a p.B) (hby : Bytes w ab bs) :
    Pure Try.prog 55 #[.agg (p.cells (.slice a p.B.length cap)), .slice ab bs.length cb] w (.tuple #[.int .i64 (p.dip bs), .int .i64 (p.pathChk bs)]) := by
  go_enter Try.func55, Try.ntmps55
  go_upto_region 1 with (fail)
  refine name1 ?_
  intro w0 b2 B0
  obtain ⟨fk, fr, flev, fl, fwin, fcode, ftable, fall⟩ := b2.prob hp
  clear fk fr flev fl fwin fcode ftable
  go_wp2_with ((with_reducible apply ld); rfl; (with_reducible assumption); (simp only [List.set_cons_zero, List.set_cons_succ]; rfl))
  refine (score_BothG p a cap hp hcap bs ab cb hbl _ (hw.kept B0) (hby.kept B0)).mono ?_
  rintro e w1 ⟨rfl, B1⟩
  go_wp2
  go_ret2
  exact ⟨rfl, bOn B0 B1⟩
theorem score_Total (p : Pb) (a : Option Addr) (cap : Nat) (hp : p.Ok) (hcap : p.B.length ≤ cap) (bs : List Nat) (ab : Option Addr) (cb : Nat) (hbl : (bs.length : Int) ≤ 9223372036854775807) (w : World) (hw : Bytes w a p.B) (hby : Bytes w ab bs) :
    Pure Try.prog 80 #[.agg (p.cells (.slice a p.B.length cap)), .slice ab bs.length cb] w (.tuple #[.int .i64 (p.tot bs), .int .i64 (p.pathChk bs)]) := by
  go_enter Try.func80, Try.ntmps80
  go_upto_region 1 with (fail)
  refine name1 ?_
  intro w0 b2 B0
  obtain ⟨fk, fr, flev, fl, fwin, fcode, ftable, fall⟩ := b2.prob hp
  clear fk fr flev fl fwin fcode ftable
  go_wp2_with ((with_reducible apply ld); rfl; (with_reducible assumption); (simp only [List.set_cons_zero, List.set_cons_succ]; rfl))
  refine (score_BothG p a cap hp hcap bs ab cb hbl _ (hw.kept B0) (hby.kept B0)).mono ?_
  rintro e w1 ⟨rfl, B1⟩
  go_wp2
  go_ret2
  exact ⟨rfl, bOn B0 B1⟩
theorem plain_one : plainPb.pathChk [1] = 0 ∧ plainPb.dip [1] = 0 ∧ plainPb.tot [1] = 6 := by
  refine ⟨by kernel_rfl, by kernel_rfl, by kernel_rfl⟩
theorem plain_zero : plainPb.pathChk [0] = 0 ∧ plainPb.dip [0] = -24 ∧ plainPb.tot [0] = -24 := by
  refine ⟨by kernel_rfl, by kernel_rfl, by kernel_rfl⟩
theorem law11_num (e : Int) (w : World) : Pure Try.prog 28 #[.int .i64 e] w (.int .i64 e) := by
  go_enter Try.func28, Try.ntmps28
  go_wp2
  go_ret
  exact ⟨rfl, Below.refl _ _⟩
theorem law11_knows (w : World) : Pure Try.prog 32 #[] w (.bool true) := by
  go_enter Try.func32, Try.ntmps32
  go_wp2_with fail
  refine (law11_Plain _).mono ?_
  rintro e w1 ⟨⟨g, rfl, hB, _⟩, B1⟩
  go_wp2_with fail
  have hb1 : Bytes (w1.alloc (.cells #[.int .u8 1] 5)) (some ⟨w1.heap.size, 0, none⟩) [1] := Box.bytes (Box.new w1 _ _) (by decide)
  have h1 := score_BothG plainPb (some ⟨g, 0, none⟩) 6 plainPb_ok (by decide) [1] (some ⟨w1.heap.size, 0, none⟩) 1 (by decide) _ (hB.kept ((Below.refl _ w1).alloc (Nat.le_refl _) (.cells #[.int .u8 1] 5))) hb1
  rw [plain_one.1, plain_one.2.1, plain_one.2.2] at h1
  refine h1.mono ?_
  rintro e w2 ⟨rfl, B2⟩
  have B20 : Below w.heap.size w w2 := B1.trans ((((Below.refl _ w1).alloc (Nat.le_refl _) _).trans (B2.mono (by simp))).mono B1.size)
  go_wp2_with fail
  refine (law11_Plain _).mono ?_
  rintro e w3 ⟨⟨g3, rfl, hB3, _⟩, B3⟩
  go_wp2_with fail
  have hb3 : Bytes (w3.alloc (.cells #[.int .u8 0] 5)) (some ⟨w3.heap.size, 0, none⟩) [0] := Box.bytes (Box.new w3 _ _) (by decide)
  have h3 := score_BothG plainPb (some ⟨g3, 0, none⟩) 6 plainPb_ok (by decide) [0] (some ⟨w3.heap.size, 0, none⟩) 1 (by decide) _ (hB3.kept ((Below.refl _ w3).alloc (Nat.le_refl _) (.cells #[.int .u8 0] 5))) hb3
  rw [plain_zero.1, plain_zero.2.1, plain_zero.2.2] at h3
  refine h3.mono ?_
  rintro e w4 ⟨rfl, B4⟩
  have B30 := bOn B20 B3
  have B40 : Below w.heap.size w w4 := B30.trans ((((Below.refl _ w3).alloc (Nat.le_refl _) _).trans (B4.mono (by simp))).mono B30.size)
  go_wp2_with fail
  refine (law11_num 0 _).mono ?_
  rintro e w5 ⟨rfl, B5⟩
  go_wp2_with fail
  refine (law11_num 0 _).mono ?_
  rintro e w6 ⟨rfl, B6⟩
  go_wp2
  go_ret
  exact ⟨rfl, bOn (bOn B40 B5) B6⟩
end Go.Proofs.Ytiiljecocajdpaa
