/- The walk of the wrong places of a path: a loop in the round of a range over the iterator. -/
import Derived.Test.YtiiljecocajdpaaDip2
import Derived.LoopIn
namespace Go.Proofs.Ytiiljecocajdpaa
open Go.RowKit Go.Shelf
attribute [local go_sem] Oper.semAt_some

/-- The hard decision of a level. -/
def Pb.hard (p : Pb) (i : Nat) : Nat := if p.T.lev - 1 < 2 * (p.B.getD i 0 : Int) then 1 else 0
/-- In how many of the first places a step's symbols are wrong. -/
def Pb.errTo (p : Pb) (d v : Nat) : Nat → Int
  | 0 => 0
  | k + 1 => p.errTo d v k + if p.hard (d * p.C.R.toNat + k) = p.C.y v k then 0 else 1
def Pb.errs (p : Pb) (pre : List p.Elem) : Int := pre.foldl (fun m x => m + p.errTo x.1.1 x.1.2 p.C.R.toNat) 0
theorem Pb.errs_snoc (p : Pb) (pre : List p.Elem) (x : p.Elem) : p.errs (pre ++ [x]) = p.errs pre + p.errTo x.1.1 x.1.2 p.C.R.toNat := by simp [Pb.errs]
def Pb.errors (p : Pb) (bs : List Nat) : Int := if p.pathChk bs != 0 then 0 else p.errs (p.pathL bs)
theorem Pb.errTo_bd (p : Pb) (d v : Nat) : ∀ k : Nat, 0 ≤ p.errTo d v k ∧ p.errTo d v k ≤ k
  | 0 => by simp [Pb.errTo]
  | k + 1 => by
    have := p.errTo_bd d v k
    unfold Pb.errTo
    split <;> omega
theorem foldl_nn {α : Type} {f : α → Int} {c : Int} (h : ∀ x, 0 ≤ f x ∧ f x ≤ c) : ∀ (l : List α) (a : Int), a ≤ l.foldl (fun m x => m + f x) a ∧ l.foldl (fun m x => m + f x) a ≤ a + c * l.length
  | [], a => by simp
  | x :: l, a => by
    have h1 := foldl_nn h l (a + f x)
    have h2 := h x
    rw [List.foldl_cons, List.length_cons]
    have h3 : c * ((l.length + 1 : Nat) : Int) = c * l.length + c := by push_cast; rw [Int.mul_add, Int.mul_one]
    rw [h3]
    omega
theorem Pb.errs_bd (p : Pb) (h : p.C.R ≤ 3) (pre : List p.Elem) : 0 ≤ p.errs pre ∧ p.errs pre ≤ 3 * pre.length := by
  have := foldl_nn (f := fun x : p.Elem => p.errTo x.1.1 x.1.2 p.C.R.toNat) (c := 3) (fun x => by have := p.errTo_bd x.1.1 x.1.2 p.C.R.toNat; omega) pre 0
  unfold Pb.errs
  omega
theorem er_ne {g a b c : Nat} (h : g < a) (h1 : a ≤ b) (h2 : b ≤ c) : g ≠ c := by omega
theorem er_ne2 {g a b : Nat} (h : a < b) (h1 : b ≤ g) : g ≠ a := by omega
theorem er_lt {a b n : Nat} (h : a + b < n) : (a : Int) + b < (n : Int) := by omega
theorem er_dec {c m : Nat} (h : c < m) : decide ((c : Int) < (m : Int)) = true ∧ (c : Int) < (m : Int) := by constructor; (simp; omega); omega
theorem er_meas {c m : Nat} (h : c < m) : m - (intOf (.int .i64 ((c : Int) + 1))).toNat < m - (intOf (.int .i64 (c : Int))).toNat := by simp only [intOf]; omega
theorem er_end {c m : Nat} (h : ¬ c < m) (h2 : c ≤ m) : c = m := by omega
theorem err_small {x y : Int} (h0 : 0 ≤ x) (h1 : x ≤ 4000) (h2 : 0 ≤ y) (h3 : y ≤ 3) : wrap64 (x + y + 1) = x + y + 1 := by unfold wrap64; omega
theorem err_ix {d k r n N : Nat} (h : d < N) (hk : k < r) (hr : r ≤ 3) (hN : N ≤ 1055) (hn : n = N * r) : d * r + k < n ∧ d * r ≤ 3165 := by
  subst hn
  have h1 : d * r + r ≤ N * r := by rw [← Nat.succ_mul]; exact Nat.mul_le_mul_right _ h
  have h2 : d * r ≤ 1055 * 3 := Nat.mul_le_mul (by omega) hr
  omega
theorem err_w1 {i k : Nat} (h : i ≤ 3165) (hk : k ≤ 3) : wrap64 ((i : Int) + k) = ((i + k : Nat) : Int) ∧ wrap64 (i : Int) = (i : Int) := by unfold wrap64; omega
theorem err_w2 {b : Nat} (h : b < 256) : wrap64 (2 * (b : Int)) = 2 * (b : Int) := by unfold wrap64; omega
theorem err_w3 {l : Int} (h : 2 ≤ l) (h2 : l ≤ 16) : wrap64 (l - 1) = l - 1 := by unfold wrap64; omega
set_option maxRecDepth 5000 in
set_option maxHeartbeats 1000000 in
theorem score_Errors_ok (p : Pb) (g o cap : Nat) (hp : p.Ok) (hcap : p.B.length ≤ cap) (bs : List Nat) (ab : Option Addr) (cb : Nat) (hbl : (bs.length : Int) ≤ 9223372036854775807) (hc : p.pathChk bs = 0) (w : World) (hw : Bytes w (some ⟨g, o, none⟩) p.B) (hby : Bytes w ab bs) :
    Pure Try.prog 54 #[.agg (p.cells (.slice (some ⟨g, o, none⟩) p.B.length cap)), .slice ab bs.length cb] w (.tuple #[.int .i64 (p.errs (p.pathL bs)), .int .i64 0]) := by
  obtain ⟨hch, hpath⟩ := Pb.pathChk_ok hc
  refine (callsIn_wide (n := 3)).1 (callsIn_of_wp_marks Try.func54 rfl trivial ?_ rfl)
  simp only [Try.ntmps54, List.size_toArray, List.length_cons, List.length_nil, Nat.reduceAdd, Nat.reduceSub, Array.replicate_succ, Array.replicate_zero, List.push_toArray, List.append_toArray, List.nil_append, List.cons_append]
  refine wpIn_wide.2 ?_
  go_upto_region 1 with (fail)
  refine name1 ?_
  intro w0 b2 B0
  obtain ⟨fk, fr, flev, fl, fwin, fcode, ftable, fall⟩ := b2.prob hp
  clear fk fr flev fl fwin fcode ftable
  go_wp2_with ((with_reducible apply ld); rfl; (with_reducible assumption); (simp only [List.set_cons_zero, List.set_cons_succ]; rfl))
  refine (score_both p (some ⟨g, o, none⟩) cap hp bs ab cb hbl _ (hw.kept B0) (hby.kept B0)).mono ?_
  rintro e w1 ⟨rfl, B1⟩
  rw [hc]
  clear fall
  go_upto_region 5 with (fail)
  refine name1 ?_
  intro w7 b7 B7
  have hs7 := b7.lt
  have B70 := bOn (bOn B0 B1) B7
  obtain ⟨fk, fr, flev, fl, fwin, fcode, ftable, fall⟩ := ((b2.kept B1).kept B7).prob hp
  clear fk fr flev fl fwin fcode ftable
  go_wp2_with ((with_reducible apply ld); rfl; (with_reducible assumption); (simp only [List.set_cons_zero, List.set_cons_succ]; rfl))
  refine (score_path _ p ab bs.length cb w7).mono ?_
  rintro e w2 ⟨⟨q1, q2, rfl, z1, z2, hq1, hq2⟩, B2⟩
  clear fall
  go_wp2_with fail
  have hs1 := B1.size
  have hs2 := B2.size
  have hsw := B0.size
  have hlq1 := z1.lt
  have hlq2 := z2.lt
  have hbl0 := b2.lt
  obtain ⟨Rd, hRd⟩ : ∃ Rd : Nat → Prop, Rd = fun k => k < w1.heap.size ∨ k = q1 ∨ k = q2 := ⟨_, rfl⟩
  have Rold : ∀ k, k < w1.heap.size → Rd k := fun k h => by rw [hRd]; exact .inl h
  have R3 : ∀ k, Rd k → k < w2.heap.size ∧ k ≠ w1.heap.size := fun k h => by
    rw [hRd] at h
    rcases h with h | rfl | rfl <;> omega
  have b22 : Box w2 w.heap.size (p.cells (.slice (some ⟨g, o, none⟩) p.B.length cap)) := ((b2.kept B1).kept B7).kept B2
  have b72 := b7.kept B2
  have hw2 := (hw.kept (bOn B70 B2))
  have hby2 := (hby.kept (bOn B70 B2))
  have B20 := bOn B70 B2
  have hbl2 : ∀ b o s, ab = some ⟨b, o, s⟩ → b < w.heap.size := fun b o' s he => by
    obtain ⟨⟨k1, k2⟩, l1, l2, _⟩ := probChk_ok hch
    have hne : 0 < bs.length := by have := hpath.len; omega
    obtain ⟨b', o2, ha, hc⟩ := hby.cell 0 hne
    rw [he] at ha
    obtain ⟨rfl, _⟩ : b = b' ∧ o' = o2 := by simp at ha; exact ⟨ha.1, ha.2.1⟩
    exact lt_of_cell hc
  refine (wpIn_wide (n := 3)).1 (wp_rangeSeq (n := 3) (gf := 100) (lb := #[.pointer (some ⟨q1, 0, none⟩), .pointer (some ⟨q2, 0, none⟩)]) rfl (EnterF.out (P := Try.prog)) (encs := p.enc) (S := fun xs => xs = p.pathL bs) (N := p.N.toNat) (Rd := Rd) ?hseq (fun k hk => (R3 k hk).1) (fun x => rfl)
    (fun _ pre A => Box A w1.heap.size #[.int .i64 (p.errs pre)] ∧ Below w1.heap.size w1 A ∧ w2.heap.size ≤ A.heap.size) ?hI ⟨b72, bOn B7 B2, Nat.le_refl _⟩ ?hround ?hdone)
  case hseq =>
    intro A hA
    exact path_seq p hp hch bs hpath _ ab cb q1 q2 Rd A _ (z1.kept hA) (z2.kept hA) (hby2.kept hA) (by rw [hRd]; exact .inr (.inl rfl)) (by rw [hRd]; exact .inr (.inr rfl)) (fun b o s he => Rold _ (by have := hbl2 b o s he; omega))
  case hI =>
    rintro H H' s A A' ⟨i1, i4, i5⟩ hT hH hH'
    exact ⟨hT.box i1 (fun hx => by have := hH _ hx; omega), i4.trans (hT.below fun k hk => ⟨by omega, fun hx => by have := hH _ hx; omega⟩), Nat.le_trans i5 hT.size⟩
  case hround =>
    rintro l2 H pre x A ⟨i1, i4, i5⟩ hlen hH hl2
    have hbz := Box.new A #[.int .u8 0, .int .u8 0, .int .u8 0] 97
    have hfl : Flat (ya (p.C.y x.1.2)) := ya_flat _
    simp only [Pb.enc]
    gi_wp2_with ((with_reducible apply stIn); exact fn_round _; rfl; rfl; exact hbz; rfl; rfl; exact hfl; intro w4 b9 B4 ho4 hs4)
    have B4A : Below A.heap.size A w4 := ((Below.refl _ A).alloc (Nat.le_refl _) _).trans B4
    refine ⟨Turn.ofBelow B4A, fun w5 hT5 => ?_⟩
    have hs4' := B4A.size
    have hs5 := hT5.size
    have hlA : l2 < A.heap.size := (hH _ hl2).2
    have hgl2 := (hH _ hl2).1
    have i15 : Box w5 w1.heap.size #[.int .i64 (p.errs pre)] := hT5.box (i1.kept B4A) (by omega)
    have b95 : Box w5 A.heap.size (ya (p.C.y x.1.2)) := hT5.box b9 (by omega)
    have B15 : Below w1.heap.size w1 w5 := (i4.trans (B4A.mono (by omega))).trans (hT5.below fun k hk => ⟨by omega, by omega⟩)
    have b25 := (b2.kept B1).kept B15
    have hw5 := ((hw.kept B0).kept B1).kept B15
    obtain ⟨⟨k1, k2⟩, l1, l2', cr, hwin, ⟨v1, v2⟩, hlev, _⟩ := probChk_ok hch
    obtain ⟨fk, fr, flev, fl, fwin, fcode, ftable, fall⟩ := b25.prob hp
    clear fk flev fl fwin fcode ftable fall
    have hN : p.N ≤ 1055 := by unfold Pb.N; omega
    obtain ⟨r, hr⟩ : ∃ r : Nat, p.C.R = r := ⟨p.C.R.toNat, by omega⟩
    have hrn : p.C.R.toNat = r := by omega
    have hr3 : r ≤ 3 := by omega
    have hBl : p.B.length = p.N.toNat * r := by
      have h1 : p.N = (p.N.toNat : Int) := by unfold Pb.N; omega
      rw [hr, h1] at hwin
      exact_mod_cast hwin
    have hpe := p.errs_bd (by omega) pre
    have hpl : pre.length ≤ 1055 := by omega
    have hixs := fun k hk => err_ix (d := x.1.1) (k := k) (r := r) (n := p.B.length) (N := p.N.toNat) x.2 hk hr3 (by omega) hBl
    obtain ⟨i0, hi0⟩ : ∃ i0 : Nat, x.1.1 * r = i0 := ⟨_, rfl⟩
    have e1 : (x.1.1 : Int) * (r : Int) = (i0 : Int) := by rw [← hi0]; push_cast; rfl
    rw [hi0] at hixs
    have hi3 : i0 ≤ 3165 := by have := (hixs 0 (by omega)).2; omega
    have hes := p.errs_snoc pre x
    have HES := Lib.hid hes
    have HPE := Lib.hid hpe
    have HPL := Lib.hid hpl
    have HRN := Lib.hid hrn
    have HI0 := Lib.hid hi0
    have HR := Lib.hid hr
    rw [hr] at fr
    clear hwin cr hr hrn hi0 hBl hes hpe hpl hN
    gi_wp2_with fail
    gi_loopw [26] (fun i wr => ∃ k : Nat, k ≤ r ∧ i = .int .i64 k ∧ Box wr w1.heap.size #[.int .i64 (p.errs pre + p.errTo x.1.1 x.1.2 k)] ∧ Turn (fun k => k = w1.heap.size) w5 wr) (fun i _ => r - (intOf i).toNat)
    case atStart => exact ⟨0, by omega, rfl, by simpa [Pb.errTo] using i15, Turn.refl _ _⟩
    case round =>
      obtain ⟨k, hk, rfl, J1, JT⟩ := hrel
      by_cases hkr : k < r
      · have b2r := JT.box b25 (er_ne hbl0 hs1 (Nat.le_refl _))
        have b9r := JT.box b95 (er_ne2 (Nat.lt_of_lt_of_le hs7 hs2) i5)
        obtain ⟨fk, fr', flev, fl, fwin, fcode, ftable, fall⟩ := b2r.prob hp
        clear fk fl fcode ftable fall
        rw [HR.out] at fr'
        obtain ⟨hix, _⟩ := hixs k hkr
        obtain ⟨gb, ob, hgo, hcell⟩ := hw5.cell (i0 + k) hix
        obtain ⟨rfl, rfl⟩ : g = gb ∧ o = ob := by simpa using hgo
        have hgl := lt_of_cell hcell
        have hglw : g < w.heap.size := by
          obtain ⟨gb, ob, hgo, hcell⟩ := hw.cell (i0 + k) hix
          obtain ⟨rfl, rfl⟩ : g = gb ∧ o = ob := by simpa using hgo
          exact lt_of_cell hcell
        have hcell' := (World.cell?_of_block (JT.block _ hgl (er_ne hglw hsw hs1))).trans hcell
        obtain ⟨bv, hbv⟩ : ∃ bv : Nat, bv = p.B[i0 + k] := ⟨_, rfl⟩
        have hbd : p.B.getD (i0 + k) 0 = bv := by rw [hbv, List.getD_eq_getElem?_getD, List.getElem?_eq_getElem hix]; rfl
        have hbl : bv < 256 := by rw [hbv]; exact hp.b _ (List.getElem_mem hix)
        rw [← hbv] at hcell'
        have cy := (b9r.cell k).trans (ya_get _ (Nat.lt_of_lt_of_le hkr hr3))
        have c7 := J1.cell 0
        have z7 := J1.frozen 0
        simp only [List.getElem?_toArray, List.getElem?_cons_zero] at c7
        obtain ⟨yk, hyk⟩ : ∃ yk : Nat, yk = p.C.y x.1.2 k := ⟨_, rfl⟩
        rw [← hyk] at cy
        have hix' : (i0 : Int) + k < p.B.length := er_lt hix
        have het : p.errTo x.1.1 x.1.2 (k + 1) = p.errTo x.1.1 x.1.2 k + if (if p.T.lev - 1 < 2 * (bv : Int) then 1 else 0) = yk then 0 else 1 := by
          show p.errTo x.1.1 x.1.2 k + (if p.hard (x.1.1 * p.C.R.toNat + k) = p.C.y x.1.2 k then 0 else 1) = _
          unfold Pb.hard
          rw [HRN.out, HI0.out, hbd, hyk]
        have het2 := p.errTo_bd x.1.1 x.1.2 k
        obtain ⟨ek, hek⟩ : ∃ ek, ek = p.errTo x.1.1 x.1.2 k := ⟨_, rfl⟩
        have hep := HPE.out
        have hpl := HPL.out
        obtain ⟨ep, hepp⟩ : ∃ ep, ep = p.errs pre := ⟨_, rfl⟩
        rw [← hek] at het het2 J1 c7
        rw [← hepp] at hep J1 c7
        have HEPP := Lib.hid hepp
        have HEK := Lib.hid hek
        have HET := Lib.hid het
        obtain ⟨hk2, hk3⟩ := er_dec hkr
        have q1' := KeptW.cell fwin
        have q2' := KeptW.cell fr'
        have q3' := KeptW.cell flev
        have q4' := KeptW.cell hcell'
        clear hgo hbv hyk hek hepp het hbd fwin fr' flev hixs
        clear hs1 hs2 hsw hlq1 hlq2 hbl0 hs7 hq1 hq2 hcap hlen hs4' hs5 hlA hgl2 i5 k1 k2 l1 l2'
        gi_wp2_with fail
        refine wpIn_region_det_tail 17 (by kernel_rfl) (by kernel_rfl) rfl ?_
        simp only [List.take_succ_cons, List.take_zero, List.drop_succ_cons, List.drop_zero]
        repeat first
          | ((refine det_plain rfl ?_); ((with_reducible apply q_ld); rfl; (with_reducible assumption); (simp only [List.set_cons_zero, List.set_cons_succ]; rfl)); (refine wpQuiet_nil ?_))
          | ((refine det_plain rfl ?_); (go_big_quiet_step (fail)); (refine wpQuiet_nil ?_))
        refine wpDet_nil ?_
        intro w6 B6
        have J6 := J1.kept B6
        have JT6 := JT.trans (Turn.ofBelow (H := fun k => k = w1.heap.size) B6)
        have c76 := J6.cell 0
        have z76 := J6.frozen 0
        have cy6 := (B6.cell (lt_of_cell cy)).trans cy
        simp only [List.getElem?_toArray, List.getElem?_cons_zero] at c76
        clear q1' q2' q3' q4' cy c7 z7 J1 JT b2r b9r hcell hcell'
        have het3 := HET.out
        by_cases hgt : p.T.lev - 1 < 2 * (bv : Int)
        · rw [if_pos hgt] at het3
          have hgd : decide (p.T.lev - 1 < 2 * (bv : Int)) = true := decide_eq_true hgt
          by_cases hy : 1 = yk
          · skip
            have hne : ((1 : Int) != (yk : Int)) = false := by rw [← hy]; rfl
            rw [if_pos hy] at het3
            have HT3 := Lib.hid het3
            clear het3 hy
            gi_wp2
            go_roundw
            case measure => exact er_meas hkr
            case rel => exact ⟨k + 1, hkr, rfl, by rw [← HEPP.out, HT3.out, Int.add_zero]; exact J6, JT6⟩
          · skip
            have hne : ((1 : Int) != (yk : Int)) = true := by simp; omega
            rw [if_neg hy] at het3
            have HT3 := Lib.hid het3
            clear het3 hy
            gi_wp2
            go_roundw
            case measure => exact er_meas hkr
            case rel => exact ⟨k + 1, hkr, rfl, (J6.setCell _).cast (by rw [← HEPP.out, HT3.out, ← Int.add_assoc]; rfl), JT6.trans (Turn.setCell _ _ _ rfl)⟩
        · rw [if_neg hgt] at het3
          have hgd : decide (p.T.lev - 1 < 2 * (bv : Int)) = false := decide_eq_false hgt
          by_cases hy : 0 = yk
          · skip
            have hne : ((0 : Int) != (yk : Int)) = false := by rw [← hy]; rfl
            rw [if_pos hy] at het3
            have HT3 := Lib.hid het3
            clear het3 hy
            gi_wp2
            go_roundw
            case measure => exact er_meas hkr
            case rel => exact ⟨k + 1, hkr, rfl, by rw [← HEPP.out, HT3.out, Int.add_zero]; exact J6, JT6⟩
          · skip
            have hne : ((0 : Int) != (yk : Int)) = true := by simp; omega
            rw [if_neg hy] at het3
            have HT3 := Lib.hid het3
            clear het3 hy
            gi_wp2
            go_roundw
            case measure => exact er_meas hkr
            case rel => exact ⟨k + 1, hkr, rfl, (J6.setCell _).cast (by rw [← HEPP.out, HT3.out, ← Int.add_assoc]; rfl), JT6.trans (Turn.setCell _ _ _ rfl)⟩
      · obtain rfl := er_end hkr hk
        have hkd : decide ((k : Int) < (k : Int)) = false := by simp
        have hes := HES.out
        rw [HRN.out] at hes
        rw [← hes] at J1
        have n1 : ∀ j, j < A.heap.size → j = w1.heap.size → ¬(Rd j ∨ H j) := fun j _ hj hx => by
          rcases hx with hx | hx
          · exact (R3 _ hx).2 hj
          · have := (hH _ hx).1; omega
        have KK : Kept (fun j => Rd j ∨ H j) w5 wr := JT.mono fun j _ hj hx => by
          rcases hx with hx | hx
          · exact (R3 _ hx).2 hj
          · have := (hH _ hx).1; omega
        have BB := B15.trans (JT.below fun j hj => ⟨by omega, by omega⟩)
        have hszJ := JT.size
        clear hixs hes
        gi_wp2
        exact (show roundEnds _ _ _ _ _ .normal _ _ from ⟨KK, J1, BB, by omega⟩)
  case hdone =>
    rintro H xs A rfl ⟨i1, i4, i5⟩ hH hHD hD
    have c4 := i1.cell 0
    have z4 := i1.frozen 0
    simp only [List.getElem?_toArray, List.getElem?_cons_zero] at c4
    go_wp2
    refine ⟨by simp, .inl ⟨_, _, rfl, run_takeDeferred hD, ?_⟩⟩
    have hT : Turn (fun k => k = w2.heap.size) A (A.putObj w2.heap.size (.deferred none)) := Turn.putObj _ _ rfl
    refine ⟨_, results_tmp2 rfl _ _ _, rfl, ?_⟩
    exact (bOn (bOn B0 B1) (i4.trans (hT.below fun k hk => ⟨by omega, by omega⟩)))
set_option maxRecDepth 5000 in
set_option maxHeartbeats 1000000 in
theorem score_Errors (p : Pb) (a : Option Addr) (cap : Nat) (hp : p.Ok) (hcap : p.B.length ≤ cap) (bs : List Nat) (ab : Option Addr) (cb : Nat) (hbl : (bs.length : Int) ≤ 9223372036854775807) (w : World) (hw : Bytes w a p.B) (hby : Bytes w ab bs) :
    Pure Try.prog 54 #[.agg (p.cells (.slice a p.B.length cap)), .slice ab bs.length cb] w (.tuple #[.int .i64 (p.errors bs), .int .i64 (p.pathChk bs)]) := by
  unfold Pb.errors
  by_cases hc : p.pathChk bs = 0
  · rw [if_neg (by simp [hc]), hc]
    obtain ⟨hch, _⟩ := Pb.pathChk_ok hc
    obtain ⟨⟨k1, k2⟩, l1, l2, cr, hwin, _⟩ := probChk_ok hch
    have hne : 0 < p.B.length := by
      have h1 : 3 ≤ p.N := by unfold Pb.N; omega
      rcases cr with h | h <;> rw [h] at hwin <;> omega
    obtain ⟨g, o, rfl, _⟩ := hw.cell 0 hne
    exact score_Errors_ok p g o cap hp hcap bs ab cb hbl hc w hw hby
  · rw [if_pos (by simpa using hc)]
    have hz : (p.pathChk bs != 0) = true := by simpa using hc
    go_enter Try.func54, Try.ntmps54
    go_upto_region 1 with (fail)
    refine name1 ?_
    intro w0 b2 B0
    obtain ⟨fk, fr, flev, fl, fwin, fcode, ftable, fall⟩ := b2.prob hp
    clear fk fr flev fl fwin fcode ftable
    go_wp2_with ((with_reducible apply ld); rfl; (with_reducible assumption); (simp only [List.set_cons_zero, List.set_cons_succ]; rfl))
    refine (score_both p a cap hp bs ab cb hbl _ (hw.kept B0) (hby.kept B0)).mono ?_
    rintro e w1 ⟨rfl, B1⟩
    clear fall
    go_wp2
    go_ret2
    exact ⟨rfl, bOn B0 B1⟩
end Go.Proofs.Ytiiljecocajdpaa
