import Derived.Test.YtiiljecocajdpaaLOrder
import Derived.Test.YtiiljecocajdpaaLaw01
/- Laws of the prefix metrics where one level of the window is another one. No walk. -/
namespace Go.Proofs.Ytiiljecocajdpaa
open Go.RowKit

/-- The sum of the first terms. -/
def sumTo (f : Nat → Int) : Nat → Int
  | 0 => 0
  | i + 1 => sumTo f i + f i
theorem sumTo_low {f g : Nat → Int} {s : Nat} (h : ∀ d, d ≠ s → f d = g d) : ∀ i, i ≤ s → sumTo f i = sumTo g i
  | 0, _ => rfl
  | i + 1, hi => by
    unfold sumTo
    rw [sumTo_low h i (by omega), h i (by omega)]
theorem sumTo_high {f g : Nat → Int} {s : Nat} (h : ∀ d, d ≠ s → f d = g d) : ∀ i, s < i → sumTo g i - sumTo f i = g s - f s
  | 0, hi => by omega
  | i + 1, hi => by
    unfold sumTo
    by_cases his : i = s
    · subst his
      rw [sumTo_low h i (Nat.le_refl _)]
      omega
    · have := sumTo_high h i (by omega)
      rw [h i his]
      omega
theorem Pb.psum_sum (p : Pb) (bs : List Nat) : ∀ i, i ≤ p.N.toNat → p.psum ((p.pathL bs).take i) = sumTo (fun d => p.br d (p.reg bs d)) i
  | 0, _ => rfl
  | i + 1, hi => by
    rw [Pb.pathL_take (by omega), Pb.psum_snoc, Pb.psum_sum p bs i (by omega)]
    rfl
/-- The problem with one level turned. -/
def Pb.turn (p : Pb) (k x : Nat) : Pb := { p with B := p.B.set k x }
theorem Pb.turn_len (p : Pb) (k x : Nat) : (p.turn k x).B.length = p.B.length := by simp [Pb.turn]
theorem Pb.turn_ok {p : Pb} (hp : p.Ok) (k : Nat) {x : Nat} (hx : x < 256) : (p.turn k x).Ok :=
  ⟨hp.c, hp.t, hp.l0, hp.l1, fun y hy => by
    rcases List.mem_or_eq_of_mem_set hy with h | rfl
    · exact hp.b y h
    · exact hx, by rw [Pb.turn_len]; exact hp.n⟩
theorem Pb.turn_chk {p : Pb} (h : probChk p = 0) (k : Nat) {x : Nat} (hx : (x : Int) < p.T.lev) : probChk (p.turn k x) = 0 := by
  obtain ⟨⟨k1, k2⟩, l1, l2, cr, hwin, ⟨v1, v2⟩, hlev, hcc, htt⟩ := probChk_ok h
  have e1 : (p.turn k x).badLen = false := by
    unfold Pb.badLen Pb.turn
    simp; omega
  have e2 : (p.turn k x).badWin = false := by
    have h1 := p.turn_len k x
    show (((p.turn k x).B.length : Int) != p.N * p.C.R) = false
    rw [h1, hwin]
    simp
  have e3 : (p.turn k x).B.any (p.turn k x).badLevel = false := by
    rw [List.any_eq_false]
    intro y hy
    have : (y : Int) < p.T.lev := by
      rcases List.mem_or_eq_of_mem_set hy with h | rfl
      · exact hlev y h
      · exact hx
    unfold Pb.badLevel Pb.turn
    simp; omega
  unfold probChk
  rw [e1, e2, e3]
  simp [Pb.turn, hcc, htt]
theorem Pb.turn_lv (p : Pb) {k x d : Nat} (hd : d ≠ k / p.C.R.toNat) : (p.turn k x).lv d = p.lv d := by
  show ((p.B.set k x).drop (d * p.C.R.toNat)).take p.C.R.toNat = (p.B.drop (d * p.C.R.toNat)).take p.C.R.toNat
  apply List.ext_getElem?
  intro j
  rw [List.getElem?_take, List.getElem?_take]
  by_cases hj : j < p.C.R.toNat
  · rw [if_pos hj, if_pos hj, List.getElem?_drop, List.getElem?_drop, List.getElem?_set_ne]
    rintro rfl
    apply hd
    rw [Nat.mul_comm, Nat.mul_add_div (by omega), Nat.div_eq_of_lt hj, Nat.add_zero]
  · rw [if_neg hj, if_neg hj]
theorem Pb.turn_br (p : Pb) {k x d : Nat} (hd : d ≠ k / p.C.R.toNat) (v : Nat) : (p.turn k x).br d v = p.br d v := by
  unfold Pb.br
  rw [p.turn_lv hd]
  rfl
theorem Pb.turn_reg (p : Pb) (k x : Nat) (bs : List Nat) (d : Nat) : (p.turn k x).reg bs d = p.reg bs d := by
  have hst : ∀ i, (p.turn k x).st bs i = p.st bs i := fun i => by
    induction i with
    | zero => rfl
    | succ i ih =>
      show (2 * (p.turn k x).st bs i + p.bit bs i) % 2 ^ (p.C.K.toNat - 1) = (2 * p.st bs i + p.bit bs i) % 2 ^ (p.C.K.toNat - 1)
      rw [ih]
  show (2 * (p.turn k x).st bs d + p.bit bs d).toNat = (2 * p.st bs d + p.bit bs d).toNat
  rw [hst]
theorem Pb.turn_pm (p : Pb) (k x : Nat) (bs : List Nat) :
    (∀ i, i ≤ k / p.C.R.toNat → i ≤ p.N.toNat → ((p.turn k x).pm bs)[i]? = (p.pm bs)[i]?) ∧
    ∃ δ, ∀ i u v, k / p.C.R.toNat < i → i ≤ p.N.toNat → (p.pm bs)[i]? = some u → ((p.turn k x).pm bs)[i]? = some v → v = u + δ := by
  obtain ⟨f, hf⟩ : ∃ f : Nat → Int, f = fun d => p.br d (p.reg bs d) := ⟨_, rfl⟩
  obtain ⟨g, hg⟩ : ∃ g : Nat → Int, g = fun d => (p.turn k x).br d ((p.turn k x).reg bs d) := ⟨_, rfl⟩
  have hfg : ∀ d, d ≠ k / p.C.R.toNat → f d = g d := fun d hd => by
    rw [hf, hg]
    show p.br d (p.reg bs d) = (p.turn k x).br d ((p.turn k x).reg bs d)
    rw [p.turn_reg, p.turn_br hd]
  have e1 : ∀ i, i ≤ p.N.toNat → (p.pm bs)[i]? = some (sumTo f i) := fun i hi => by
    rw [p.pm_get bs hi, p.psum_sum bs i hi, hf]
  have e2 : ∀ i, i ≤ p.N.toNat → ((p.turn k x).pm bs)[i]? = some (sumTo g i) := fun i hi => by
    rw [(p.turn k x).pm_get bs hi, (p.turn k x).psum_sum bs i hi, hg]
  refine ⟨fun i hi hn => by rw [e1 i hn, e2 i hn, sumTo_low hfg i hi], g (k / p.C.R.toNat) - f (k / p.C.R.toNat), fun i u v hi hn hu hv => ?_⟩
  rw [e1 i hn] at hu
  rw [e2 i hn] at hv
  have := sumTo_high hfg i hi
  injection hu with hu
  injection hv with hv
  omega
/-- What was lent, as a block. -/
theorem Lend.box {w : World} {B : Nat} {v : Value} {l : List Nat} (h : Lend w B v l) : ∃ g c cs, v = .slice (some ⟨g, 0, none⟩) l.length c ∧ l.length ≤ c ∧ Box w g cs ∧ (∀ j (hj : j < l.length), cs[j]? = some (.int .u8 (l[j] : Nat))) ∧ B ≤ g := by
  obtain ⟨g, c, hv, hc, ho⟩ := h
  have hl := ho.1
  rcases ho.2 with ⟨h, _⟩ | ⟨g', cap, cur, h1, h2, h3, h4, h5, h6, h7⟩
  · cases h
  obtain ⟨rfl, rfl⟩ : g = g' ∧ c = cap := by simpa using h1
  refine ⟨g, c, cur, hv, by omega, ⟨_, h3⟩, fun j hj => ?_, h2⟩
  have e1 : cur[j]? = (u8s (l ++ marks8))[j]? := by
    rw [← h7, Nat.mul_one, List.getElem?_take, if_pos (by omega), Array.getElem?_toList]
  have hj2 : j < (l ++ marks8).length := by rw [List.length_append]; omega
  rw [e1, u8s_get hj2, List.getElem_append_left hj]
theorem Box.set_bytes {w : World} {g : Nat} {cs : Array Value} {l : List Nat} (h : Box w g cs) (hc : ∀ j (hj : j < l.length), cs[j]? = some (.int .u8 (l[j] : Nat))) (hl : ∀ x ∈ l, x < 256) {k x : Nat} (hx : x < 256) :
    Bytes (w.setCell ⟨g, k, none⟩ (.int .u8 x)) (some ⟨g, 0, none⟩) (l.set k x) := by
  refine ⟨fun j hj => ⟨g, 0, rfl, ?_⟩, fun y hy => ?_⟩
  · have hj' : j < l.length := by simpa using hj
    rw [Nat.zero_add, (h.setCell _).cell, Array.getElem?_setIfInBounds]
    have hcj := hc j hj'
    have hlt := (Array.getElem?_eq_some_iff.1 hcj).1
    by_cases hkj : k = j
    · subst hkj
      rw [if_pos rfl, if_pos hlt]
      simp
    · rw [if_neg hkj, hcj]
      simp [hkj]
  · rcases List.mem_or_eq_of_mem_set hy with h | rfl
    · exact hl y h
    · exact hx
end Go.Proofs.Ytiiljecocajdpaa
/- The walk of the statement on one level that is another one. -/
namespace Go.Proofs.Ytiiljecocajdpaa
open Go.RowKit

theorem prob_small {p : Pb} (h : probChk p = 0) : p.B.length ≤ 4000 := by
  obtain ⟨⟨k1, k2⟩, l1, l2, cr, hwin, _⟩ := probChk_ok h
  have h1 : p.N ≤ 1055 := by unfold Pb.N; omega
  rcases cr with h | h <;> rw [h] at hwin <;> omega
theorem tmodN {N : Int} (h3 : 1 ≤ N) (h4 : N ≤ 4000) (d : Int) : 0 ≤ (wrap64 (d.tmod N + N)).tmod N ∧ (wrap64 (d.tmod N + N)).tmod N < N := by
  have h1 : -N < d.tmod N ∧ d.tmod N < N := by
    refine ⟨?_, Int.tmod_lt_of_pos _ (by omega)⟩
    have := Int.tmod_lt_of_pos (-d) (b := N) (by omega)
    rw [Int.neg_tmod] at this
    omega
  have h2 : wrap64 (d.tmod N + N) = d.tmod N + N := by unfold wrap64; omega
  rw [h2]
  exact ⟨Int.tmod_nonneg _ (by omega), Int.tmod_lt_of_pos _ (by omega)⟩
theorem wrap_small {x : Int} (h0 : 0 ≤ x) (h1 : x ≤ 4000 + 1) : wrap64 x = x := by unfold wrap64; omega
theorem div_small {k n r : Nat} (h : k < n) (hn : n ≤ 4000) : ((k / r : Nat) : Int) ≤ 4000 := by
  have := Nat.div_le_self k r
  omega
theorem ic0 {c M : Nat} (h : c < M + 1) : decide ((c : Int) < (M : Int) + 1) = true ∧ (c : Int) < (M : Int) + 1 := by constructor; (simp; omega); omega
theorem ic1 {c s : Nat} (h : c ≤ s) : decide ((c : Int) ≤ s) = true ∧ decide ((s : Int) < c) = false ∧ (c : Int) ≤ s ∧ ¬ (s : Int) < c := by refine ⟨by simp; omega, by simp; omega, by omega, by omega⟩
theorem ic2 {c s : Nat} (h : ¬ c ≤ s) : decide ((c : Int) ≤ s) = false ∧ decide ((s : Int) < c) = true ∧ ¬ (c : Int) ≤ s ∧ (s : Int) < c := by refine ⟨by simp; omega, by simp; omega, by omega, by omega⟩
theorem ic7 {c M : Nat} (h : c < M + 1) (h2 : M ≤ 2000) : wrap64 ((c : Int) + 1) = ((c + 1 : Nat) : Int) := by unfold wrap64; omega
theorem ic8 {c M : Nat} (h : c < M + 1) (h2 : M ≤ 2000) : M + 1 - (intOf (.int .i64 (wrap64 ((c : Int) + 1)))).toNat < M + 1 - (intOf (.int .i64 (c : Int))).toNat := by rw [ic7 h h2]; simp only [intOf]; omega
theorem ic4 {x y X Y d : Int} (h1 : y = x + d) (h2 : Y = X + d) : y - x = Y - X := by omega
theorem ic5 {c s M : Nat} (h : ¬ c ≤ s) (h2 : c < M + 1) (hw : wrap64 ((s : Int) + 1) = (s : Int) + 1) : s < c ∧ c ≤ M ∧ ∃ t : Nat, s < t ∧ t ≤ M ∧ t < M + 1 ∧ (t : Int) < (M : Int) + 1 ∧ wrap64 ((s : Int) + 1) = (t : Int) :=
  ⟨by omega, by omega, s + 1, by omega, by omega, by omega, by omega, by rw [hw]; rfl⟩
theorem ic6 {c M : Nat} (h : ¬ c < M + 1) (h2 : c ≤ M + 1) : c = M + 1 := by omega
set_option maxRecDepth 5000 in
set_option maxHeartbeats 2000000 in
theorem law11_ScoreOneLevel (p : Pb) (a : Option Addr) (cap : Nat) (hp : p.Ok) (hcap : p.B.length ≤ cap) (xs : List Nat) (ax : Option Addr) (cx : Nat) (hx63 : (xs.length : Int) ≤ 9223372036854775807)
    (n : Int) (n0 : -9223372036854775808 ≤ n) (n1 : n ≤ 9223372036854775807) (lv : Int) (v0 : 0 ≤ lv) (v1 : lv ≤ 255) (w : World) (hw : Bytes w a p.B) (hx : Bytes w ax xs) :
    Pure Try.prog 9 #[.agg (p.cells (.slice a p.B.length cap)), .slice ax xs.length cx, .int .i64 n, .int .u8 lv] w (.bool true) := by
  go_enter Try.func9, Try.ntmps9
  go_upto_region 1 with (fail)
  refine name1 ?_
  intro w0 b4 B0
  have hw0 := hw.kept B0
  obtain ⟨fk, fr, flev, fl, fwin, fcode, ftable, fall⟩ := b4.prob hp
  clear fk fr flev fl fwin fcode ftable
  go_wp2_with ((with_reducible apply ld); rfl; (with_reducible assumption); (simp only [List.set_cons_zero, List.set_cons_succ]; rfl))
  refine (ref11_Check p a cap hp _ hw0).mono ?_
  rintro e w1 ⟨rfl, B1⟩
  by_cases hc : probChk p = 0
  · rw [hc]
    clear fall
    go_wp2_with fail
    refine (law11_knows _).mono ?_
    rintro e w2 ⟨rfl, B2⟩
    have B20 := bOn (bOn B0 B1) B2
    obtain ⟨⟨k1, k2⟩, l1, l2, cr, hwin, ⟨lv1, lv2⟩, hlev, _⟩ := probChk_ok hc
    have hsm := prob_small hc
    have hne := prob_slice hc
    obtain ⟨fk, fr, flev, fl, fwin, fcode, ftable, fall⟩ := ((b4.kept B1).kept B2).prob hp
    clear fk fr flev fwin fcode ftable fall
    have HW := Lib.hid hwin
    clear hwin
    go_wp2_with fail
    refine (law11_Bits xs ax cx p.L (by omega) hx63 _ (hx.kept B20)).mono ?_
    rintro e w3 ⟨rfl, ba, B3⟩
    have B30 := bOn B20 B3
    clear fl
    have b43 := ((b4.kept B1).kept B2).kept B3
    obtain ⟨fk, fr, flev, fl, fwin, fcode, ftable, fall⟩ := b43.prob hp
    clear fk fr flev fl fcode ftable fall
    have hNi : (p.B.length : Int) ≠ 0 := by omega
    obtain ⟨hkl, hku⟩ := tmodN (N := p.B.length) (by omega) (by omega) n
    go_upto_region 6 with (fail)
    obtain ⟨k, hk⟩ : ∃ k : Nat, (k : Int) = (wrap64 (n.tmod p.B.length + p.B.length)).tmod p.B.length := ⟨_, Int.toNat_of_nonneg hkl⟩
    obtain ⟨m, hm⟩ : ∃ m : Nat, m = p.L.toNat := ⟨_, rfl⟩
    rw [← hk] at hku ⊢
    rw [← hm] at ba ⊢
    have hkm : k < p.B.length := by omega
    have hmp : (m : Int) = p.L := by omega
    have HM := Lib.hid hmp
    clear hkl hk hm hmp fwin
    obtain ⟨fk, fr, flev, fl, fwin, fcode, ftable, fall⟩ := b43.prob hp
    clear fk fr flev fl fwin fcode ftable
    go_wp2_with ((with_reducible apply ld); rfl; (with_reducible assumption); (simp only [List.set_cons_zero, List.set_cons_succ]; rfl))
    refine (law01_Problem p a cap hp (by omega) _ (hw.kept B30)).mono ?_
    rintro e w4 ⟨v, rfl, hv, B4⟩
    obtain ⟨g, c, cs, rfl, hgc, hgb, hgcs, hgB⟩ := hv.box
    have B40 := bOn B30 B4
    clear fall
    have hb5 := Box.new w4 zero32 32
    have hf := hp.flat (v := .slice (some ⟨g, 0, none⟩) p.B.length c) ⟨fun _ h => (by cases h), fun _ h => (by cases h)⟩
    have hs40 := hp.size (.slice (some ⟨g, 0, none⟩) p.B.length c)
    go_upto_region 7 with (first | ((with_reducible apply stO); rfl; rfl; exact hb5; rfl; exact hs40; exact hf; intro w5 b11 B5 ho5 hs5))
    have B51 : Below w4.heap.size w4 w5 := ((Below.refl _ w4).alloc (Nat.le_refl _) _).trans B5
    have B50 := bOn B40 B51
    have hg5 := hgb.kept B51
    have b45 := (b43.kept B4).kept B51
    have ba5 := (ba.kept B4).kept B51
    have hglt := hgb.lt
    have hs4 := B4.size
    have hs3 := B3.size
    have hl3 := ba.lt
    have hl4 := b43.lt
    have hsz5 := B51.size
    clear hb5 hf hs40 B5 ho5 hs5
    have u1 := (hg5.cell k).trans (hgcs k hkm)
    have u2 := hg5.frozen k
    obtain ⟨fk, fr, flev, fl, fwin, fcode, ftable, fall⟩ := b45.prob hp
    clear fk fr fl fwin fcode ftable fall
    obtain ⟨gk, gr, glev, gl, gwin, gcode, gtable, gall⟩ := b11.prob hp
    clear gk gr glev gl gcode gtable gall
    have q1 := KeptW.cell flev
    have q2 := KeptW.cell gwin
    clear flev gwin
    have hlz : p.T.lev ≠ 0 := by omega
    have hkI : (k : Int) < p.B.length := by omega
    (refine wp_region_kept_tail 11 (by kernel_rfl) (by kernel_rfl) ?_; simp only [List.take_succ_cons, List.take_zero, List.drop_succ_cons, List.drop_zero])
    repeat first
      | go_big_quiet_skip
      | ((with_reducible apply q_ldG); rfl; rfl; (with_reducible assumption); (simp only [List.set_cons_zero, List.set_cons_succ]; rfl))
      | go_big_quiet_step (fail)
    refine wpQuiet_nil ?_
    intro w6 B6
    obtain ⟨x, hx⟩ : ∃ x : Nat, (x : Int) = lv % p.T.lev % 256 := ⟨_, Int.toNat_of_nonneg (Int.emod_nonneg _ (by omega))⟩
    have hxl : (x : Int) < p.T.lev := by
      have h1 := Int.emod_lt_of_pos lv (show 0 < p.T.lev by omega)
      have h2 := Int.emod_nonneg lv (show p.T.lev ≠ 0 by omega)
      omega
    rw [← hx]
    clear hx q1 q2
    have u3 := (B6.cell (p := ⟨g, k, none⟩) (by show g < _; omega)).trans u1
    have u4 := (B6.frozen (p := ⟨g, k, none⟩) (by show g < _; omega)).trans u2
    have hg6 := hg5.kept B6
    have b46 := b45.kept B6
    have b11a := b11.kept B6
    have ba6 := ba5.kept B6
    have hs6 := B6.size
    clear u1 u2
    go_upto_region 8 with (fail)
    have bw := hg6.set_bytes hgcs hp.b (k := k) (x := x) (by omega)
    have b47 := b46.setOther (p := ⟨g, k, none⟩) (by show g ≠ _; omega) (.int .u8 x)
    have b11b := b11a.setOther (p := ⟨g, k, none⟩) (by show g ≠ _; have := hglt; omega) (.int .u8 x)
    have ba7 := ba6.setOther (p := ⟨g, k, none⟩) (by show g ≠ _; omega) (.int .u8 x)
    have B70 := (bOn B50 B6).setCell (p := ⟨g, k, none⟩) (by show _ ≤ g; omega) (.int .u8 x)
    generalize w6.setCell ⟨g, k, none⟩ (.int .u8 x) = w7 at bw b47 b11b ba7 B70 ⊢
    obtain ⟨P, hP⟩ : ∃ P, P = p.turn k x := ⟨_, rfl⟩
    have pOk : P.Ok := by rw [hP]; exact Pb.turn_ok hp k (by omega)
    have pLen : P.B.length = p.B.length := by rw [hP]; exact p.turn_len k x
    have pChk : probChk P = 0 := by rw [hP]; exact Pb.turn_chk hc k hxl
    have pL : P.L = p.L := by rw [hP]; rfl
    have pN : P.N = p.N := by rw [hP]; rfl
    have bq : Box w7 w4.heap.size (P.cells (.slice (some ⟨g, 0, none⟩) P.B.length c)) := by
      rw [pLen, hP]
      exact b11b
    have bw7 : Bytes w7 (some ⟨g, 0, none⟩) P.B := by rw [hP]; exact bw
    have lA := bitsOf_len xs m
    have tA : ∀ y ∈ bitsOf xs m, y < 2 := bitsOf_lt
    obtain ⟨A, hA⟩ : ∃ A, A = bitsOf xs m := ⟨_, rfl⟩
    rw [← hA] at ba7 lA tA
    have yA := ba7.bytes (fun y hy => by have := tA y hy; omega)
    have pA : p.pathChk A = 0 := Pb.path_chk hc (by rw [lA]; exact HM.out) tA
    have pB : P.pathChk A = 0 := Pb.path_chk pChk (by rw [lA, pL]; exact HM.out) tA
    have f1 := HM.out
    have zA : (A.length : Int) ≤ 9223372036854775807 := by rw [lA]; omega
    have hgc' : P.B.length ≤ c := by rw [pLen]; exact hgc
    have tp1 := Lib.hid (p.turn_pm k x A).1
    have tp2 := Lib.hid (p.turn_pm k x A).2
    rw [← hP] at tp1 tp2
    have lP : (P.pm A).length = p.N.toNat + 1 := by rw [Pb.pm_len, pN]
    have hw7 := hw.kept B70
    obtain ⟨ga, oa, rfl, _⟩ := hw.cell 0 hne
    obtain ⟨fk, fr, flev, fl, fwin, fcode, ftable, fall⟩ := b47.prob hp
    clear fk fr flev fl fwin fcode ftable f1
    clear hA hP pL pN pLen pChk b11b b11a bw hg6 hg5 hgb b46 b45 b43 ba ba5 ba6 ba7 u3 u4 hgcs hv hw0 b4 tA hlev hxl b11
    have c1 := score_Prefixes p ga oa cap hp hcap A (some ⟨w2.heap.size, 0, none⟩) m zA pA w7 hw7 yA
    rw [lA] at c1
    go_wp2_with ((with_reducible apply ld); rfl; (with_reducible assumption); (simp only [List.set_cons_zero, List.set_cons_succ]; rfl))
    refine c1.mono ?_
    rintro e w8 ⟨⟨r1, rfl, R1⟩, B8⟩
    obtain ⟨g1, k1', rfl, hg1, I1⟩ := R1.form (by rw [Pb.pm_len]; omega)
    clear R1 fall c1
    have bw8 := bw7.kept B8
    have yA8 := yA.kept B8
    have B80 := bOn B70 B8
    have b48 := b47.kept B8
    have bq8 := bq.kept B8
    obtain ⟨fk, fr, flev, fl, fwin, fcode, ftable, fall⟩ := bq8.prob pOk
    clear fk fr flev fl fwin fcode ftable
    have c2 := score_Prefixes P g 0 c pOk hgc' A (some ⟨w2.heap.size, 0, none⟩) m zA pB w8 bw8 yA8
    rw [lA] at c2
    clear lA
    go_wp2_with ((with_reducible apply ld); rfl; (with_reducible assumption); (simp only [List.set_cons_zero, List.set_cons_succ]; rfl))
    refine c2.mono ?_
    rintro e w9 ⟨⟨r2, rfl, R2⟩, B9⟩
    obtain ⟨g2, k2', rfl, hg2, I2⟩ := R2.form (by rw [Pb.pm_len]; omega)
    clear R2 fall c2
    have B90 := bOn B80 B9
    have b49 := b48.kept B9
    have I1a := I1.kept B9
    have lQ := p.pm_len A
    have hMK' : p.L + p.C.K = (p.N.toNat : Int) + 1 := by unfold Pb.N; omega
    obtain ⟨sN, hsN⟩ : ∃ s, s = k / p.C.R.toNat := ⟨_, rfl⟩
    rw [← hsN] at tp1 tp2
    obtain ⟨M, hMN⟩ : ∃ M, M = p.N.toNat := ⟨_, rfl⟩
    have hMs : M ≤ 2000 := by rw [hMN]; unfold Pb.N; omega
    rw [← hMN] at tp1 tp2 lP lQ hMK'
    obtain ⟨la, hla⟩ : ∃ l, l = p.pm A := ⟨_, rfl⟩
    obtain ⟨lb, hlb⟩ : ∃ l, l = P.pm A := ⟨_, rfl⟩
    rw [← hla] at I1a lQ tp1 tp2 ⊢
    rw [← hlb] at I2 lP tp1 tp2 ⊢
    rw [lP, lQ]
    have LP := Lib.hid lP
    have LQ := Lib.hid lQ
    have hkR : (k : Int).tdiv p.C.R = (sN : Int) := by
      rw [Int.tdiv_eq_ediv_of_nonneg (by omega), hsN]
      rcases cr with h | h <;> rw [h] <;> simp
    have hsI : (sN : Int) ≤ 4000 := by
      rw [hsN]
      exact div_small hkm hsm
    have HS := Lib.hid hsI
    have hws0 := wrap_small (x := (sN : Int)) (Int.natCast_nonneg _) (Int.le_trans hsI (by decide))
    have hws1 := wrap_small (x := (sN : Int) + 1) (Int.add_nonneg (Int.natCast_nonneg _) (by decide)) (Int.add_le_add_right hsI 1)
    have HWS := Lib.hid hws0
    have HWS1 := Lib.hid hws1
    clear hsI hws0 hws1
    have hR0 : p.C.R ≠ 0 := by omega
    have hRp : 0 < p.C.R := by omega
    clear hla hlb hMN lP lQ hsN I1 cr b47 b48 bq bq8 bw7 bw8 yA yA8 hw7 pA pB zA hgc' pOk
    go_wp2_with fail
    refine (law11_num 0 _).mono ?_
    rintro e w10 ⟨rfl, B10⟩
    go_wp2_with fail
    refine (law11_num 0 _).mono ?_
    rintro e w11 ⟨rfl, B11⟩
    have B110 := bOn (bOn B90 B10) B11
    have J1 := (I1a.kept B10).kept B11
    have J2 := (I2.kept B10).kept B11
    have b51 := (b49.kept B10).kept B11
    obtain ⟨fk, fr, flev, fl, fwin, fcode, ftable, fall⟩ := b51.prob hp
    clear flev fwin fcode ftable fall
    go_upto_region 13 with (fail)
    clear fk fr fl b51 b49 hkR
    rw [HWS.out]
    have HMS := Lib.hid hMs
    clear hx63 n0 n1 v0 v1 l1 l2 lv1 lv2 hsm hNi hku hkm hgc hgB hglt hs4 hs3 hl3 hl4 hsz5 hlz hkI hs6 hg1 hg2 hMK' hMs hR0 hRp hcap
    go_wp2_with fail
    go_loopw [17] (fun i wr => ∃ c : Nat, c ≤ M + 1 ∧ i = .int .i64 c ∧ IntsAt wr g1 la ∧ IntsAt wr g2 lb ∧ Below w.heap.size w wr) (fun i _ => M + 1 - (intOf i).toNat)
    case atStart => exact ⟨0, by omega, rfl, J1, J2, B110⟩
    case round =>
      obtain ⟨c, hcM, rfl, R1, R2, RB⟩ := hrel
      by_cases hcl : c < M + 1
      · have hxa := List.getElem?_eq_getElem (l := la) (i := c) (by rw [LQ.out]; exact hcl)
        have hyb := List.getElem?_eq_getElem (l := lb) (i := c) (by rw [LP.out]; exact hcl)
        obtain ⟨x, hx⟩ : ∃ x, x = la[c]'(by rw [LQ.out]; exact hcl) := ⟨_, rfl⟩
        obtain ⟨y, hy⟩ : ∃ y, y = lb[c]'(by rw [LP.out]; exact hcl) := ⟨_, rfl⟩
        rw [← hx] at hxa
        rw [← hy] at hyb
        have q1 := KeptW.cell (R1.2 c x hxa)
        have q2 := KeptW.cell (R2.2 c y hyb)
        obtain ⟨k1, k2⟩ := ic0 hcl
        clear hx hy
        by_cases hck : c ≤ sN
        · obtain rfl : y = x := Option.some.inj (hyb.symm.trans ((tp1.out c hck (Nat.le_of_lt_succ hcl)).trans hxa))
          obtain ⟨k4, k5, k5j, k5i⟩ := ic1 hck
          clear hxa hyb
          go_upto_region 16 with (fail)
          refine wp_region_kept (by kernel_rfl) (by kernel_rfl) ?_
          repeat first
            | go_big_quiet_skip
            | ((with_reducible apply q_ldG); rfl; rfl; (with_reducible assumption); (simp only [List.set_cons_zero, List.set_cons_succ]; rfl))
            | go_big_quiet_step (fail)
          refine wpQuiet_nil ?_
          intro w20 B20'
          have T1 := R1.kept B20'
          have T2 := R2.kept B20'
          have T3 := bOn RB B20'
          go_wp2
          go_roundw
          case measure => exact ic8 hcl HMS.out
          case rel => exact ⟨c + 1, hcl, congrArg (Value.int .i64) (ic7 hcl HMS.out), T1, T2, T3⟩
        · obtain ⟨hq1, hq2, t, hq3, hq4, hs1, k6, k7⟩ := ic5 hck hcl HWS1.out
          have hXa := List.getElem?_eq_getElem (l := la) (i := t) (by rw [LQ.out]; exact hs1)
          have hYb := List.getElem?_eq_getElem (l := lb) (i := t) (by rw [LP.out]; exact hs1)
          obtain ⟨X, hX⟩ : ∃ X, X = la[t]'(by rw [LQ.out]; exact hs1) := ⟨_, rfl⟩
          obtain ⟨Y, hY⟩ : ∃ Y, Y = lb[t]'(by rw [LP.out]; exact hs1) := ⟨_, rfl⟩
          rw [← hX] at hXa
          rw [← hY] at hYb
          have q3 := KeptW.cell (R1.2 t X hXa)
          have q4 := KeptW.cell (R2.2 t Y hYb)
          obtain ⟨δ, hδ⟩ := tp2.out
          have d3 : y - x = Y - X := ic4 (hδ c x y hq1 hq2 hxa hyb) (hδ t X Y hq3 hq4 hXa hYb)
          obtain ⟨k4, k5, k5j, k5i⟩ := ic2 hck
          clear hδ hX hY hXa hYb hxa hyb hq1 hq2 hq3 hq4 hs1
          go_upto_region 16 with (fail)
          refine wp_region_kept (by kernel_rfl) (by kernel_rfl) ?_
          repeat first
            | go_big_quiet_skip
            | ((with_reducible apply q_ldG); rfl; rfl; (with_reducible assumption); (simp only [List.set_cons_zero, List.set_cons_succ]; rfl))
            | go_big_quiet_step (fail)
          refine wpQuiet_nil ?_
          intro w20 B20'
          have T1 := R1.kept B20'
          have T2 := R2.kept B20'
          have T3 := bOn RB B20'
          go_wp2
          go_roundw
          case measure => exact ic8 hcl HMS.out
          case rel => exact ⟨c + 1, hcl, congrArg (Value.int .i64) (ic7 hcl HMS.out), T1, T2, T3⟩
      · obtain rfl := ic6 hcl hcM
        have k1 : decide ((((M + 1 : Nat)) : Int) < (M : Int) + 1) = false := by simp
        go_wp2
        go_ret
        exact ⟨rfl, RB⟩
  · clear fall
    go_wp2_with fail
    refine (law11_knows _).mono ?_
    rintro e w2 ⟨rfl, B2⟩
    go_wp2
    go_ret
    exact ⟨rfl, bOn (bOn B0 B1) B2⟩
end Go.Proofs.Ytiiljecocajdpaa
