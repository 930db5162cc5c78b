/- The walk of the statement that prefix metrics are the caller's own. -/
import Derived.Test.YtiiljecocajdpaaLOrder
import Derived.Test.YtiiljecocajdpaaApartI
import Derived.Test.YtiiljecocajdpaaSameI
namespace Go.Proofs.Ytiiljecocajdpaa
open Go.RowKit

/-- THE ARM for 'append(s, x...)' of cells that lie at the head of a block. -/
theorem apN {P : Program} {ops : Array Oper} {rest : List Oper} {l : List Value} {ds : List Deferred} {w : World} {Q : Exit → Act → World → Prop} {t e d n m c g bytes base : Nat} {s x : Operand} {z v : Value} {xs us : List Value} {ty : TypeId} {ps : String} {af : Array Edge}
    [S : SlTy P t e] [E : ElTy P e z 1 bytes] (hown : w.ownsRow base e 1 v n xs) (hs : (Act.mk l.toArray ds).eval s = v) (hx : (Act.mk l.toArray ds).eval x = .slice (some ⟨g, 0, none⟩) m c)
    (hc : ∀ j u, us[j]? = some u → w.cell? ⟨g, j, none⟩ = some u) (hl : us.length = m) (h1 : ∀ u ∈ us, u.oneCell' = true) (h63 : n + m ≤ 9223372036854775807 / 65536) (hbytes : (n + m) * bytes ≤ 140737488355328) (hbase : base ≤ w.heap.size)
    (h : ∀ v' w', w'.ownsRow base e 1 v' (n + m) (xs ++ us) → w.grownBy w' v.ownBlock → (v'.ownBlock = v.ownBlock ∨ v'.ownBlock = some w.heap.size) → wpList P ops Q rest ⟨(l.set d v').toArray, ds⟩ w') :
    wpList P ops Q (⟨some d, .call { callee := .builtin .append, args := #[s, x], argTypes := #[t, t] }, ty, ps, af, none⟩ :: rest) ⟨l.toArray, ds⟩ w := by
  obtain ⟨i, hi, hz0, hz1, hz2, hz3⟩ := E.out
  refine wpList_append_own_at w rfl s x t rfl base e i z 1 bytes S.out hi hz0 hz1 hz2 hz3 (by decide) v n xs hs hown ⟨g, 0, none⟩ m c us hx (by omega) (fun j u hj => ?_) h1 (by unfold maxLen; omega) hbytes hbase ?_
  · have hadd : (⟨g, 0, none⟩ : Addr).add j = ⟨g, j, none⟩ := by unfold Addr.add; split <;> simp_all
    rw [hadd]
    exact hc j u hj
  · intro v' w' h2 h3 _ h5
    rw [put_list]
    exact h v' w' h2 h3 h5
theorem IntsAt.ints {w : World} {g : Nat} {l : List Int} (h : IntsAt w g l) : Ints w (some ⟨g, 0, none⟩) l := fun k x hk => ⟨g, 0, rfl, by rw [Nat.zero_add]; exact h.2 k x hk⟩
theorem Row64.kept {w w' : World} {B : Nat} {v : Value} {l : List Int} (h : Row64 w B v l) (hB : Below w.heap.size w w') : Row64 w' B v l := h.turn (Turn.ofBelow (H := fun _ => False) hB) (fun _ _ hk => hk)
theorem slice117 (g1 g2 n1 n2 c1 c2 : Nat) (w : World) : (Instr.buildSlice 117 2 #[(0, .slice (some ⟨g1, 0, none⟩) n1 c1), (1, .slice (some ⟨g2, 0, none⟩) n2 c2)]).run Try.prog w = .ok (.slice (some ⟨w.heap.size, 0, none⟩) 2 2) (w.alloc (.cells #[.slice (some ⟨g1, 0, none⟩) n1 c1, .slice (some ⟨g2, 0, none⟩) n2 c2] 72)) := by
  go_simp
theorem ap_two {w : World} {B : Nat} {l : List Int} {g1 g2 c1 c2 : Nat} (h1 : Row64 w B (.slice (some ⟨g1, 0, none⟩) l.length c1) l) (h2 : Row64 w B (.slice (some ⟨g2, 0, none⟩) l.length c2) l) (hne : g1 ≠ g2) (hl : l.length ≤ 4096) :
    ApOk w B 3 [.slice (some ⟨g1, 0, none⟩) l.length c1, .slice (some ⟨g2, 0, none⟩) l.length c2] mk64 0 0 ∧ ApSep [.slice (some ⟨g1, 0, none⟩) l.length c1, .slice (some ⟨g2, 0, none⟩) l.length c2] := by
  refine ⟨fun i v hv => ?_, fun i j v u k hij hv hu hk hk' => ?_⟩
  · match i, hv with
    | 0, hv =>
      obtain rfl := Option.some.inj hv
      exact ⟨_, _, _, _, rfl, hl, h1, fun j _ h => by omega⟩
    | 1, hv =>
      obtain rfl := Option.some.inj hv
      exact ⟨_, _, _, _, rfl, hl, h2, fun j _ h => by omega⟩
    | n + 2, hv => simp at hv
  · match i, j, hv, hu with
    | 0, 0, _, _ => exact hij rfl
    | 1, 1, _, _ => exact hij rfl
    | 0, 1, hv, hu =>
      obtain rfl := Option.some.inj hv
      obtain rfl := Option.some.inj hu
      simp [Value.ownBlock] at hk hk'
      omega
    | 1, 0, hv, hu =>
      obtain rfl := Option.some.inj hv
      obtain rfl := Option.some.inj hu
      simp [Value.ownBlock] at hk hk'
      omega
    | n + 2, _, hv, _ => simp at hv
    | 0, n + 2, _, hu => simp at hu
    | 1, n + 2, _, hu => simp at hu
theorem ap_two_list {w : World} {v1 v2 : Value} {g : Nat} (hb : Box w g #[v1, v2]) (h1 : v1.ownBlock ≠ some g) (h2 : v2.ownBlock ≠ some g) : ApList w (some ⟨g, 0, none⟩) [v1, v2] := fun i v hv => by
  refine ⟨g, 0, rfl, ?_, fun j u hu => ?_⟩
  · rw [Nat.zero_add, hb.cell, List.getElem?_toArray]
    exact hv
  · match j, hu with
    | 0, hu => obtain rfl := Option.some.inj hu; exact h1
    | 1, hu => obtain rfl := Option.some.inj hu; exact h2
    | n + 2, hu => simp at hu
theorem ap_two_H {v1 v2 : Value} {g1 g2 k : Nat} (h1 : v1.ownBlock = some g1) (h2 : v2.ownBlock = some g2) (h : ApH [v1, v2] k) : k = g1 ∨ k = g2 := by
  obtain ⟨i, v, hv, hk⟩ := h
  match i, hv with
  | 0, hv => obtain rfl := Option.some.inj hv; rw [h1] at hk; exact .inl (Option.some.inj hk).symm
  | 1, hv => obtain rfl := Option.some.inj hv; rw [h2] at hk; exact .inr (Option.some.inj hk).symm
  | n + 2, hv => simp at hv
set_option maxRecDepth 5000 in
set_option maxHeartbeats 2000000 in
theorem law11_ScoreOwn (p : Pb) (a : Option Addr) (cap : Nat) (hp : p.Ok) (hcap : p.B.length ≤ cap) (xs : List Nat) (ax : Option Addr) (cx : Nat) (hx63 : (xs.length : Int) ≤ 9223372036854775807) (w : World) (hw : Bytes w a p.B) (hx : Bytes w ax xs) :
    Pure Try.prog 10 #[.agg (p.cells (.slice a p.B.length cap)), .slice ax xs.length cx] w (.bool true) := by
  go_enter Try.func10, Try.ntmps10
  go_upto_region 1 with (fail)
  refine name1 ?_
  intro w0 b4 B0
  have hw0 := hw.kept B0
  obtain ⟨fk, fr, flev, fl, fwin, fcode, ftable, fall⟩ := b4.prob hp
  clear fk fr flev fl fwin fcode ftable
  go_wp2_with ((with_reducible apply ld); rfl; (with_reducible assumption); (simp only [List.set_cons_zero, List.set_cons_succ]; rfl))
  refine (ref11_Check p a cap hp _ hw0).mono ?_
  rintro e w1 ⟨rfl, B1⟩
  by_cases hc : probChk p = 0
  · rw [hc]
    clear fall
    go_wp2_with fail
    refine (law11_knows _).mono ?_
    rintro e w2 ⟨rfl, B2⟩
    have B20 := bOn (bOn B0 B1) B2
    obtain ⟨⟨k1, k2⟩, l1, l2, cr, hwin, _⟩ := probChk_ok hc
    have HW := Lib.hid hwin
    have HR := Lib.hid cr
    clear hwin cr
    obtain ⟨fk, fr, flev, fl, fwin, fcode, ftable, fall⟩ := ((b4.kept B1).kept B2).prob hp
    clear fk fr flev fwin fcode ftable fall
    go_wp2_with fail
    refine (law11_Bits xs ax cx p.L (by omega) hx63 _ (hx.kept B20)).mono ?_
    rintro e w3 ⟨rfl, ba, B3⟩
    have B30 := bOn B20 B3
    clear fl
    have b43 := ((b4.kept B1).kept B2).kept B3
    obtain ⟨m, hm⟩ : ∃ m : Nat, m = p.L.toNat := ⟨_, rfl⟩
    rw [← hm] at ba ⊢
    have hmp : (m : Int) = p.L := by omega
    have HM := Lib.hid hmp
    clear hm
    have lA := bitsOf_len xs m
    have tA : ∀ y ∈ bitsOf xs m, y < 2 := bitsOf_lt
    obtain ⟨A, hA⟩ : ∃ A, A = bitsOf xs m := ⟨_, rfl⟩
    rw [← hA] at ba lA tA
    have yA := ba.bytes (fun y hy => by have := tA y hy; omega)
    have pA : p.pathChk A = 0 := Pb.path_chk hc (by rw [lA]; exact hmp) tA
    have zA : (A.length : Int) ≤ 9223372036854775807 := by rw [lA]; omega
    obtain ⟨ga, oa, rfl, _⟩ := hw.cell 0 (prob_slice hc)
    have hN : p.N.toNat + 1 ≤ 1100 := by unfold Pb.N; omega
    have lP := p.pm_len A
    have hw3 := hw.kept B30
    clear hmp hA tA ba
    obtain ⟨fk, fr, flev, fl, fwin, fcode, ftable, fall⟩ := b43.prob hp
    clear fk fr flev fl fwin fcode ftable
    have c1 := score_Prefixes p ga oa cap hp hcap A (some ⟨w2.heap.size, 0, none⟩) m zA pA w3 hw3 yA
    rw [lA] at c1
    go_wp2_with ((with_reducible apply ld); rfl; (with_reducible assumption); (simp only [List.set_cons_zero, List.set_cons_succ]; rfl))
    refine c1.mono ?_
    rintro e w4 ⟨⟨r1, rfl, R1⟩, B4⟩
    clear fall c1
    have B40 := bOn B30 B4
    have b44 := b43.kept B4
    have hw4 := hw3.kept B4
    have yA4 := yA.kept B4
    obtain ⟨fk, fr, flev, fl, fwin, fcode, ftable, fall⟩ := b44.prob hp
    clear fk fr flev fl fwin fcode ftable
    have c2 := score_Prefixes p ga oa cap hp hcap A (some ⟨w2.heap.size, 0, none⟩) m zA pA w4 hw4 yA4
    rw [lA] at c2
    go_wp2_with ((with_reducible apply ld); rfl; (with_reducible assumption); (simp only [List.set_cons_zero, List.set_cons_succ]; rfl))
    refine c2.mono ?_
    rintro e w5 ⟨⟨r2, rfl, R2⟩, B5⟩
    clear fall c2
    have B50 := bOn B40 B5
    have b45 := b44.kept B5
    have hw5 := hw4.kept B5
    have yA5 := yA4.kept B5
    have R15 := R1.kept B5
    have hlt1 := fun k hk => (World.ownsRow.lt R1 k hk).2
    obtain ⟨la, hla⟩ : ∃ l, l = p.pm A := ⟨_, rfl⟩
    have HLA := Lib.hid hla
    rw [← hla] at R15 R2 lP
    have hl0 : 0 < la.length := by omega
    have hl63 : (la.length : Int) ≤ 9223372036854775807 := by omega
    have hl4k : la.length ≤ 1100 := by omega
    obtain ⟨g1, c1, rfl, hg1, I1⟩ := R15.form hl0
    obtain ⟨g2, c2, rfl, hg2, I2⟩ := R2.form hl0
    clear R1 hla lP
    go_wp2_with fail
    refine (law11_num 0 _).mono ?_
    rintro e w6 ⟨rfl, B6⟩
    go_wp2_with fail
    refine (law11_num 0 _).mono ?_
    rintro e w7 ⟨rfl, B7⟩
    have I17 := (I1.kept B6).kept B7
    have I27 := (I2.kept B6).kept B7
    go_wp2_with fail
    refine (law01_SameInts (some ⟨g1, 0, none⟩) (some ⟨g2, 0, none⟩) la la c1 c2 hl63 _ I17.ints I27.ints).mono ?_
    rintro e w8 ⟨rfl, B8⟩
    rw [beq_self_eq_true]
    have B80 := bOn (bOn (bOn B50 B6) B7) B8
    have b48 := ((b45.kept B6).kept B7).kept B8
    have hw8 := ((hw5.kept B6).kept B7).kept B8
    have yA8 := ((yA5.kept B6).kept B7).kept B8
    have R18 := ((R15.kept B6).kept B7).kept B8
    have R28 := ((R2.kept B6).kept B7).kept B8
    have I18 := I17.kept B8
    have I28 := I27.kept B8
    have B38 := bOn (bOn (bOn (bOn B4 B5) B6) B7) B8
    have hg12 : g1 ≠ g2 := by have := hlt1 g1 rfl; omega
    have h34 := B4.size
    clear I1 I17 I27 I2 R15 R2 b45 hw5 yA5 hw4 yA4 b44 b48 hw8 yA8 hlt1
    have hsz8 := B80.size
    have hg1l := I18.1
    have hg2l := I28.1
    have hown := World.ownsRow_made (base := w8.heap.size) (size := 1) (e := 3) w8 #[] 0 (Nat.le_refl _) (by decide) rfl
    have J1 : ∀ j u, (la.map (Value.int .i64))[j]? = some u → (w8.alloc (.cells #[] 3)).cell? ⟨g1, j, none⟩ = some u := fun j u hj => by
      rw [List.getElem?_map] at hj
      obtain ⟨x, hx, rfl⟩ := Option.map_eq_some_iff.1 hj
      exact (((Below.refl w8.heap.size w8).alloc (Nat.le_refl _) _).cell hg1l).trans (I18.2 j x hx)
    go_upto_region 9 with (at_builtin; refine apN (us := la.map (Value.int .i64)) hown rfl rfl J1 (by simp) (by intro u hu; obtain ⟨_, _, rfl⟩ := List.mem_map.1 hu; rfl) (by omega) (by omega) (by simp) ?_; intro v9 w9 hown9 hgr9 hat9)
    have K9 : Row64 w9 w8.heap.size v9 la := by simpa [Row64] using hown9
    have B9 : Below w8.heap.size w8 w9 := ((Below.refl _ _).alloc (Nat.le_refl _) _).trans (own_below hown hgr9 (by simp))
    obtain ⟨g3, c3, rfl, hg3, I3⟩ := K9.form hl0
    have R19 := R18.kept B9
    have R29 := (R28.kept B9).mono h34
    clear hown hown9 hgr9 hat9 J1 I18 I28 R18 R28
    have hsz9 := B9.size
    have B10 := (Below.refl w9.heap.size w9).alloc (Nat.le_refl _) (.cells #[.slice (some ⟨g1, 0, none⟩) la.length c1, .slice (some ⟨g2, 0, none⟩) la.length c2] 72)
    have bl := Box.new w9 #[.slice (some ⟨g1, 0, none⟩) la.length c1, .slice (some ⟨g2, 0, none⟩) la.length c2] 72
    go_wp2_with ((with_reducible apply w_slice (d := 54) (cs := #[.slice (some ⟨g1, 0, none⟩) la.length c1, .slice (some ⟨g2, 0, none⟩) la.length c2]) (e := 72)); ((simp only [List.map_toArray, List.map_cons, List.map_nil]); exact slice117 _ _ _ _ _ _ _))
    obtain ⟨w10, h10⟩ : ∃ w', w' = w9.alloc (.cells #[.slice (some ⟨g1, 0, none⟩) la.length c1, .slice (some ⟨g2, 0, none⟩) la.length c2] 72) := ⟨_, rfl⟩
    rw [← h10] at B10 bl ⊢
    clear h10
    have hsz10 := B10.size
    have R110 := R19.kept B10
    have R210 := R29.kept B10
    have K10 := K9.kept B10
    obtain ⟨o1, o2⟩ := ap_two R110 R210 hg12 (by omega)
    have ol := ap_two_list bl (by simp [Value.ownBlock]; omega) (by simp [Value.ownBlock]; omega)
    refine (law01_ApartInts _ _ 2 w3.heap.size w10 (by simp) ol o1 o2 (by omega)).mono ?_
    rintro e w11 ⟨rfl, T11⟩
    have B11 : Below w3.heap.size w10 w11 := T11.below fun k hk => ⟨by omega, fun hh => by
      rcases ap_two_H (g1 := g1) (g2 := g2) rfl rfl hh with h | h <;> omega⟩
    have K11 := K10.turn T11 (fun k hk hh => by
      obtain rfl : g3 = k := by simpa [Value.ownBlock] using hk
      rcases ap_two_H (g1 := g1) (g2 := g2) rfl rfl hh with h | h <;> omega)
    have B311 := (bOn (bOn B38 B9) B10).trans B11
    have B110 := bOn B30 B311
    have b51 := b43.kept B311
    have hw11 := hw3.kept B311
    have yA11 := yA.kept B311
    clear R110 R210 R19 R29 K10 K9 bl ol o1 o2 I3 T11 B11 B10 B9 hg12 hg1 hg2 hg3 hg1l hg2l hsz8 hsz9 hsz10
    obtain ⟨fk, fr, flev, fl, fwin, fcode, ftable, fall⟩ := b51.prob hp
    clear fk fr flev fl fwin fcode ftable
    have cc := score_Prefixes p ga oa cap hp hcap A (some ⟨w2.heap.size, 0, none⟩) m zA pA w11 hw11 yA11
    rw [lA] at cc
    go_wp2_with ((with_reducible apply ld); rfl; (with_reducible assumption); (simp only [List.set_cons_zero, List.set_cons_succ]; rfl))
    refine cc.mono ?_
    rintro e w12 ⟨⟨r3, rfl, R3⟩, B12⟩
    clear fall cc
    rw [← HLA.out] at R3
    obtain ⟨g4, c4, rfl, hg4, I4⟩ := R3.form hl0
    have K12 := K11.kept B12
    clear R3
    go_wp2_with fail
    refine (law11_num 0 _).mono ?_
    rintro e w13 ⟨rfl, B13⟩
    have I43 := I4.kept B13
    obtain ⟨_, _, e5, _, I33⟩ := (K12.kept B13).form hl0
    obtain ⟨rfl, rfl⟩ := by simpa using e5
    go_wp2_with fail
    refine (law01_SameInts (some ⟨g4, 0, none⟩) (some ⟨g3, 0, none⟩) la la c4 c3 hl63 _ I43.ints I33.ints).mono ?_
    rintro e w14 ⟨rfl, B14⟩
    rw [beq_self_eq_true]
    go_wp2
    go_ret
    exact ⟨rfl, bOn (bOn (bOn B110 B12) B13) B14⟩
  · clear fall
    go_wp2_with fail
    refine (law11_knows _).mono ?_
    rintro e w2 ⟨rfl, B2⟩
    go_wp2
    go_ret
    exact ⟨rfl, bOn (bOn B0 B1) B2⟩
end Go.Proofs.Ytiiljecocajdpaa
