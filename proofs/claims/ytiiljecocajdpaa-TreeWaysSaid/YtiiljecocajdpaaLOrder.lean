/- The walk of the statement on the order of dip, total and prefix metrics. -/
import Derived.Test.YtiiljecocajdpaaPrefs
import Derived.Test.YtiiljecocajdpaaScoreB
import Derived.Test.YtiiljecocajdpaaQuietG
import Derived.Laws.CopyRow
namespace Go.Proofs.Ytiiljecocajdpaa
open Go.RowKit

/-- THE ARM for 'copy(d, s)' of as many elements, each of one cell, from the heads of two blocks. -/
theorem cpA {P : Program} {ops : Array Oper} {rest : List Oper} {l l' : List Value} {ds : List Deferred} {w : World} {Q : Exit → Act → World → Prop} {dT sT e dd g ga k c1 c2 bytes : Nat} {d s : Operand} {z : Value} {cur us : List Value} {ty : TypeId} {ps : String} {af : Array Edge}
    [S : SlTy P dT e] [E : ElTy P e z 1 bytes] (hd : (Act.mk l.toArray ds).eval d = .slice (some ⟨g, 0, none⟩) k c1) (hs : (Act.mk l.toArray ds).eval s = .slice (some ⟨ga, 0, none⟩) k c2)
    (hb : Box w g cur.toArray) (ha : Box w ga us.toArray) (hk : k ≤ cur.length) (hk2 : k ≤ us.length) (h1 : ∀ v ∈ us, v.oneCell' = true) (hl : l.set dd (.int .i64 k) = l')
    (h : ∀ w', Box w' g (us.take k ++ cur.drop k).toArray → (∀ b, b ≠ g → w'.heap[b]? = w.heap[b]?) → Below g w w' → w'.heap.size = w.heap.size → wpList P ops Q rest ⟨l'.toArray, ds⟩ w') :
    wpList P ops Q (⟨some dd, .call { callee := .builtin .copy, args := #[d, s], argTypes := #[dT, sT] }, ty, ps, af, none⟩ :: rest) ⟨l.toArray, ds⟩ w := by
  obtain ⟨i, hi, hz0, hz1, hz2, hz3⟩ := E.out
  obtain ⟨t, hb⟩ := hb
  have hlen : (us.take k).length = k := by simp; omega
  have hr := run_copy_row (P := P) w dT sT ty e g 0 k c1 ⟨ga, 0, none⟩ k c2 cur.toArray t (us.take k) S.out (by simp [hi, hz1]) hb (by rw [hlen]; exact (Nat.min_self k).symm) (fun j v hj => by
    rw [List.getElem?_take] at hj
    have hjk : j < k := by
      rcases Nat.lt_or_ge j k with h | h
      · exact h
      · rw [if_neg (by omega)] at hj; cases hj
    rw [if_pos hjk] at hj
    have hadd : (⟨ga, 0, none⟩ : Addr).add j = ⟨ga, j, none⟩ := by unfold Addr.add; split <;> simp_all
    rw [hadd, ha.cell, List.getElem?_toArray, hj]) (by rw [hlen]; simpa using hk) (fun v hv => h1 v (List.mem_of_mem_take hv))
  refine wpList_plain rfl fun K hK => ?_
  unfold Oper.wp execOp
  simp only [resolve, invoke, builtin, Sem.run_bind, Sem.run_pure, Result.andThen_ok, List.map_toArray, List.map_cons, List.map_nil, hd, hs, hr]
  rw [Oper.upon_value, put_list, hlen, show goInt k = Value.int .i64 k from rfl, hl]
  refine hK _ _ (h _ ⟨t, ?_⟩ (fun b hb => setRow_other w g b _ hb) ⟨rfl, rfl, rfl, by simp [World.setRow], fun b hb => setRow_other w g b _ (by omega)⟩ (by simp [World.setRow]))
  simpa using setRow_heap w g cur.toArray _ t _ hb
theorem u8s_join (l m : List Nat) (k : Nat) : (u8s l).take k ++ (u8s m).drop k = u8s (joinAt l m k) := by
  unfold u8s joinAt
  rw [List.map_append, List.map_take, List.map_drop]
theorem u8s_one {l : List Nat} : ∀ v ∈ u8s l, v.oneCell' = true := by
  intro v hv
  obtain ⟨x, _, rfl⟩ := List.mem_map.1 hv
  rfl
theorem tmodL {N : Int} (h3 : 1 ≤ N) (h4 : N ≤ 1024) (d : Int) : 0 ≤ (wrap64 (wrap64 (d.tmod (N + 1) + N) + 1)).tmod (N + 1) ∧ (wrap64 (wrap64 (d.tmod (N + 1) + N) + 1)).tmod (N + 1) ≤ N := by
  have h1 : -(N + 1) < d.tmod (N + 1) ∧ d.tmod (N + 1) < N + 1 := by
    refine ⟨?_, Int.tmod_lt_of_pos _ (by omega)⟩
    have := Int.tmod_lt_of_pos (-d) (b := N + 1) (by omega)
    rw [Int.neg_tmod] at this
    omega
  have h2 : wrap64 (wrap64 (d.tmod (N + 1) + N) + 1) = d.tmod (N + 1) + N + 1 := by unfold wrap64; omega
  rw [h2]
  have h5 := Int.tmod_lt_of_pos (d.tmod (N + 1) + N + 1) (b := N + 1) (by omega)
  have h6 := Int.tmod_nonneg (a := d.tmod (N + 1) + N + 1) (N + 1) (by omega)
  omega
def seenD (l : List Int) (D : Int) (c : Nat) : Bool := (l.take c).any (· == D)
theorem seenD_mem {l : List Int} {D : Int} {i c : Nat} (h : l[i]? = some D) (hi : i < c) : seenD l D c = true := by
  unfold seenD
  rw [List.any_eq_true]
  refine ⟨D, ?_, by simp⟩
  apply List.mem_of_getElem? (i := i)
  rw [List.getElem?_take, if_pos hi, h]
theorem seenD_succ {l : List Int} {D x : Int} {c : Nat} (h : l[c]? = some x) : seenD l D (c + 1) = (seenD l D c || x == D) := by
  unfold seenD
  rw [List.take_add_one, h]
  simp
set_option maxRecDepth 5000 in
set_option maxHeartbeats 2000000 in
theorem law11_ScoreOrder (p : Pb) (a : Option Addr) (cap : Nat) (hp : p.Ok) (hcap : p.B.length ≤ cap) (xs : List Nat) (ax : Option Addr) (cx : Nat) (hx63 : (xs.length : Int) ≤ 9223372036854775807) (ys : List Nat) (ay : Option Addr) (cy : Nat) (hy63 : (ys.length : Int) ≤ 9223372036854775807)
    (n : Int) (n0 : -9223372036854775808 ≤ n) (n1 : n ≤ 9223372036854775807) (w : World) (hw : Bytes w a p.B) (hx : Bytes w ax xs) (hy : Bytes w ay ys) :
    Pure Try.prog 8 #[.agg (p.cells (.slice a p.B.length cap)), .slice ax xs.length cx, .slice ay ys.length cy, .int .i64 n] w (.bool true) := by
  go_enter Try.func8, Try.ntmps8
  go_upto_region 1 with (fail)
  refine name1 ?_
  intro w0 b4 B0
  have hw0 := hw.kept B0
  obtain ⟨fk, fr, flev, fl, fwin, fcode, ftable, fall⟩ := b4.prob hp
  clear fk fr flev fl fwin fcode ftable
  go_wp2_with ((with_reducible apply ld); rfl; (with_reducible assumption); (simp only [List.set_cons_zero, List.set_cons_succ]; rfl))
  refine (ref11_Check p a cap hp _ hw0).mono ?_
  rintro e w1 ⟨rfl, B1⟩
  by_cases hc : probChk p = 0
  · rw [hc]
    clear fall
    go_wp2_with fail
    refine (law11_knows _).mono ?_
    rintro e w2 ⟨rfl, B2⟩
    have B20 := bOn (bOn B0 B1) B2
    obtain ⟨⟨k1, k2⟩, l1, l2, cr, hwin, _⟩ := probChk_ok hc
    have hN : p.N.toNat = (p.L + p.C.K - 1).toNat := rfl
    obtain ⟨fk, fr, flev, fl, fwin, fcode, ftable, fall⟩ := ((b4.kept B1).kept B2).prob hp
    clear fk fr flev fwin fcode ftable fall
    go_wp2_with fail
    refine (law11_Bits xs ax cx p.L (by omega) hx63 _ (hx.kept B20)).mono ?_
    rintro e w3 ⟨rfl, ba, B3⟩
    have B30 := bOn B20 B3
    clear fl
    obtain ⟨fk, fr, flev, fl, fwin, fcode, ftable, fall⟩ := (((b4.kept B1).kept B2).kept B3).prob hp
    clear fk fr flev fwin fcode ftable fall
    go_wp2_with fail
    refine (law11_Bits ys ay cy p.L (by omega) hy63 _ (hy.kept B30)).mono ?_
    rintro e w4 ⟨rfl, bb, B4⟩
    have B40 := bOn B30 B4
    have ba4 := ba.kept B4
    clear fl
    have b44 := (((b4.kept B1).kept B2).kept B3).kept B4
    obtain ⟨fk, fr, flev, fl, fwin, fcode, ftable, fall⟩ := b44.prob hp
    clear fk fr flev fwin fcode ftable fall
    go_upto_region 5 with (fail)
    have hL : p.L + 1 ≠ 0 := by omega
    have q1 := KeptW.cell fl
    clear fl
    (refine wp_region_kept_tail 13 (by kernel_rfl) (by kernel_rfl) ?_; simp only [List.take_succ_cons, List.take_zero, List.drop_succ_cons, List.drop_zero])
    repeat first
      | go_big_quiet_skip
      | ((with_reducible apply q_ldG); rfl; rfl; (with_reducible assumption); (simp only [List.set_cons_zero, List.set_cons_succ]; rfl))
      | go_big_quiet_step (fail)
    refine wpQuiet_nil ?_
    intro w5 B5
    go_upto_region 6 with (fail)
    obtain ⟨hkl, hku⟩ := tmodL l1 l2 n
    obtain ⟨k, hk⟩ : ∃ k : Nat, (k : Int) = (wrap64 (wrap64 (n.tmod (p.L + 1) + p.L) + 1)).tmod (p.L + 1) := ⟨_, Int.toNat_of_nonneg hkl⟩
    obtain ⟨m, hm⟩ : ∃ m : Nat, m = p.L.toNat := ⟨_, rfl⟩
    rw [← hk] at hku ⊢
    rw [← hm] at ba4 bb ⊢
    have hkm : k ≤ m := by omega
    have hkm' : (k : Int) ≤ m := by omega
    have hmp : (m : Int) = p.L := by omega
    have ba4lt := ba.lt
    have HM := Lib.hid hmp
    have bb5 := bb.kept B5
    have ba5 := ba4.kept B5
    clear hkl hk hm hmp ba bb ba4 q1
    (refine wp_region_kept_tail 6 (by kernel_rfl) (by kernel_rfl) ?_; simp only [List.take_succ_cons, List.take_zero, List.drop_succ_cons, List.drop_zero])
    repeat first
      | go_big_quiet_skip
      | go_big_quiet_step (fail)
    refine wpQuiet_nil ?_
    intro w6 B6
    have bb6 := bb5.kept B6
    have ba6 := ba5.kept B6
    have hs0 := B0.size
    have hs1 := B1.size
    have hs2 := B2.size
    have hs3 := B3.size
    have hs4 := B4.size
    have hs5 := B5.size
    have hs6 := B6.size
    have hl4 := b4.lt
    have hl5 := ba5.lt
    have hl6 := bb5.lt
    have hws : w2.heap.size < w3.heap.size := by
      have := ba4lt
      omega
    have hcl : k ≤ (u8s (bitsOf ys m)).length := by rw [u8s_len, bitsOf_len]; exact hkm
    have hcl2 : k ≤ (u8s (bitsOf xs m)).length := by rw [u8s_len, bitsOf_len]; exact hkm
    have b46 := (b44.kept B5).kept B6
    go_upto_region 7 with ((with_reducible apply cpA); rfl; rfl; exact bb6; exact ba6; exact hcl; exact hcl2; exact u8s_one; (simp only [List.set_cons_zero, List.set_cons_succ]; rfl); intro w7 bb7 hoth B7 hs7)
    rw [u8s_join] at bb7
    have ba7 := ba6.below B7 hws
    have b47 := b46.below B7 (by omega)
    have B70 : Below w.heap.size w w7 := (bOn (bOn B40 B5) B6).trans (B7.mono (by omega))
    have hw7 := hw.kept B70
    have lA := bitsOf_len xs m
    have lB : (joinAt (bitsOf xs m) (bitsOf ys m) k).length = m := by rw [joinAt_len (by rw [bitsOf_len, bitsOf_len]), bitsOf_len]
    have tA : ∀ x ∈ bitsOf xs m, x < 2 := bitsOf_lt
    have tB : ∀ x ∈ joinAt (bitsOf xs m) (bitsOf ys m) k, x < 2 := joinAt_lt bitsOf_lt bitsOf_lt
    have hg : ∀ j, j < k → (joinAt (bitsOf xs m) (bitsOf ys m) k).getD j 0 = (bitsOf xs m).getD j 0 := fun j hj => joinAt_getD (by rw [lA]; exact hkm) hj
    obtain ⟨A, hA⟩ : ∃ A, A = bitsOf xs m := ⟨_, rfl⟩
    obtain ⟨B, hB⟩ : ∃ B, B = joinAt (bitsOf xs m) (bitsOf ys m) k := ⟨_, rfl⟩
    rw [← hB] at bb7 lB tB hg
    rw [← hA] at ba7 lA tA hg
    have yA := ba7.bytes (fun x hx => by have := tA x hx; omega)
    have yB := bb7.bytes (fun x hx => by have := tB x hx; omega)
    have pA : p.pathChk A = 0 := Pb.path_chk hc (by rw [lA]; exact HM.out) tA
    have pB : p.pathChk B = 0 := Pb.path_chk hc (by rw [lB]; exact HM.out) tB
    have f1 := HM.out
    have zA : (A.length : Int) ≤ 9223372036854775807 := by rw [lA]; omega
    have zB : (B.length : Int) ≤ 9223372036854775807 := by rw [lB]; omega
    obtain ⟨g, o, rfl, _⟩ := hw.cell 0 (prob_slice hc)
    obtain ⟨fk, fr, flev, fl, fwin, fcode, ftable, fall⟩ := b47.prob hp
    clear fk fr flev fl fwin fcode ftable f1
    clear hA hB bb6 ba6 ba5 bb5 bb7 ba7 hcl hcl2 hoth
    have c1 := score_Prefixes p g o cap hp hcap A (some ⟨w2.heap.size, 0, none⟩) m zA pA w7 hw7 yA
    rw [lA] at c1
    have lA' := lA
    clear lA tA tB
    go_wp2_with ((with_reducible apply ld); rfl; (with_reducible assumption); (simp only [List.set_cons_zero, List.set_cons_succ]; rfl))
    refine c1.mono ?_
    rintro e w8 ⟨⟨v1, rfl, R1⟩, B8⟩
    obtain ⟨g1, k1', rfl, hg1, I1⟩ := R1.form (by rw [Pb.pm_len]; omega)
    clear R1 fall
    have hw8 := hw7.kept B8
    have yB8 := yB.kept B8
    have B80 := bOn B70 B8
    have b48 := b47.kept B8
    obtain ⟨fk, fr, flev, fl, fwin, fcode, ftable, fall⟩ := b48.prob hp
    clear fk fr flev fl fwin fcode ftable
    have c2 := score_Prefixes p g o cap hp hcap B (some ⟨w3.heap.size, 0, none⟩) m zB pB w8 hw8 yB8
    rw [lB] at c2
    clear lB c1
    go_wp2_with ((with_reducible apply ld); rfl; (with_reducible assumption); (simp only [List.set_cons_zero, List.set_cons_succ]; rfl))
    refine c2.mono ?_
    rintro e w9 ⟨⟨v2, rfl, R2⟩, B9⟩
    obtain ⟨g2, k2', rfl, hg2, I2⟩ := R2.form (by rw [Pb.pm_len]; omega)
    clear R2 fall
    have hw9 := hw8.kept B9
    have yA9 := (yA.kept B8).kept B9
    have B90 := bOn B80 B9
    have b49 := b48.kept B9
    have I19 := I1.kept B9
    obtain ⟨fk, fr, flev, fl, fwin, fcode, ftable, fall⟩ := b49.prob hp
    clear fk fr flev fl fwin fcode ftable
    have c3 := score_BothG p (some ⟨g, o, none⟩) cap hp hcap A (some ⟨w2.heap.size, 0, none⟩) m zA w9 hw9 yA9
    have eD : p.dip A = dipOf (p.pm A) := by unfold Pb.dip; rw [if_neg (by simp [pA])]
    have eT : p.tot A = lastOf (p.pm A) := by unfold Pb.tot; rw [if_neg (by simp [pA])]
    rw [lA', pA, eD, eT] at c3
    clear lA' c2 eD eT
    go_wp2_with ((with_reducible apply ld); rfl; (with_reducible assumption); (simp only [List.set_cons_zero, List.set_cons_succ]; rfl))
    refine c3.mono ?_
    rintro e w10 ⟨rfl, B10⟩
    clear fall c3
    go_wp2_with fail
    have b50 := b49.kept B10
    have I1a := I19.kept B10
    have I2a := I2.kept B10
    have B100 := bOn B90 B10
    clear I1 I19 I2 yA yB yB8 yA9 hw7 hw8 hw9 pA pB zA zB ba4lt hws hl4 hl5 hl6 hs0 hs1 hs2 hs3 hs4 hs5 hs6 hs7 b44 b46 b47 b48 b49 b4 hx hy hw0
    obtain ⟨M, hMN⟩ : ∃ M, M = p.N.toNat := ⟨_, rfl⟩
    obtain ⟨la, hla⟩ : ∃ l, l = p.pm A := ⟨_, rfl⟩
    obtain ⟨lb, hlb⟩ : ∃ l, l = p.pm B := ⟨_, rfl⟩
    have lena : la.length = M + 1 := by rw [hla, hMN]; exact p.pm_len A
    have lenb : lb.length = M + 1 := by rw [hlb, hMN]; exact p.pm_len B
    have hMK : p.L + p.C.K = (M : Int) + 1 := by rw [hMN]; unfold Pb.N; omega
    have x0 : la[0]? = some 0 := by rw [hla]; exact p.pm_zero A
    have xl : la[M]? = some (lastOf la) := by rw [hla, hMN]; exact p.pm_last A
    have xc : Hid (∀ i, i ≤ k → i ≤ M → la[i]? = lb[i]?) := fun i hi hiM => by
      rw [hla, hlb]
      exact p.pm_congr (fun j hj => (hg j (by omega)).symm) (by omega)
    obtain ⟨d0, dl, dx⟩ := p.pm_dip A
    rw [← hla] at d0 dl dx
    rw [← hMN] at dx
    have DL := Lib.hid dl
    have DX := Lib.hid dx
    have dT : dipOf la ≤ lastOf la := dl M _ xl
    clear dl dx hg
    rw [← hla] at I1a ⊢
    rw [← hlb] at I2a ⊢
    obtain ⟨D, hD⟩ : ∃ D, D = dipOf la := ⟨_, rfl⟩
    obtain ⟨T, hT⟩ : ∃ T, T = lastOf la := ⟨_, rfl⟩
    rw [← hD] at d0 DL DX dT ⊢
    rw [← hT] at xl dT ⊢
    rw [lena, lenb]
    have X0 := Lib.hid x0
    have XL := Lib.hid xl
    clear hla hlb hMN hD hT x0 xl hN hwin
    refine (law11_num 0 _).mono ?_
    rintro e w11 ⟨rfl, B11⟩
    go_wp2_with fail
    refine (law11_num 0 _).mono ?_
    rintro e w12 ⟨rfl, B12⟩
    go_wp2_with fail
    refine (law11_num 0 _).mono ?_
    rintro e w13 ⟨rfl, B13⟩
    have B130 := bOn (bOn (bOn B100 B11) B12) B13
    have J1 := ((I1a.kept B11).kept B12).kept B13
    have J2 := ((I2a.kept B11).kept B12).kept B13
    have b53 := ((b50.kept B11).kept B12).kept B13
    clear I1a I2a b50
    have cl0 := J1.2 0 0 X0.out
    have clM := J1.2 M T XL.out
    obtain ⟨fk, fr, flev, fl, fwin, fcode, ftable, fall⟩ := b53.prob hp
    clear fr flev fwin fcode ftable fall
    go_upto_region 13 with (fail)
    have e1 : decide (D ≤ 0) = true := by simpa using d0
    have e2 : decide (D ≤ T) = true := by simpa using dT
    have hMs : M ≤ 2000 := by omega
    have hDx : Hid (seenD la D (M + 1) = true) := by
      obtain ⟨i, hi, hx⟩ := DX.out
      exact seenD_mem hx (by omega)
    clear d0 dT cl0 clM XL X0 DX
    go_wp2_with fail
    go_loopw [18, 19] (fun f i wr => ∃ c : Nat, c ≤ M + 1 ∧ i = .int .i64 c ∧ f = .bool (seenD la D c) ∧ IntsAt wr g1 la ∧ IntsAt wr g2 lb ∧ Below w.heap.size w wr) (fun _ i _ => M + 1 - (intOf i).toNat)
    case atStart => exact ⟨0, by omega, rfl, rfl, J1, J2, B130⟩
    case round =>
      obtain ⟨c, hcM, rfl, rfl, R1, R2, RB⟩ := hrel
      by_cases hcl : c < M + 1
      · have hxa := List.getElem?_eq_getElem (l := la) (i := c) (by omega)
        have hyb := List.getElem?_eq_getElem (l := lb) (i := c) (by omega)
        obtain ⟨x, hx⟩ : ∃ x, x = la[c] := ⟨_, rfl⟩
        obtain ⟨y, hy⟩ : ∃ y, y = lb[c] := ⟨_, rfl⟩
        rw [← hx] at hxa
        rw [← hy] at hyb
        have HX := Lib.hid hxa
        have q1 := KeptW.cell (R1.2 c x hxa)
        have q2 := KeptW.cell (R2.2 c y hyb)
        have hDx2 := DL.out c x hxa
        have k1 : decide ((c : Int) < (M : Int) + 1) = true := by simp; omega
        have k2 : (c : Int) < (M : Int) + 1 := by omega
        have k3 : decide (x < D) = false := by simp; omega
        have hxy : c ≤ k → x = y := fun h => by
          have := xc.out c h (by omega)
          rw [hxa, hyb] at this
          simpa using this
        clear hx hy hxa hyb
        have hs := seenD_succ (D := D) HX.out
        by_cases hck : c ≤ k
        · obtain rfl := hxy hck
          have k4 : decide ((c : Int) ≤ k) = true := by simp; omega
          clear hxy
          go_upto_region 16 with (fail)
          refine wp_region_kept (by kernel_rfl) (by kernel_rfl) ?_
          repeat first
            | go_big_quiet_skip
            | ((with_reducible apply q_ldG); rfl; rfl; (with_reducible assumption); (simp only [List.set_cons_zero, List.set_cons_succ]; rfl))
            | go_big_quiet_step (fail)
          refine wpQuiet_nil ?_
          intro w20 B20'
          have T1 := R1.kept B20'
          have T2 := R2.kept B20'
          have T3 := bOn RB B20'
          have cx := T1.2 c x HX.out
          cases hf : seenD la D c
          · rw [hf] at hs
            go_wp2
            go_roundw
            case measure => simp only [intOf]; omega
            case rel =>
              refine ⟨c + 1, by omega, by go_num, ?_, T1, T2, T3⟩
              rw [hs]
              simp
          · rw [hf] at hs
            go_wp2
            go_roundw
            case measure => simp only [intOf]; omega
            case rel =>
              refine ⟨c + 1, by omega, by go_num, ?_, T1, T2, T3⟩
              rw [hs]
              simp
        · have k4 : decide ((c : Int) ≤ k) = false := by simp; omega
          clear hxy
          go_upto_region 16 with (fail)
          refine wp_region_kept (by kernel_rfl) (by kernel_rfl) ?_
          repeat first
            | go_big_quiet_skip
            | ((with_reducible apply q_ldG); rfl; rfl; (with_reducible assumption); (simp only [List.set_cons_zero, List.set_cons_succ]; rfl))
            | go_big_quiet_step (fail)
          refine wpQuiet_nil ?_
          intro w20 B20'
          have T1 := R1.kept B20'
          have T2 := R2.kept B20'
          have T3 := bOn RB B20'
          have cx := T1.2 c x HX.out
          cases hf : seenD la D c
          · rw [hf] at hs
            go_wp2
            go_roundw
            case measure => simp only [intOf]; omega
            case rel =>
              refine ⟨c + 1, by omega, by go_num, ?_, T1, T2, T3⟩
              rw [hs]
              simp
          · rw [hf] at hs
            go_wp2
            go_roundw
            case measure => simp only [intOf]; omega
            case rel =>
              refine ⟨c + 1, by omega, by go_num, ?_, T1, T2, T3⟩
              rw [hs]
              simp
      · obtain rfl : c = M + 1 := by omega
        have hs := hDx.out
        have k1 : decide ((((M + 1 : Nat)) : Int) < (M : Int) + 1) = false := by simp
        rw [hs]
        go_wp2
        go_ret
        exact ⟨rfl, RB⟩
  · clear fall
    go_wp2_with fail
    refine (law11_knows _).mono ?_
    rintro e w2 ⟨rfl, B2⟩
    go_wp2
    go_ret
    exact ⟨rfl, bOn (bOn B0 B1) B2⟩
end Go.Proofs.Ytiiljecocajdpaa
