import Derived.Test.YtnjmplapjnnjdaaGreatRqAp
import Derived.Test.YtnjmplapjnnjdaaGreatTreeV
set_option linter.unusedSimpArgs false
set_option linter.unusedVariables false
set_option linter.unnecessarySimpa false
/- The search of layer 17, the document's: bucket, next, lowest, out. -/
namespace Go.Proofs.YtnjmplapjnnjdaaGreat
open Go.RowKit
set_option linter.unusedSimpArgs false
set_option linter.unusedVariables false

set_option maxRecDepth 5000 in
theorem rq_bucket {w : World} {p : Pb} (hp : p.Ok) {D : Int} (hD : 1 ≤ D) {most : Nat} {s : Bq} {es : List (Ent × Value)} {fv : Value} {A : RA} {Ow : Nat → Prop} (h : Rq w p D most s es fv A Ow) {i : Nat} {x : Ent × Value} (hx : es[i]? = some x) (m0 : -100000000 ≤ x.1.n.m) (m1 : x.1.n.m ≤ 100000000) :
    Pure Tryz.prog 48 #[.pointer (some ⟨A.sb, 0, none⟩), .int .i64 i] w (.int .i64 (x.1.n.m / D)) := by
  have hi : i < es.length := (List.getElem?_eq_some_iff.1 hx).1
  have hi2 : (i : Int) < es.length := by omega
  have hat := h.at_ hp
  have c42 := hat.c42
  have c43 := hat.c43
  have cm := (h.ent hx).2.2.1
  obtain ⟨mt, hmt⟩ : ∃ mt, mt = x.1.n.m := ⟨_, rfl⟩
  rw [← hmt] at m0 m1 cm ⊢
  clear hmt hat
  go_enter Tryz.func48, Tryz.ntmps48
  go_upto_region 1 with fail
  (refine wp_region_kept_tail 14 (by kernel_rfl) (by kernel_rfl) ?_; simp only [List.take_succ_cons, List.take_zero, List.drop_succ_cons, List.drop_zero])
  have q42 := KeptW.cell c42
  have q43 := KeptW.cell c43
  have qm := KeptW.cell cm
  clear c42 c43 cm
  repeat first
    | go_big_quiet_step (exact Calls.kept (ref11_Down mt D hD (by omega) (by omega) _))
  refine wpQuiet_nil ?_
  intro w1 B1
  go_wp2
  go_ret
  exact ⟨rfl, B1⟩
theorem rq_key {w : World} {p : Pb} {D : Int} {most : Nat} {s : Bq} {es : List (Ent × Value)} {fv : Value} {A : RA} {Ow : Nat → Prop} (h : Rq w p D most s es fv A Ow) {i : Nat} {x : Ent × Value} (hx : es[i]? = some x) : (keysOf D s.L).getD i 0 = x.1.n.m / D := by
  unfold keysOf
  rw [← h.ents, List.map_map, List.getD_eq_getElem?_getD, List.getElem?_map, hx]
  rfl
theorem lastMax_one (l : List Int) : lastMax l 1 = 0 := by unfold lastMax; split <;> rfl
theorem firstMin_one (l : List Int) : firstMin l 1 = 0 := by unfold firstMin; split <;> rfl

set_option maxRecDepth 5000 in
theorem rq_next {w : World} {p : Pb} (hp : p.Ok) {D : Int} (hD : 1 ≤ D) {most : Nat} {s : Bq} {es : List (Ent × Value)} {fv : Value} {A : RA} {Ow : Nat → Prop} (h : Rq w p D most s es fv A Ow) (hne : 1 ≤ es.length) (hl : es.length ≤ 70000) (hm : ∀ x ∈ es, -100000000 ≤ x.1.n.m ∧ x.1.n.m ≤ 100000000) :
    Pure Tryz.prog 49 #[.pointer (some ⟨A.sb, 0, none⟩)] w (.int .i64 (nextIx D s.L)) := by
  have hfin : nextIx D s.L = lastMax (keysOf D s.L) es.length := by unfold nextIx; rw [h.len]
  have HF := Lib.hid hfin
  have hkey := @rq_key _ _ _ _ _ _ _ _ _ h
  have h63 : (es.length : Int) ≤ 9223372036854775807 := by omega
  clear hfin
  go_enter Tryz.func49, Tryz.ntmps49
  go_wp2_with fail
  go_loopw [3, 4] (fun v i wr => ∃ k : Nat, 1 ≤ k ∧ k ≤ es.length ∧ i = .int .i64 k ∧ v = .int .i64 (lastMax (keysOf D s.L) k) ∧ Below w.heap.size w wr) (fun _ i _ => es.length - (intOf i).toNat)
  case atStart => exact ⟨1, Nat.le_refl _, hne, rfl, by rw [lastMax_one]; rfl, Below.refl _ _⟩
  case round =>
    obtain ⟨k, hk1, hk, rfl, rfl, BR⟩ := hrel
    have hR := h.kept BR
    have c43 := (hR.at_ hp).c43
    have hfk := (lastMax_facts (keysOf D s.L) k hk1).1
    obtain ⟨f, hf⟩ : ∃ f, f = lastMax (keysOf D s.L) k := ⟨_, rfl⟩
    rw [← hf] at hfk ⊢
    have HFK := Lib.hid hf
    clear hf
    by_cases hkl : k < es.length
    · obtain ⟨k1, k2⟩ := ap_lt hkl
      have hb1 := ap_bd hkl h63
      have hfl : f < es.length := by omega
      obtain ⟨x, hx⟩ : ∃ x, es[k]? = some x := ⟨_, List.getElem?_eq_getElem hkl⟩
      obtain ⟨y, hy⟩ : ∃ y, es[f]? = some y := ⟨_, List.getElem?_eq_getElem hfl⟩
      have hmx := hm x (List.mem_of_getElem? hx)
      have hmy := hm y (List.mem_of_getElem? hy)
      have hs : lastMax (keysOf D s.L) (k + 1) = if y.1.n.m / D ≤ x.1.n.m / D then k else f := by
        have e : lastMax (keysOf D s.L) (k + 1) = if (keysOf D s.L).getD (lastMax (keysOf D s.L) k) 0 ≤ (keysOf D s.L).getD k 0 then k else lastMax (keysOf D s.L) k := rfl
        rw [e, ← HFK.out, hkey hx, hkey hy]
      have HS := Lib.hid hs
      clear hs
      go_wp2_with fail
      refine (rq_bucket hp hD hR hx hmx.1 hmx.2).mono ?_
      rintro e w1 ⟨rfl, B1⟩
      have hR1 := hR.kept B1
      go_wp2_with fail
      refine (rq_bucket hp hD hR1 hy hmy.1 hmy.2).mono ?_
      rintro e w2 ⟨rfl, B2⟩
      have B20 := bOn (bOn BR B1) B2
      obtain ⟨u, hu⟩ : ∃ u, u = x.1.n.m / D := ⟨_, rfl⟩
      obtain ⟨v, hv⟩ : ∃ v, v = y.1.n.m / D := ⟨_, rfl⟩
      rw [← hu, ← hv] at HS
      rw [← hu, ← hv]
      clear hu hv hR hR1 c43 BR B1 B2 hx hy hmx hmy
      by_cases hlt : v ≤ u
      · have hd : decide (v ≤ u) = true := by simpa using hlt
        have hs := HS.out
        rw [if_pos hlt] at hs
        have HT := Lib.hid hs
        clear hs HS
        go_wp2
        go_roundw
        case measure => first | exact ap_meas' hkl | exact ap_meas hkl hb1
        case rel => exact ⟨k + 1, by omega, hkl, (by first | rfl | exact congrArg (Value.int .i64) (ap_succ hb1)), by rw [HT.out], B20⟩
      · have hd : decide (v ≤ u) = false := by simpa using hlt
        have hs := HS.out
        rw [if_neg hlt] at hs
        have HT := Lib.hid hs
        clear hs HS
        go_wp2
        go_roundw
        case measure => first | exact ap_meas' hkl | exact ap_meas hkl hb1
        case rel => exact ⟨k + 1, by omega, hkl, (by first | rfl | exact congrArg (Value.int .i64) (ap_succ hb1)), by rw [HT.out], B20⟩
    · obtain rfl := ap_end hkl hk
      have k3 : decide ((es.length : Int) < (es.length : Int)) = false := by simp
      go_wp2
      go_ret
      exact ⟨by rw [HF.out, HFK.out]; rfl, BR⟩

set_option maxRecDepth 5000 in
theorem rq_lowest {w : World} {p : Pb} (hp : p.Ok) {D : Int} (hD : 1 ≤ D) {most : Nat} {s : Bq} {es : List (Ent × Value)} {fv : Value} {A : RA} {Ow : Nat → Prop} (h : Rq w p D most s es fv A Ow) (hne : 1 ≤ es.length) (hl : es.length ≤ 70000) (hm : ∀ x ∈ es, -100000000 ≤ x.1.n.m ∧ x.1.n.m ≤ 100000000) :
    Pure Tryz.prog 88 #[.pointer (some ⟨A.sb, 0, none⟩)] w (.int .i64 (lowIx D s.L)) := by
  have hfin : lowIx D s.L = firstMin (keysOf D s.L) es.length := by unfold lowIx; rw [h.len]
  have HF := Lib.hid hfin
  have hkey := @rq_key _ _ _ _ _ _ _ _ _ h
  have h63 : (es.length : Int) ≤ 9223372036854775807 := by omega
  clear hfin
  go_enter Tryz.func88, Tryz.ntmps88
  go_wp2_with fail
  go_loopw [3, 4] (fun v i wr => ∃ k : Nat, 1 ≤ k ∧ k ≤ es.length ∧ i = .int .i64 k ∧ v = .int .i64 (firstMin (keysOf D s.L) k) ∧ Below w.heap.size w wr) (fun _ i _ => es.length - (intOf i).toNat)
  case atStart => exact ⟨1, Nat.le_refl _, hne, rfl, by rw [firstMin_one]; rfl, Below.refl _ _⟩
  case round =>
    obtain ⟨k, hk1, hk, rfl, rfl, BR⟩ := hrel
    have hR := h.kept BR
    have c43 := (hR.at_ hp).c43
    have hfk := (firstMin_facts (keysOf D s.L) k hk1).1
    obtain ⟨f, hf⟩ : ∃ f, f = firstMin (keysOf D s.L) k := ⟨_, rfl⟩
    rw [← hf] at hfk ⊢
    have HFK := Lib.hid hf
    clear hf
    by_cases hkl : k < es.length
    · obtain ⟨k1, k2⟩ := ap_lt hkl
      have hb1 := ap_bd hkl h63
      have hfl : f < es.length := by omega
      obtain ⟨x, hx⟩ : ∃ x, es[k]? = some x := ⟨_, List.getElem?_eq_getElem hkl⟩
      obtain ⟨y, hy⟩ : ∃ y, es[f]? = some y := ⟨_, List.getElem?_eq_getElem hfl⟩
      have hmx := hm x (List.mem_of_getElem? hx)
      have hmy := hm y (List.mem_of_getElem? hy)
      have hs : firstMin (keysOf D s.L) (k + 1) = if x.1.n.m / D < y.1.n.m / D then k else f := by
        have e : firstMin (keysOf D s.L) (k + 1) = if (keysOf D s.L).getD k 0 < (keysOf D s.L).getD (firstMin (keysOf D s.L) k) 0 then k else firstMin (keysOf D s.L) k := rfl
        rw [e, ← HFK.out, hkey hx, hkey hy]
      have HS := Lib.hid hs
      clear hs
      go_wp2_with fail
      refine (rq_bucket hp hD hR hx hmx.1 hmx.2).mono ?_
      rintro e w1 ⟨rfl, B1⟩
      have hR1 := hR.kept B1
      go_wp2_with fail
      refine (rq_bucket hp hD hR1 hy hmy.1 hmy.2).mono ?_
      rintro e w2 ⟨rfl, B2⟩
      have B20 := bOn (bOn BR B1) B2
      obtain ⟨u, hu⟩ : ∃ u, u = x.1.n.m / D := ⟨_, rfl⟩
      obtain ⟨v, hv⟩ : ∃ v, v = y.1.n.m / D := ⟨_, rfl⟩
      rw [← hu, ← hv] at HS
      rw [← hu, ← hv]
      clear hu hv hR hR1 c43 BR B1 B2 hx hy hmx hmy
      by_cases hlt : u < v
      · have hd : decide (u < v) = true := by simpa using hlt
        have hs := HS.out
        rw [if_pos hlt] at hs
        have HT := Lib.hid hs
        clear hs HS
        go_wp2
        go_roundw
        case measure => first | exact ap_meas' hkl | exact ap_meas hkl hb1
        case rel => exact ⟨k + 1, by omega, hkl, (by first | rfl | exact congrArg (Value.int .i64) (ap_succ hb1)), by rw [HT.out], B20⟩
      · have hd : decide (u < v) = false := by simpa using hlt
        have hs := HS.out
        rw [if_neg hlt] at hs
        have HT := Lib.hid hs
        clear hs HS
        go_wp2
        go_roundw
        case measure => first | exact ap_meas' hkl | exact ap_meas hkl hb1
        case rel => exact ⟨k + 1, by omega, hkl, (by first | rfl | exact congrArg (Value.int .i64) (ap_succ hb1)), by rw [HT.out], B20⟩
    · obtain rfl := ap_end hkl hk
      have k3 : decide ((es.length : Int) < (es.length : Int)) = false := by simp
      go_wp2
      go_ret
      exact ⟨by rw [HF.out, HFK.out]; rfl, BR⟩
theorem rq_flat {x : Ent × Value} (h : ∃ a n c, x.2 = .slice a n c) : Flat (rqCell x).toArray := by
  obtain ⟨a, n, c, h⟩ := h
  intro v hv
  simp [rqCell, h] at hv
  rcases hv with rfl | rfl | rfl | rfl <;> exact ⟨fun _ h => (by cases h), fun _ h => (by cases h)⟩
theorem rq_take {w : World} {p : Pb} {D : Int} {most : Nat} {s : Bq} {es : List (Ent × Value)} {fv : Value} {A : RA} {Ow : Nat → Prop} (h : Rq w p D most s es fv A Ow) {i : Nat} (hi : i ≤ es.length) : ∀ j u, (rqRow (es.take i))[j]? = some u → w.cell? ((⟨A.lb, 0, none⟩ : Addr).add j) = some u := by
  intro j u hj
  have hadd : (⟨A.lb, 0, none⟩ : Addr).add j = ⟨A.lb, j, none⟩ := by unfold Addr.add; split <;> simp_all
  rw [hadd]
  refine ownsN_cell h.list ?_
  rw [← rqRow_take _ _ hi, List.getElem?_take] at hj
  split at hj
  · exact hj
  · cases hj
theorem rq_drop {w : World} {p : Pb} {D : Int} {most : Nat} {s : Bq} {es : List (Ent × Value)} {fv : Value} {A : RA} {Ow : Nat → Prop} (h : Rq w p D most s es fv A Ow) {i o : Nat} (hi : i ≤ es.length) (ho : i < es.length → o = 0 + i * 4) : ∀ j u, (rqRow (es.drop i))[j]? = some u → w.cell? ((⟨A.lb, o, none⟩ : Addr).add j) = some u := by
  intro j u hj
  have hlt : i < es.length := by
    rcases Nat.lt_or_ge i es.length with h | h
    · exact h
    · rw [List.drop_of_length_le h] at hj
      simp [rqRow] at hj
  have hadd : (⟨A.lb, o, none⟩ : Addr).add j = ⟨A.lb, o + j, none⟩ := by unfold Addr.add; split <;> simp_all
  rw [hadd, ho hlt, Nat.zero_add]
  refine ownsN_cell h.list ?_
  rw [← rqRow_drop _ _ hi, List.getElem?_drop] at hj
  exact hj
theorem rq_one {w : World} {p : Pb} {D : Int} {most : Nat} {s : Bq} {es : List (Ent × Value)} {fv : Value} {A : RA} {Ow : Nat → Prop} (h : Rq w p D most s es fv A Ow) (l : List (Ent × Value)) (hl : ∀ x ∈ l, x ∈ es) : ∀ u ∈ rqRow l, u.oneCell' = true := by
  intro u hu
  obtain ⟨x, hx, hux⟩ := List.mem_flatMap.1 hu
  exact rqCell_one (h.bits x (hl x hx)).one u hux
def RqOutPost (p : Pb) (D : Int) (most : Nat) (s : Bq) (es : List (Ent × Value)) (fv : Value) (A : RA) (Ow : Nat → Prop) (i : Nat) (x : Ent × Value) (w : World) (e : Ending) (w' : World) : Prop :=
  e = .returned (.agg (rqCell x).toArray) ∧ (∃ g c, Rq w' p D most { s with L := s.L.eraseIdx i } (es.eraseIdx i) fv { A with lb := g, cap := c } Ow ∧ w.heap.size ≤ g) ∧ Turn (fun k => k = A.sb) w w'
set_option maxRecDepth 5000 in
theorem rq_out {w : World} {p : Pb} (hp : p.Ok) {D : Int} {most : Nat} {s : Bq} {es : List (Ent × Value)} {fv : Value} {A : RA} {Ow : Nat → Prop} (h : Rq w p D most s es fv A Ow) {i : Nat} {x : Ent × Value} (hx : es[i]? = some x) (hl : es.length ≤ 70000) :
    Calls Tryz.prog 75 #[.pointer (some ⟨A.sb, 0, none⟩), .int .i64 i] w (RqOutPost p D most s es fv A Ow i x w) := by
  have hi : i < es.length := (List.getElem?_eq_some_iff.1 hx).1
  have hi2 : (i : Int) < es.length := by omega
  have hxm := List.mem_of_getElem? hx
  obtain ⟨ax, cx, hxv, _⟩ := h.bits x hxm
  have hfl := rq_flat (x := x) ⟨ax, _, cx, hxv⟩
  have hsz : (rqCell x).toArray.size = 4 := rfl
  clear hxv hxm
  go_enter Tryz.func75, Tryz.ntmps75
  go_upto_region 1 with fail
  refine name1 ?_
  intro w0 b0 B0
  have h0 := h.kept B0
  have c43 := (h0.at_ hp).c43
  have gx := (h0.ent hx).2.2.2.2.1
  have bz := Box.new w0 #[.int .u32 0, .int .i64 0, .int .i64 0, .slice none 0 0] 77
  obtain ⟨X, hX⟩ : ∃ X, X = (rqCell x).toArray := ⟨_, rfl⟩
  rw [← hX] at gx hfl hsz
  have HX := Lib.hid hX
  have HSZ := Lib.hid hsz
  have HFL := Lib.hid hfl
  clear hX hsz
  go_upto_region 2 with (first | ((with_reducible apply ld); rfl; (with_reducible assumption); (simp only [List.set_cons_zero, List.set_cons_succ]; rfl)) | ((with_reducible apply stO); rfl; rfl; exact bz; rfl; exact HSZ.out; exact hfl; intro w1 b1 B1 ho1 hs1))
  have B1' : Below w0.heap.size w0 w1 := ((Below.refl _ w0).alloc (Nat.le_refl _) _).trans B1
  have h1 := h0.kept B1'
  have b01 := b0.kept B1'
  have B10 := bOn B0 B1'
  have BA : Below w1.heap.size w1 (w1.alloc (.cells #[] 77)) := (Below.refl _ w1).alloc (Nat.le_refl _) _
  have hA := h1.kept BA
  have c43 := (hA.at_ hp).c43
  have hown : (w1.alloc (.cells #[] 77)).ownsRow 0 77 4 (.slice (some ⟨w1.heap.size, 0, none⟩) 0 0) 0 [] := World.ownsRow_lit (e := 77) (size := 4) w1 #[] 0 (Nat.zero_le _) (by decide) rfl
  have hcap := ownsN_cap h.list
  have hic : i ≤ A.cap := by omega
  have n1 := Lib.hid (rq_take hA (by omega : i ≤ es.length))
  have o1 := Lib.hid (rq_one hA (es.take i) fun y hy => List.mem_of_mem_take hy)
  have l1 : (rqRow (es.take i)).length = i * 4 := by rw [rqRow_len, List.length_take, Nat.min_eq_left (by omega)]
  have L1 := Lib.hid l1
  have hi7 : i ≤ 70000 := by omega
  clear bz ho1 hs1 B1 h0 gx hfl l1
  go_upto_region 3 with (first | ((with_reducible apply w_slHiR (j := i)); rfl; rfl; exact hic) | ((with_reducible apply apR (us := rqRow (es.take i)) (g := w1.heap.size) (n := 0) (cap := 0) (xs := []) (base := 0)); rfl; rfl; exact hown; decide; exact L1.out; exact n1.out; exact o1.out; omega; omega; omega; intro g2 c2 w2 hO2 hg2))
  simp only [Nat.zero_add, List.nil_append] at hO2
  obtain ⟨hg3, B2⟩ := apR_below (B := w1.heap.size) BA.size (Nat.le_refl _) hg2
  have B21 : Below w1.heap.size w1 w2 := BA.trans B2
  have h2 := h1.kept B21
  have b02 := b01.kept B21
  have b12 := b1.kept B21
  have B20 := bOn B10 B21
  have c43 := (h2.at_ hp).c43
  have z43 := (h2.at_ hp).fz 43
  have o2 := Lib.hid (rq_one h2 (es.drop (i + 1)) fun y hy => List.mem_of_mem_drop hy)
  have l2 : (rqRow (es.drop (i + 1))).length = (es.length - (i + 1)) * 4 := by rw [rqRow_len, List.length_drop]
  have L2 := Lib.hid l2
  have HO2 := Lib.hid hO2
  have hw1 : w.heap.size ≤ w1.heap.size := B10.size
  have hr7 : es.length - (i + 1) ≤ 70000 := by omega
  have hi1 : i + 1 ≤ es.length := by omega
  have hw1i : (i : Int) + 1 ≤ 9223372036854775807 := by omega
  have hlt1 : A.sb < w1.heap.size := h1.hasLt (.inl rfl)
  have hs21 : w1.heap.size ≤ w2.heap.size := B21.size
  have hz3 := fun k (hk : A.has k ∨ Ow k) => hk.elim h1.hasLt fun hk => (h1.ow k hk).2
  have HZ3 := Lib.hid hz3
  have B30 := B10
  have LW := Lib.hid (And.intro b0.lt b1.lt)
  have HB := Lib.hid (And.intro h1 B21)
  clear hO2 hg2 B2 B21 BA hown hA h1 b01 b0 b1 l2 n1 o1 L1 hz3 B10
  go_upto_region 4 with (first | ((with_reducible apply w_slLo (j := i + 1)); rfl; rfl; exact hi1; exact hcap; intro o3 ho3; have n3 := Lib.hid (rq_drop h2 hi1 ho3); clear ho3) | ((with_reducible apply apR (us := rqRow (es.drop (i + 1))) (g := g2) (n := i) (cap := c2) (xs := rqRow (es.take i)) (base := 0)); rfl; rfl; exact HO2.out; decide; exact L2.out; exact n3.out; exact o2.out; omega; omega; omega; intro g3 c3 w3 hO3 hg4; obtain ⟨hg5, B3⟩ := apR_below (B := w1.heap.size) hs21 hg3 hg4; have c44 := (B3.cell (p := ⟨A.sb, 43, none⟩) hlt1).trans c43; have z44 := (B3.frozen (p := ⟨A.sb, 43, none⟩) hlt1).trans z43; clear c43 z43))
  obtain ⟨h1, B21⟩ := HB.out
  have B31 : Below w1.heap.size w1 w3 := B21.trans B3
  have hlen : (es.eraseIdx i).length = i + (es.length - (i + 1)) := by rw [List.length_eraseIdx_of_lt hi]; omega
  have hrow : rqRow (es.eraseIdx i) = rqRow (es.take i) ++ rqRow (es.drop (i + 1)) := by rw [List.eraseIdx_eq_take_drop_succ, rqRow_app]
  have hOn : w3.ownsRow 0 77 4 (.slice (some ⟨g3, 0, none⟩) (es.eraseIdx i).length c3) (es.eraseIdx i).length (rqRow (es.eraseIdx i)) := by rw [hlen, hrow]; exact hO3
  have hmap : (es.eraseIdx i).map (·.1) = s.L.eraseIdx i := by rw [map_erase, h1.ents]
  obtain ⟨hN, _⟩ := Rq.newList (s' := { s with L := s.L.eraseIdx i }) hp h1 (fun k hk _ => B31.block k (HZ3.out k hk)) B31.size hOn (.inr hg5) (by rw [hmap]) (fun y hy => h1.bits y (List.mem_of_mem_eraseIdx hy))
  rw [hlen] at hN
  obtain ⟨lw0, lw1⟩ := LW.out
  have hsw : A.sb < w.heap.size := h.hasLt (.inl rfl)
  have b03 := (b02.below (w' := w3) B3 (by omega)).setOther (p := ⟨A.sb, 43, none⟩) (by show A.sb ≠ w.heap.size; omega) (.slice (some ⟨g3, 0, none⟩) (i + (es.length - (i + 1))) c3)
  have b13 := (b12.below (w' := w3) B3 (by omega)).setOther (p := ⟨A.sb, 43, none⟩) (by show A.sb ≠ w0.heap.size; omega) (.slice (some ⟨g3, 0, none⟩) (i + (es.length - (i + 1))) c3)
  have T3 : Turn (fun k => k = A.sb) w (w3.setCell ⟨A.sb, 43, none⟩ (.slice (some ⟨g3, 0, none⟩) (i + (es.length - (i + 1))) c3)) := (Turn.ofBelow (B20.trans (B3.mono hw1))).trans (Turn.setCell _ _ _ rfl)
  have hsz3 : w3.heap.size ≤ (w3.setCell ⟨A.sb, 43, none⟩ (.slice (some ⟨g3, 0, none⟩) (i + (es.length - (i + 1))) c3)).heap.size := by simp
  have hg9 : w.heap.size ≤ g3 := by omega
  refine nameAny (fun W => Rq W p D most { s with L := s.L.eraseIdx i } (es.eraseIdx i) fv { A with lb := g3, cap := c3 } Ow ∧ Box W w.heap.size #[.int .u32 0, .int .i64 0, .int .i64 0, .slice none 0 0] ∧ Box W w0.heap.size X ∧ Turn (fun k => k = A.sb) w W) ⟨hN, b03, b13, T3⟩ ?_
  clear hN b03 b13 T3 hsz3 c44 z44 hrow hmap hOn hO3 hlen b02 b12 h2
  rintro w4 ⟨hN, b04, b14, T4⟩
  have hfl2 := HFL.out
  have g4 := b14.load (off := 0) (n := 4) (cs' := X) (by rw [HSZ.out]; exact Nat.le_refl _) (Array.extract_eq_self_of_le (by rw [HSZ.out]; exact Nat.le_refl _))
  go_wp2_with (first | ((with_reducible apply ld); rfl; (with_reducible assumption); (simp only [List.set_cons_zero, List.set_cons_succ]; rfl)) | ((with_reducible apply stO); rfl; rfl; exact b04; rfl; exact HSZ.out; exact hfl2; intro w5 b5 B5 ho5 hs5))
  refine bodyPost_ret (results_cellAgg rfl rfl (b5.load (off := 0) (n := 4) (cs' := X) (by rw [HSZ.out]; exact Nat.le_refl _) (Array.extract_eq_self_of_le (by rw [HSZ.out]; exact Nat.le_refl _)))) rfl ?_
  have hne : ∀ k, ({ A with lb := g3, cap := c3 } : RA).has k ∨ Ow k → k ≠ w.heap.size := fun k hk => by
    rcases hk with (h1 | h1 | h1 | h1) | h1
    · have h1' : k = A.sb := h1
      omega
    · have h1' : k = g3 := h1
      omega
    · have h1' : k = A.tb := h1
      have := h.hasLt (k := A.tb) (by simp [RA.has])
      omega
    · have h1' : k = A.g := h1
      have := h.hasLt (k := A.g) (by simp [RA.has])
      omega
    · have := (h.ow k h1).2
      omega
  rw [HX.out]
  exact (show RqOutPost _ _ _ _ _ _ _ _ _ _ _ _ _ from ⟨rfl, ⟨g3, c3, hN.same (by omega) fun k hk => ho5 k (hne k hk), hg9⟩, ⟨B5.os.trans T4.os, B5.tape.trans T4.tape, B5.output.trans T4.output, Nat.le_trans T4.size B5.size, fun k hk hn => (ho5 k (by omega)).trans (T4.block k hk hn)⟩⟩)
end Go.Proofs.YtnjmplapjnnjdaaGreat

/- Orders as a tree, as in TreeV; a step that holds under the word may stand behind others ahead of the operation s. No program's text is named here. -/
namespace Go.Proofs.YtnjmplapjnnjdaaGreat
open Go.RowKit

section
variable {P : Program} {ops : Array Oper} {md : Region.Mode} {Q : Exit → Act → World → Prop} {I : World → Prop} {s : Nat}
theorem wpAnyI_pureT {i : Nat} {oi : Oper} {v : Value} {W : Nat → Bool} (h0 : ops[i]? = some oi) (hg : oi.guard = none) (hW : ∀ k, W k = true → ∃ ok, ops[k]? = some ok ∧ ∃ e ∈ ok.after, Region.binds md e = true ∧ (e.on = i ∨ W e.on = true)) (hs : W s = true) (hne : i ≠ s) (hsel : Region.noSelect ops = true) (hQ : ∀ e a w, Q e a w → e = .normal) : ∀ (f : Nat) (listed : Array Bool) (a : Act) (w : World),
    (∀ j oj, ops[j]? = some oj → j ≠ i → listed.getD j true = false → (∀ e ∈ oj.after, Region.binds md e = true → e.on ≠ i) → oi.apart ops oj = true) → i ∈ Region.ready md ops listed →
    (∀ w, I w → (execOp a.eval oi).run P w = .ok (.value v) w) → I w → listed.getD s true = false → (∀ k, W k = true → listed.getD k true = false) → wpAnyI P md ops I s Q f (listed.setIfInBounds i true) (a.put oi.dst v) w → wpAnyI P md ops I s Q (f + 1) listed a w := by
  have op0 : ∀ (K : Act → World → Prop) (a : Act) (w : World), I w → (∀ w, I w → (execOp a.eval oi).run P w = .ok (.value v) w) → K (a.put oi.dst v) w → wpOp P ops Q i K a w := fun K a w hw hv hK => by
    unfold wpOp
    rw [h0]
    simp only
    rw [if_pos (want_none hg)]
    refine .inl ?_
    unfold Oper.wp
    rw [hv w hw]
    exact hK
  have hjW : ∀ (listed : Array Bool), (∀ k, W k = true → listed.getD k true = false) → i ∈ Region.ready md ops listed → ∀ j ∈ Region.ready md ops listed, W j = false := fun listed hun hr j hj => by
    cases hw : W j with
    | false => rfl
    | true =>
      exfalso
      obtain ⟨_, oj, hoj, hall⟩ := mem_ready.1 hj
      obtain ⟨o', ho', e, he, hb, hon⟩ := hW j hw
      obtain rfl : o' = oj := Option.some.inj (ho'.symm.trans hoj)
      have h1 := hall e he hb
      rcases hon with hon | hon
      · have h2 := (mem_ready.1 hr).1
        rw [hon, getD_both h2] at h1
        cases h1
      · rw [getD_both (hun _ hon)] at h1
        cases h1
  intro f
  induction f with
  | zero =>
    intro listed a w _ hr hv hw _ _ H
    refine ⟨fun _ => hw, fun hh => (by rw [hh] at hr; cases hr), fun j hj => ?_⟩
    by_cases hj0 : j = i
    · subst hj0; exact op0 _ _ _ hw hv H
    · have := ready_mono hj hj0
      rw [H.2.1] at this
      cases this
  | succ f ih =>
    intro listed a w hfree hr hv hw hsun hWun H
    refine ⟨fun _ => hw, fun hh => (by rw [hh] at hr; cases hr), fun j hj => ?_⟩
    by_cases hj0 : j = i
    · subst hj0; exact op0 _ _ _ hw hv H
    have hjw := hjW listed hWun hr j hj
    have hjsn : j ≠ s := fun e => by rw [e, hs] at hjw; cases hjw
    obtain ⟨hjun, oj, hoj, hall⟩ := mem_ready.1 hj
    have hnot : ∀ e ∈ oj.after, Region.binds md e = true → e.on ≠ i := fun e he hb heq => by
      have h1 := hall e he hb
      have h2 := (mem_ready.1 hr).1
      rw [heq, getD_both h2] at h1
      cases h1
    have hap := hfree j oj hoj hj0 hjun hnot
    have step := wpOp_putP hoj (Region.noSelect_spec hsel j oj · · hoj) (Region.noSelect_spec hsel i oi · · h0) hap hQ (H.2.2 j (ready_mono hj hj0))
    refine wpOp_mono (fun a' w' ⟨e1, hk⟩ => ?_) step
    refine ih (listed.setIfInBounds j true) a' w' (fun k ok hk2 hk0 hun hno => ?_) (ready_mono hr (Ne.symm hj0)) (fun w hh => by rw [e1]; exact hv w hh) (wpAnyI_I hk (by rw [getD_set_ne true hjsn, getD_set_ne true hne]; exact hsun)) (by rw [getD_set_ne true hjsn]; exact hsun) (fun k hk => by rw [getD_set_ne true (fun e => by rw [e, hk] at hjw; cases hjw)]; exact hWun k hk) ?_
    · refine hfree k ok hk2 hk0 ?_ hno
      by_cases hjk : j = k
      · subst hjk; exact hjun
      · rwa [getD_set_ne true hjk] at hun
    · rw [Array.setIfInBounds_comm _ _ hj0]
      exact hk
/-- What waits for the operation i, at first or at second hand. -/
def behL (md : Region.Mode) (ops : Array Oper) (i : Nat) : List Bool := ops.toList.foldl (fun acc o => acc ++ [o.after.any fun e => Region.binds md e && (e.on == i || acc.getD e.on false)]) []
def behT (md : Region.Mode) (ops : Array Oper) (s i : Nat) (d : Array Bool) (W : List Bool) : Bool :=
  W.getD s false && ((List.range W.length).all fun k => !(W.getD k false) || (!(d.getD k true) && (((ops[k]?).map fun o => o.after.any fun e => Region.binds md e && (e.on == i || W.getD e.on false)).getD false)))
def behW (md : Region.Mode) (ops : Array Oper) (s i : Nat) (d : Array Bool) : Bool := behT md ops s i d (behL md ops i)
theorem behT_all {i : Nat} {d : Array Bool} {W : List Bool} (h : behT md ops s i d W = true) (k : Nat) (hk : W.getD k false = true) : d.getD k true = false ∧ ∃ ok, ops[k]? = some ok ∧ ∃ e ∈ ok.after, Region.binds md e = true ∧ (e.on = i ∨ W.getD e.on false = true) := by
  unfold behT at h
  rw [Bool.and_eq_true] at h
  have hlt : k < W.length := by
    rcases Nat.lt_or_ge k W.length with h | h
    · exact h
    · rw [List.getD_eq_getElem?_getD, List.getElem?_eq_none h] at hk; cases hk
  have := List.all_eq_true.1 h.2 k (List.mem_range.2 hlt)
  rw [hk] at this
  simp only [Bool.not_true, Bool.false_or, Bool.and_eq_true, Bool.not_eq_true'] at this
  refine ⟨this.1, ?_⟩
  cases ho : ops[k]? with
  | none => rw [ho] at this; cases this.2
  | some o =>
    rw [ho] at this
    obtain ⟨e, he, hb⟩ := Array.any_eq_true'.1 this.2
    simp only [Bool.and_eq_true, Bool.or_eq_true, beq_iff_eq] at hb
    exact ⟨o, rfl, e, he, hb.1, hb.2⟩
theorem behW_closed {i : Nat} {d : Array Bool} (h : behW md ops s i d = true) : ∀ k, (behL md ops i).getD k false = true → ∃ ok, ops[k]? = some ok ∧ ∃ e ∈ ok.after, Region.binds md e = true ∧ (e.on = i ∨ (behL md ops i).getD e.on false = true) := fun k hk => (behT_all h k hk).2
theorem behW_un {i : Nat} {d : Array Bool} (h : behW md ops s i d = true) : ∀ k, (behL md ops i).getD k false = true → d.getD k true = false := fun k hk => (behT_all h k hk).1
theorem behW_s {i : Nat} {d : Array Bool} (h : behW md ops s i d = true) : (behL md ops i).getD s false = true := by
  unfold behW behT at h
  exact (Bool.and_eq_true _ _ ▸ h).1
def ovT (md : Region.Mode) (ops : Array Oper) (s : Nat) : OV → Array Bool → Bool
  | .nil, d => (Region.ready md ops d).isEmpty
  | .pure i t, d => (Region.ready md ops d).contains i && (Region.free md ops d i && (((ops[i]?).map (·.guard.isNone)).getD false && ((behW md ops s i d) && (decide (i ≠ s) && (!d.getD s true && ovT md ops s t (d.setIfInBounds i true))))))
  | .free i t, d => (Region.ready md ops d).contains i && (Region.free md ops d i && (decide (i ≠ s) && ovT md ops s t (d.setIfInBounds i true)))
  | .one i t, d => (Region.ready md ops d == [i]) && ovT md ops s t (d.setIfInBounds i true)
  | .two i t j u, d => (Region.ready md ops d == [i, j]) && (ovT md ops s t (d.setIfInBounds i true) && (ovT md ops s u (d.setIfInBounds j true) && decide (t.len = u.len)))
theorem wpAnyI_of_ovT {l : List Oper} (hl : ∀ i : Nat, ops[i]? = l[i]?) (hsel : Region.noSelect ops = true) {os : Oper} (hs : ops[s]? = some os) : ∀ (t : OV) (d : Array Bool) (a : Act) (w : World), ovT md ops s t d = true → wpOVI P ops Q l I s t (!d.getD s true) a w → wpAnyI P md ops I s (OnlyNormal Q) t.len d a w
  | .nil, d, a, w, hB, h => ⟨fun hh => h.1 (by rw [hh]; rfl), by simpa [ovT] using hB, rfl, h.2⟩
  | .one i t, d, a, w, hB, h => by
    simp only [ovT, Bool.and_eq_true, beq_iff_eq] at hB
    obtain ⟨h1, h2⟩ := hB
    refine ⟨fun hh => h.1 (by rw [hh]; rfl), fun hh => (by rw [hh] at h1; cases h1), fun j hj => ?_⟩
    rw [h1] at hj
    obtain rfl := List.mem_singleton.1 hj
    have hr : j ∈ Region.ready md ops d := by rw [h1]; simp
    obtain ⟨hun, o, ho, _⟩ := mem_ready.1 hr
    have ho' : l.getD j default = o := by rw [hl j] at ho; rw [List.getD_eq_getElem?_getD, ho]; rfl
    unfold wpOVI at h
    rw [ho'] at h
    exact wpOp_of_list ho (fun a w hh => wpAnyI_of_ovT hl hsel hs t _ a w h2 (by rw [live_set hun]; exact hh)) h.2
  | .two i t j u, d, a, w, hB, h => by
    simp only [ovT, Bool.and_eq_true, beq_iff_eq, decide_eq_true_eq] at hB
    obtain ⟨h1, h2, h3, h4⟩ := hB
    unfold wpOVI at h
    refine ⟨fun hh => h.1 (by rw [hh]; rfl), fun hh => (by rw [hh] at h1; cases h1), fun k hk => ?_⟩
    have hr : k ∈ Region.ready md ops d := hk
    obtain ⟨hun, o, ho, _⟩ := mem_ready.1 hr
    have ho' : l.getD k default = o := by rw [hl k] at ho; rw [List.getD_eq_getElem?_getD, ho]; rfl
    rw [h1] at hk
    rcases List.mem_cons.1 hk with rfl | hk
    · rw [ho'] at h
      exact wpOp_of_list ho (fun a w hh => wpAnyI_of_ovT hl hsel hs t _ a w h2 (by rw [live_set hun]; exact hh)) h.2.1
    · obtain rfl := List.mem_singleton.1 hk
      rw [ho'] at h
      exact wpOp_of_list ho (fun a w hh => by have := wpAnyI_of_ovT hl hsel hs u _ a w h3 (by rw [live_set hun]; exact hh); rwa [← h4] at this) h.2.2
  | .pure i t, d, a, w, hB, h => by
    simp only [ovT, Bool.and_eq_true, decide_eq_true_eq, Bool.not_eq_true'] at hB
    obtain ⟨h1, h2, h3, h4, h5, h6, h7⟩ := hB
    have hr : i ∈ Region.ready md ops d := by simpa using h1
    obtain ⟨hun, o, ho, _⟩ := mem_ready.1 hr
    have ho' : l.getD i default = o := by rw [hl i] at ho; rw [List.getD_eq_getElem?_getD, ho]; rfl
    have hg : o.guard = none := by rw [ho] at h3; simpa using h3
    unfold wpOVI at h
    rw [ho'] at h
    obtain ⟨hI, v, hv, hn⟩ := h
    exact wpAnyI_pureT ho hg (behW_closed h4) (behW_s h4) h5 hsel (fun _ _ _ h => h.1) t.len d a w (Region.free_spec ho h2) hr hv (hI (by rw [h6]; rfl)) h6 (behW_un h4) (wpAnyI_of_ovT hl hsel hs t _ _ _ h7 (by rw [live_set hun]; simp only [bne_iff_ne, ne_eq, h5, not_false_eq_true, Bool.and_true, (by simpa using h5 : (i != s) = true)]; exact hn))
  | .free i t, d, a, w, hB, h => by
    simp only [ovT, Bool.and_eq_true, decide_eq_true_eq] at hB
    obtain ⟨h1, h2, h5, h7⟩ := hB
    have hr : i ∈ Region.ready md ops d := by simpa using h1
    obtain ⟨hun, o, ho, _⟩ := mem_ready.1 hr
    have ho' : l.getD i default = o := by rw [hl i] at ho; rw [List.getD_eq_getElem?_getD, ho]; rfl
    unfold wpOVI at h
    rw [ho'] at h
    obtain ⟨hwt, v, hv, hn⟩ := h
    exact wpAnyI_free ho h5 hsel (fun _ _ _ h => h.1) t.len d a w (Region.free_spec ho h2) hr hwt hv (wpAnyI_of_ovT hl hsel hs t _ _ _ h7 (by rw [live_set hun]; simp only [bne_iff_ne, ne_eq, h5, not_false_eq_true, Bool.and_true, (by simpa using h5 : (i != s) = true)]; exact hn))
/-- THE LAW. -/
theorem wp_region_treeT {id : Nat} {a : Act} {w : World} {l : List Oper} (I : World → Prop) (s : Nat) (t : OV) (hm : P.follows .mixedOrders = true) (hB : (Region.noSelect l.toArray && (decide (s < l.toArray.size) && (ovT .any l.toArray s t (Array.replicate l.toArray.size false) && decide (t.len = l.toArray.size)))) = true)
    (h : ∀ w1, Ext w w1 → wpOVI P l.toArray Q l I s t true a w1) : (Code.region id l.toArray true).wp P Q a w := by
  simp only [Bool.and_eq_true, decide_eq_true_eq] at hB
  obtain ⟨hsel, hs, hord, hsz⟩ := hB
  refine wp_region_any hm ?_
  refine wpAny_Q (Q := OnlyNormal Q) (fun _ _ _ h => h.2) _ _ _ _ ?_
  have hlive : (!(Array.replicate l.toArray.size false).getD s true) = true := by
    have : s < l.length := by simpa using hs
    simp [Array.getElem?_replicate, this]
  have := wpAnyI_of_ovT (P := P) (md := .any) (Q := Q) (I := I) (l := l) (fun i => by simp) hsel (Array.getElem?_eq_getElem hs) t _ a _ hord (by rw [hlive]; exact h _ (Below.refl _ w).drew)
  rw [hsz] at this
  exact wpAny_of_I _ _ _ _ this
end
end Go.Proofs.YtnjmplapjnnjdaaGreat
