/- The walk of the document's Count. -/
import Derived.Test.YtiiljecocajdpaaDocLook
namespace Go.Proofs.Ytiiljecocajdpaa
open Go.RowKit

set_option maxRecDepth 5000 in
theorem cnt_core (p : Pb) {tb g c : Nat} (dip : Int) (l : List Nd) (W : Nd → Int) (x : Nd) (hl : l.length ≤ 2)
    (hK : ∀ w', DocIn w' p tb g c → Calls Try.prog 39 #[.pointer (some ⟨tb, 0, none⟩), .agg x.cells] w' (KidsAny l w'))
    (hW : ∀ k ∈ l, 0 ≤ W k)
    (ih : ∀ k ∈ l, ∀ (m : Int) w, 1 ≤ m → m ≤ 1048577 → DocIn w p tb g c → Pure Try.prog 79 #[.pointer (some ⟨tb, 0, none⟩), .agg k.cells, .int .i64 dip, .int .i64 m] w (.int .i64 (min m (W k))))
    (most : Int) (w : World) (m0 : 1 ≤ most) (m1 : most ≤ 1048577) (hT : DocIn w p tb g c) :
    Pure Try.prog 79 #[.pointer (some ⟨tb, 0, none⟩), .agg x.cells, .int .i64 dip, .int .i64 most] w (.int .i64 (min most (if x.m < dip then 0 else l.foldl (fun c k => c + W k) 1))) := by
  generalize hr : (min most (if x.m < dip then 0 else l.foldl (fun c k => c + W k) 1)) = r
  have HR := Lib.hid hr
  clear hr
  go_enter Try.func79, Try.ntmps79
  go_upto_region 1 with (fail)
  refine name1 ?_
  intro w0 b5 B0
  have hT0 := hT.kept B0
  have x2 := b5.cell 2
  simp only [Nd.cells, nodeCells, List.getElem?_toArray, List.getElem?_cons_zero, List.getElem?_cons_succ] at x2
  have g2 : decide (most < 1) = false := by simp; omega
  by_cases c1 : x.m < dip
  · have g1 : decide (x.m < dip) = true := by simpa using c1
    have hr : (0 : Int) = r := by rw [← HR.out, if_pos c1]; omega
    clear c1 HR
    subst hr
    go_wp2
    go_ret
    exact ⟨rfl, B0⟩
  have g1 : decide (x.m < dip) = false := by simpa using c1
  have hr := HR.out
  rw [if_neg c1] at hr
  have HS := Lib.hid hr
  clear c1 HR hr
  have gN := b5.load (off := 0) (n := 3) (cs' := x.cells) (Nat.le_refl _) (Array.extract_eq_self_of_le (Nat.le_refl _))
  go_wp2_with ((with_reducible apply ld); rfl; (with_reducible assumption); (simp only [List.set_cons_zero, List.set_cons_succ]; rfl))
  refine (hK w0 hT0).mono ?_
  rintro e w1 ⟨⟨ka, kc, bv, rfl, hnd, hfresh⟩, B1⟩
  clear gN x2
  have hT1 := hT0.kept B1
  go_wp2_with fail
  go_loopw [9, 12] (fun s i wr => ∃ (k : Nat) (u : Int), k ≤ l.length ∧ i = .int .i64 k ∧ s = .int .i64 u ∧ 0 ≤ u ∧ u ≤ most ∧ Hid (u = min most ((l.take k).foldl (fun c k => c + W k) 1)) ∧ Below w1.heap.size w1 wr) (fun _ i _ => l.length - (intOf i).toNat)
  case atStart => exact ⟨0, 1, by omega, rfl, rfl, by omega, m0, Lib.hid (by show (1 : Int) = min most 1; omega), Below.refl _ _⟩
  case round =>
    obtain ⟨k, u, hk, rfl, rfl, u0, u1, HU, B2⟩ := hrel
    have hT2 := hT1.kept B2
    have hnd2 := hnd.kept B2
    by_cases hkl : k < l.length
    · have hk2 : decide ((k : Int) < l.length) = true := by simp; omega
      have hk3 : (k : Int) < l.length := by omega
      by_cases hum : u < most
      · have g3 : decide (u < most) = true := by simpa using hum
        obtain ⟨bb, oo, rfl, hload⟩ := hnd2 k hkl
        have hwm : wrap64 (most - u) = most - u := by unfold wrap64; omega
        go_wp2_with ((with_reducible apply ld); rfl; (with_reducible assumption); (simp only [List.set_cons_zero, List.set_cons_succ]; rfl))
        refine (ih l[k] (List.getElem_mem hkl) (most - u) wr (by omega) (by omega) hT2).mono ?_
        rintro e w3 ⟨rfl, B3⟩
        have hWk := hW l[k] (List.getElem_mem hkl)
        have hwu : wrap64 (u + min (most - u) (W l[k])) = u + min (most - u) (W l[k]) := by unfold wrap64; omega
        obtain ⟨V, hV⟩ : ∃ V, V = min (most - u) (W l[k]) := ⟨_, rfl⟩
        rw [← hV] at hwu ⊢
        have HV := Lib.hid hV
        clear hV
        go_wp2
        go_roundw
        case measure => simp only [intOf]; omega
        case rel =>
          have hV := HV.out
          refine ⟨k + 1, u + V, by omega, by go_num, by rw [hwu], by omega, by omega, Lib.hid ?_, bOn B2 B3⟩
          have hU := HU.out
          rw [List.take_succ_eq_append_getElem hkl, List.foldl_append, List.foldl_cons, List.foldl_nil]
          omega
      · have g3 : decide (u < most) = false := by simpa using hum
        have hr : u = r := by
          have hU := HU.out
          have hS := HS.out
          have h1 : (l.take k).foldl (fun c k => c + W k) 1 ≤ l.foldl (fun c k => c + W k) 1 := by
            have := foldl_ge (l.drop k) ((l.take k).foldl (fun c k => c + W k) 1) (F := W) (fun j hj => hW j (List.mem_of_mem_drop hj))
            rwa [← List.foldl_append, List.take_append_drop] at this
          omega
        clear HS
        subst hr
        go_wp2
        go_ret
        exact ⟨rfl, bOn (bOn B0 B1) B2⟩
    · obtain rfl : k = l.length := by omega
      have hr : u = r := by
        have hU := HU.out
        rw [List.take_length] at hU
        rw [hU, HS.out]
      clear HS
      subst hr
      go_wp2
      go_ret
      exact ⟨rfl, bOn (bOn B0 B1) B2⟩
theorem doc_count (p : Pb) (hp : p.Ok) (h : probChk p = 0) {tb g c : Nat} (dip : Int) : ∀ (f : Nat) (x : Nd), p.At x f → ∀ (most : Int) (w : World), 1 ≤ most → most ≤ 1048577 → DocIn w p tb g c →
    Pure Try.prog 79 #[.pointer (some ⟨tb, 0, none⟩), .agg x.cells, .int .i64 dip, .int .i64 most] w (.int .i64 (min most (p.ways dip f x)))
  | 0, x, hx, most, w, m0, m1, hT => by
    have h31 : (2 : Int) ^ (p.C.K.toNat - 1) ≤ 2147483648 := pow31 (by obtain ⟨⟨k1, k2⟩, _⟩ := probChk_ok h; omega)
    have := cnt_core p (tb := tb) (g := g) (c := c) dip [] (fun _ => 0) x (by simp)
      (fun w' hT => (doc_Kids_bare p hp h x hx.s0 (by have := hx.s1; omega) (.inr (.inl (by have := hx.d1; omega))) w' hT).mono fun e w'' ⟨he, hB⟩ => ⟨⟨none, 0, _, he, Nodes.nil _, fun _ _ _ h => by cases h⟩, hB⟩)
      (fun k hk => by simp at hk) (fun k hk => by simp at hk) most w m0 m1 hT
    unfold Pb.ways
    exact this
  | f + 1, x, hx, most, w, m0, m1, hT => by
    have hin : p.In x := ⟨hx.s0, hx.s1, hx.d0, by have := hx.d1; omega⟩
    have := cnt_core p (tb := tb) (g := g) (c := c) dip (p.kids x) (p.ways dip f) x (p.kids_len x)
      (fun w' hT => (doc_Kids p hp h x hin w' hT).mono fun e w'' hP => hP.any)
      (fun k _ => p.ways_nonneg dip f k) (fun k hk m w m0 m1 hT => doc_count p hp h dip f k (hx.kids k hk) m w m0 m1 hT) most w m0 m1 hT
    unfold Pb.ways
    exact this
theorem doc_Count (p : Pb) (hp : p.Ok) (h : probChk p = 0) {tb g c : Nat} (dip most : Int) (w : World) (hT : DocIn w p tb g c) :
    Pure Try.prog 50 #[.pointer (some ⟨tb, 0, none⟩), .int .i64 dip, .int .i64 most] w (.int .i64 (p.count dip most)) := by
  rw [p.count_eq]
  by_cases hm : most < 1
  · rw [if_pos hm]
    have g1 : decide (most < 1) = true := by simpa using hm
    go_enter Try.func50, Try.ntmps50
    go_wp2
    go_ret
    exact ⟨rfl, Below.refl _ _⟩
  · rw [if_neg hm]
    have g1 : decide (most < 1) = false := by simpa using hm
    have hat : p.At ⟨0, 0, 0⟩ p.N.toNat := by
      have hN : 3 ≤ p.N := by obtain ⟨⟨k1, k2⟩, l1, l2, _⟩ := probChk_ok h; unfold Pb.N; omega
      exact ⟨Int.le_refl _, Int.pow_pos (by decide), Int.le_refl _, by show (0 : Int) + _ = _; omega⟩
    by_cases hq : 1048577 < most
    · rw [show min most 1048577 = 1048577 by omega]
      go_enter Try.func50, Try.ntmps50
      go_wp2_with fail
      refine (doc_Root _ _).mono ?_
      rintro e w1 ⟨rfl, B1⟩
      have hT1 := hT.kept B1
      go_wp2_with fail
      refine (doc_count p hp h dip p.N.toNat ⟨0, 0, 0⟩ hat 1048577 _ (by omega) (by omega) hT1).mono ?_
      rintro e w2 ⟨rfl, B2⟩
      go_wp2
      go_ret
      exact ⟨rfl, bOn B1 B2⟩
    · rw [show min most 1048577 = most by omega]
      go_enter Try.func50, Try.ntmps50
      go_wp2_with fail
      refine (doc_Root _ _).mono ?_
      rintro e w1 ⟨rfl, B1⟩
      have hT1 := hT.kept B1
      go_wp2_with fail
      refine (doc_count p hp h dip p.N.toNat ⟨0, 0, 0⟩ hat most _ (by omega) (by omega) hT1).mono ?_
      rintro e w2 ⟨rfl, B2⟩
      go_wp2
      go_ret
      exact ⟨rfl, bOn B1 B2⟩
theorem doc_Count_nil (dip most : Int) (w : World) : Pure Try.prog 50 #[.pointer none, .int .i64 dip, .int .i64 most] w (.int .i64 0) := by
  go_enter Try.func50, Try.ntmps50
  go_wp2
  go_ret
  exact ⟨rfl, Below.refl _ _⟩
end Go.Proofs.Ytiiljecocajdpaa
