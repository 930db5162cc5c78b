/- The walk of the statement that fewer ways stay above a higher line. -/
import Derived.Test.YtiiljecocajdpaaDocLook
namespace Go.Proofs.Ytiiljecocajdpaa
open Go.RowKit

theorem foldl_mono {α : Type} {F G : α → Int} : ∀ (l : List α) (u v : Int), (∀ k ∈ l, F k ≤ G k) → u ≤ v → l.foldl (fun c k => c + F k) u ≤ l.foldl (fun c k => c + G k) v
  | [], u, v, _, h => h
  | a :: l, u, v, h, huv => by
    have h1 := h a (by simp)
    simp only [List.foldl_cons]
    exact foldl_mono l _ _ (fun k hk => h k (by simp [hk])) (by omega)
theorem Pb.ways_anti (p : Pb) {dip dip' : Int} (hd : dip ≤ dip') : ∀ (f : Nat) (x : Nd), p.ways dip' f x ≤ p.ways dip f x
  | 0, x => by unfold Pb.ways; split <;> split <;> omega
  | f + 1, x => by
    have h0 := foldl_ge (p.kids x) (F := p.ways dip f) 1 (fun k _ => p.ways_nonneg dip f k)
    have h1 := foldl_mono (p.kids x) (F := p.ways dip' f) (G := p.ways dip f) 1 1 (fun k _ => p.ways_anti hd f k) (Int.le_refl _)
    unfold Pb.ways
    split <;> split <;> omega
theorem Pb.ways_pos (p : Pb) (dip : Int) (f : Nat) (x : Nd) : (0 < p.ways dip f x) ↔ dip ≤ x.m := by
  cases f with
  | zero => unfold Pb.ways; split <;> omega
  | succ f =>
    have h0 := foldl_ge (p.kids x) (F := p.ways dip f) 1 (fun k _ => p.ways_nonneg dip f k)
    unfold Pb.ways
    split <;> omega
theorem Pb.count_anti (p : Pb) {dip dip' : Int} (hd : dip ≤ dip') (most : Int) : p.count dip' most ≤ p.count dip most := by
  have := p.ways_anti hd p.N.toNat ⟨0, 0, 0⟩
  rw [p.count_eq, p.count_eq]
  split <;> omega
theorem Pb.count_le (p : Pb) (dip : Int) {most : Int} (h : 0 ≤ most) : p.count dip most ≤ most ∧ 0 ≤ p.count dip most := by
  have := p.ways_nonneg dip p.N.toNat ⟨0, 0, 0⟩
  rw [p.count_eq]
  split <;> omega
theorem Pb.count_up (p : Pb) (dip : Int) {most : Int} : p.count dip most ≤ p.count dip (most + 1) := by
  have := p.ways_nonneg dip p.N.toNat ⟨0, 0, 0⟩
  rw [p.count_eq, p.count_eq]
  split <;> split <;> omega
theorem Pb.count_pos (p : Pb) (dip : Int) {most : Int} (h : 1 ≤ most) : decide (0 < p.count dip most) = decide (dip ≤ 0) := by
  have := p.ways_pos dip p.N.toNat ⟨0, 0, 0⟩
  rw [p.count_eq, if_neg (by omega)]
  apply decide_eq_decide.2
  simp only at this
  omega
theorem tmod300 (m : Int) : 0 ≤ (wrap64 (m.tmod 300 + 300)).tmod 300 ∧ (wrap64 (m.tmod 300 + 300)).tmod 300 ≤ 299 := by
  have h1 : -300 < m.tmod 300 ∧ m.tmod 300 < 300 := by
    refine ⟨?_, Int.tmod_lt_of_pos _ (by omega)⟩
    have := Int.tmod_lt_of_pos (-m) (b := 300) (by omega)
    rw [Int.neg_tmod] at this
    omega
  have h2 : wrap64 (m.tmod 300 + 300) = m.tmod 300 + 300 := by unfold wrap64; omega
  rw [h2, Int.tmod_eq_emod_of_nonneg (by omega)]
  omega
set_option maxRecDepth 5000 in
set_option maxHeartbeats 1000000 in
theorem law15_TreeRises (p : Pb) (a : Option Addr) (cap : Nat) (hp : p.Ok) (x : Int) (_x0 : -9223372036854775808 ≤ x) (_x1 : x ≤ 9223372036854775807) (y : Int) (_y0 : -9223372036854775808 ≤ y) (_y1 : y ≤ 9223372036854775807) (most : Int) (_m0 : -9223372036854775808 ≤ most) (_m1 : most ≤ 9223372036854775807) (w : World) (hw : Bytes w a p.B) :
    Pure Try.prog 12 #[.agg (p.cells (.slice a p.B.length cap)), .int .i64 x, .int .i64 y, .int .i64 most] w (.bool true) := by
  go_enter Try.func12, Try.ntmps12
  go_upto_region 1 with (fail)
  refine name1 ?_
  intro w0 b4 B0
  have hw0 := hw.kept B0
  obtain ⟨fk, fr, flev, fl, fwin, fcode, ftable, fall⟩ := b4.prob hp
  clear fk fr flev fl fwin fcode ftable
  by_cases hc : probChk p = 0
  · go_wp2_with ((with_reducible apply ld); rfl; (with_reducible assumption); (simp only [List.set_cons_zero, List.set_cons_succ]; rfl))
    refine (tree_New p a cap hp hc _ hw0).mono ?_
    rintro e w1 ⟨⟨tb, pb, rb, g, c, rfl, hT, _⟩, B1⟩
    clear fall
    go_wp2_with (fail)
    refine (law15_num 0 _).mono ?_
    rintro e w2 ⟨rfl, B2⟩
    go_wp2_with (fail)
    refine (law15_knows _).mono ?_
    rintro e w3 ⟨rfl, B3⟩
    have hT3 := (hT.kept B2).kept B3
    have B30 := bOn (bOn (bOn B0 B1) B2) B3
    go_upto_region 5 with (fail)
    obtain ⟨M, hM⟩ : ∃ M, M = (wrap64 (most.tmod 300 + 300)).tmod 300 := ⟨_, rfl⟩
    have hMb := tmod300 most
    rw [← hM] at hMb ⊢
    clear hM
    obtain ⟨hM0, hM1⟩ := hMb
    have hMw : wrap64 (M + 1) = M + 1 := by unfold wrap64; omega
    by_cases hxy : y < x
    · have hyx : ¬x < y := by omega
      have n1 := p.count_le y hM0
      have n2 := p.count_le x hM0
      have n3 := p.count_anti (show y ≤ x by omega) M
      have n4 := p.count_up x (most := M)
      have f1 : decide (p.count x M ≤ p.count y M) = true := by first | (simp; done) | (simp; omega)
      have f2 : decide (p.count y M ≤ M) = true := by first | (simp; done) | (simp; omega)
      have f3 : decide (0 ≤ p.count x M) = true := by first | (simp; done) | (simp; omega)
      have f4 : decide (p.count x M ≤ p.count x (M + 1)) = true := by first | (simp; done) | (simp; omega)
      clear n1 n2 n3 n4
      go_wp2_with fail
      refine (tree_Count p hp hc y M _ hT3).mono ?_
      rintro e w4 ⟨rfl, B4⟩
      have hT4 := hT3.kept B4
      go_wp2_with fail
      refine (tree_Count p hp hc x M _ hT4).mono ?_
      rintro e w5 ⟨rfl, B5⟩
      have hT5 := hT4.kept B5
      go_wp2_with fail
      refine (tree_Count p hp hc x (M + 1) _ hT5).mono ?_
      rintro e w6 ⟨rfl, B6⟩
      have hT6 := hT5.kept B6
      go_wp2_with fail
      refine (tree_Count p hp hc x M _ hT6).mono ?_
      rintro e w7 ⟨rfl, B7⟩
      have hT7 := hT6.kept B7
      by_cases hz : M = 0
      · have f5 : (M == 0) = true := by simp [hz]
        have HZ := Lib.hid hz
        clear hz
        go_wp2
        go_ret
        exact ⟨rfl, bOn (bOn (bOn (bOn B30 B4) B5) B6) B7⟩
      · have f5 : (M == 0) = false := by simp [hz]
        have f6 : (decide (0 < p.count x M) == decide (x ≤ 0)) = true := by rw [p.count_pos x (by omega)]; simp
        clear hz
        go_wp2_with fail
        refine (tree_Count p hp hc x M _ hT7).mono ?_
        rintro e w8 ⟨rfl, B8⟩
        go_wp2
        go_ret
        exact ⟨rfl, bOn (bOn (bOn (bOn (bOn B30 B4) B5) B6) B7) B8⟩
    · by_cases hyx : x < y
      · have n1 := p.count_le x hM0
        have n2 := p.count_le y hM0
        have n3 := p.count_anti (show x ≤ y by omega) M
        have n4 := p.count_up x (most := M)
        have f1 : decide (p.count y M ≤ p.count x M) = true := by first | (simp; done) | (simp; omega)
        have f2 : decide (p.count x M ≤ M) = true := by first | (simp; done) | (simp; omega)
        have f3 : decide (0 ≤ p.count y M) = true := by first | (simp; done) | (simp; omega)
        have f4 : decide (p.count x M ≤ p.count x (M + 1)) = true := by first | (simp; done) | (simp; omega)
        clear n1 n2 n3 n4
        go_wp2_with fail
        refine (tree_Count p hp hc x M _ hT3).mono ?_
        rintro e w4 ⟨rfl, B4⟩
        have hT4 := hT3.kept B4
        go_wp2_with fail
        refine (tree_Count p hp hc y M _ hT4).mono ?_
        rintro e w5 ⟨rfl, B5⟩
        have hT5 := hT4.kept B5
        go_wp2_with fail
        refine (tree_Count p hp hc x (M + 1) _ hT5).mono ?_
        rintro e w6 ⟨rfl, B6⟩
        have hT6 := hT5.kept B6
        go_wp2_with fail
        refine (tree_Count p hp hc x M _ hT6).mono ?_
        rintro e w7 ⟨rfl, B7⟩
        have hT7 := hT6.kept B7
        by_cases hz : M = 0
        · have f5 : (M == 0) = true := by simp [hz]
          have HZ := Lib.hid hz
          clear hz
          go_wp2
          go_ret
          exact ⟨rfl, bOn (bOn (bOn (bOn B30 B4) B5) B6) B7⟩
        · have f5 : (M == 0) = false := by simp [hz]
          have f6 : (decide (0 < p.count x M) == decide (x ≤ 0)) = true := by rw [p.count_pos x (by omega)]; simp
          clear hz
          go_wp2_with fail
          refine (tree_Count p hp hc x M _ hT7).mono ?_
          rintro e w8 ⟨rfl, B8⟩
          go_wp2
          go_ret
          exact ⟨rfl, bOn (bOn (bOn (bOn (bOn B30 B4) B5) B6) B7) B8⟩
      · have n1 := p.count_le x hM0
        have n2 := p.count_le x hM0
        have n3 := p.count_anti (show x ≤ x by omega) M
        have n4 := p.count_up x (most := M)
        have f1 : decide (p.count x M ≤ p.count x M) = true := by first | (simp; done) | (simp; omega)
        have f2 : decide (p.count x M ≤ M) = true := by first | (simp; done) | (simp; omega)
        have f3 : decide (0 ≤ p.count x M) = true := by first | (simp; done) | (simp; omega)
        have f4 : decide (p.count x M ≤ p.count x (M + 1)) = true := by first | (simp; done) | (simp; omega)
        clear n1 n2 n3 n4
        go_wp2_with fail
        refine (tree_Count p hp hc x M _ hT3).mono ?_
        rintro e w4 ⟨rfl, B4⟩
        have hT4 := hT3.kept B4
        go_wp2_with fail
        refine (tree_Count p hp hc x M _ hT4).mono ?_
        rintro e w5 ⟨rfl, B5⟩
        have hT5 := hT4.kept B5
        go_wp2_with fail
        refine (tree_Count p hp hc x (M + 1) _ hT5).mono ?_
        rintro e w6 ⟨rfl, B6⟩
        have hT6 := hT5.kept B6
        go_wp2_with fail
        refine (tree_Count p hp hc x M _ hT6).mono ?_
        rintro e w7 ⟨rfl, B7⟩
        have hT7 := hT6.kept B7
        by_cases hz : M = 0
        · have f5 : (M == 0) = true := by simp [hz]
          have HZ := Lib.hid hz
          clear hz
          go_wp2
          go_ret
          exact ⟨rfl, bOn (bOn (bOn (bOn B30 B4) B5) B6) B7⟩
        · have f5 : (M == 0) = false := by simp [hz]
          have f6 : (decide (0 < p.count x M) == decide (x ≤ 0)) = true := by rw [p.count_pos x (by omega)]; simp
          clear hz
          go_wp2_with fail
          refine (tree_Count p hp hc x M _ hT7).mono ?_
          rintro e w8 ⟨rfl, B8⟩
          go_wp2
          go_ret
          exact ⟨rfl, bOn (bOn (bOn (bOn (bOn B30 B4) B5) B6) B7) B8⟩
  · have hz : (probChk p != 0) = true := by simp [hc]
    go_wp2_with ((with_reducible apply ld); rfl; (with_reducible assumption); (simp only [List.set_cons_zero, List.set_cons_succ]; rfl))
    refine (tree_New_bad p a cap hp hc _ hw0).mono ?_
    rintro e w1 ⟨rfl, B1⟩
    go_wp2_with (fail)
    refine (law15_num _ _).mono ?_
    rintro e w2 ⟨rfl, B2⟩
    go_wp2_with (fail)
    refine (law15_knows _).mono ?_
    rintro e w3 ⟨rfl, B3⟩
    go_wp2
    go_ret
    exact ⟨rfl, bOn (bOn (bOn B0 B1) B2) B3⟩
end Go.Proofs.Ytiiljecocajdpaa
