/- The walk of the step down from a node to its kid by a bit. -/
import Derived.Test.YtiiljecocajdpaaWays
import Derived.Test.YtiiljecocajdpaaApart
import Derived.Test.YtiiljecocajdpaaKidsG
namespace Go.Proofs.Ytiiljecocajdpaa
open Go.RowKit

theorem results_cellAggTmp {P : Program} {fn : Func} {t t1 ty n b : Nat} {tmps : Array Value} {w : World} {v v1 : Value} [T : AggTy P ty n] (h : fn.results = #[.cell t ty, .tmp t1]) (h1' : tmps.getD t1 undef = v1) (hp : tmps.getD t undef = .pointer (some ⟨b, 0, none⟩)) (hl : loadAgg w b 0 n = .ok v w) :
    (results fn tmps).run P w = .ok (.tuple #[v, v1]) w := by
  obtain ⟨d, h1, h2, h3⟩ := T.out
  have := run_loadVar_agg (P := P) (w := w) (b := b) (off := 0) h1 h2 h3 (by rw [hl]; rfl)
  simp only [Array.getD_eq_getD_getElem?] at hp h1'
  simp [results, h, hp, h1', asAddr, Sem.run_bind, this, hl]
theorem Pb.kidBits_len (p : Pb) (n : Nd) : (p.kidBits n).length = (p.kids n).length := by
  unfold Pb.kidBits Pb.kids Pb.twoB Pb.twoK
  split
  · rfl
  · split <;> rfl
/-- Each kid is the one by its bit. -/
theorem Pb.kids_bit (p : Pb) (n : Nd) (j : Nat) (hj : j < (p.kidBits n).length) (hk : j < (p.kids n).length) : (p.kids n)[j] = p.kid n (((p.kidBits n)[j] : Nat) : Int) := by
  have key : ∀ (ks : List Nd) (bs : List Nat), (ks = [p.kid n 0] ∧ bs = [0]) ∨ (ks = [p.kid n 0, p.kid n 1] ∧ bs = [0, 1]) ∨ (ks = [p.kid n 1, p.kid n 0] ∧ bs = [1, 0]) → ∀ (j : Nat) (hj : j < bs.length) (hk : j < ks.length), ks[j] = p.kid n ((bs[j] : Nat) : Int) := by
    rintro ks bs (⟨rfl, rfl⟩ | ⟨rfl, rfl⟩ | ⟨rfl, rfl⟩) j hj hk
    · obtain rfl : j = 0 := by simp at hj; omega
      rfl
    · rcases (by simp at hj; omega : j = 0 ∨ j = 1) with rfl | rfl <;> rfl
    · rcases (by simp at hj; omega : j = 0 ∨ j = 1) with rfl | rfl <;> rfl
  refine key _ _ ?_ j hj hk
  unfold Pb.kidBits Pb.kids Pb.twoB Pb.twoK
  split
  · exact .inl ⟨rfl, rfl⟩
  · split
    · exact .inr (.inl ⟨rfl, rfl⟩)
    · exact .inr (.inr ⟨rfl, rfl⟩)
theorem Pb.bit_in (p : Pb) (n : Nd) {b : Nat} (hb : b < 2) (hL : p.L ≤ n.d → b = 0) : ∃ j : Nat, (p.kidBits n)[j]? = some b := by
  unfold Pb.kidBits Pb.twoB
  split
  · rename_i h
    exact ⟨0, by rw [hL h]; rfl⟩
  · rcases (by omega : b = 0 ∨ b = 1) with rfl | rfl
    · split
      · exact ⟨0, rfl⟩
      · exact ⟨1, rfl⟩
    · split
      · exact ⟨1, rfl⟩
      · exact ⟨0, rfl⟩
set_option maxRecDepth 5000 in
set_option maxHeartbeats 1000000 in
theorem law15_down (p : Pb) (hp : p.Ok) (h : probChk p = 0) {tb pb rb g c : Nat} (n : Nd) (hn : p.In n) (b : Nat) (hb : b < 2) (hL : p.L ≤ n.d → b = 0) (w : World) (hT : TreeIn w p tb pb rb g c) :
    Pure Try.prog 56 #[.pointer (some ⟨tb, 0, none⟩), .agg n.cells, .int .u8 b] w (.tuple #[.agg (p.kid n b).cells, .bool true]) := by
  have hz0 : Flat (Nd.mk 0 0 0).cells := by
    intro v hv
    simp [Nd.cells, nodeCells] at hv
    rcases hv with rfl | rfl <;> exact ⟨fun _ h => (by cases h), fun _ h => (by cases h)⟩
  go_enter Try.func56, Try.ntmps56
  go_upto_region 1 with (fail)
  refine name2 ?_
  intro w0 b4 b6 B0
  have gN := b4.load (off := 0) (n := 3) (cs' := n.cells) (Nat.le_refl _) (Array.extract_eq_self_of_le (Nat.le_refl _))
  go_wp2_with ((with_reducible apply ld); rfl; (with_reducible assumption); (simp only [List.set_cons_zero, List.set_cons_succ]; rfl))
  refine (tree_Kids p hp h n hn _ (hT.kept B0)).mono ?_
  rintro e w1 ⟨⟨nb, bb, rfl, x1, x2, x3, x4, x5⟩, B1⟩
  have y1 := Nodes.ofBox x1
  have y2 := Box.bytes x2 (p.kidBits_lt n)
  have b61 := b6.kept B1
  have B10 := bOn B0 B1
  obtain ⟨j0, hj0⟩ := p.bit_in n hb hL
  have hlen := p.kidBits_len n
  have hkb := p.kids_bit n
  have hl2 := p.kids_len n
  obtain ⟨ks, hks⟩ : ∃ ks, ks = p.kids n := ⟨_, rfl⟩
  obtain ⟨kb, hkbs⟩ : ∃ kb, kb = p.kidBits n := ⟨_, rfl⟩
  rw [← hks] at y1 hlen hkb hl2 ⊢
  rw [← hkbs] at y2 hlen hkb hj0 ⊢
  clear x1 x2 gN b4 hks hkbs hT
  have HLEN := Lib.hid hlen
  clear hlen
  go_wp2_with fail
  go_loop [10] (fun i => ∃ k : Nat, k ≤ j0 ∧ i = .int .i64 k ∧ ∀ j, j < k → kb[j]? ≠ some b) (fun i => j0 + 1 - (intOf i).toNat)
  case atStart => exact ⟨0, by omega, rfl, fun j hj => by omega⟩
  case round =>
    obtain ⟨k, hk, rfl, hno⟩ := hrel
    have hj0l : j0 < kb.length := by
      rcases Nat.lt_or_ge j0 kb.length with h | h
      · exact h
      · rw [List.getElem?_eq_none h] at hj0; cases hj0
    have hkl : k < kb.length := by omega
    have hkl2 : k < ks.length := HLEN.out ▸ hkl
    obtain ⟨k1, k2⟩ := ap_lt hkl
    obtain ⟨k3, k4⟩ := ap_lt hkl2
    obtain ⟨bb', o', hbo, c1⟩ := y2.cell k hkl
    obtain ⟨rfl, rfl⟩ : bb = bb' ∧ 0 = o' := by simpa using hbo
    obtain ⟨nb', o', hbo', c2⟩ := y1 k hkl2
    obtain ⟨rfl, rfl⟩ : nb = nb' ∧ 0 = o' := by simpa using hbo'
    rw [Nat.zero_add] at c1 c2
    rw [hkb k hkl hkl2] at c2
    have hlast : k < j0 ∨ k = j0 := by omega
    obtain ⟨x, hx⟩ : ∃ x, x = kb[k] := ⟨_, rfl⟩
    have hxk : kb[k]? = some x := by rw [hx]; exact List.getElem?_eq_getElem hkl
    rw [← hx] at c1 c2
    have HX := Lib.hid hxk
    have HJ := Lib.hid hj0
    clear hx hbo hbo' hxk hj0 hkb
    by_cases hxb : x = b
    · subst hxb
      go_wp2_with (first | ((with_reducible apply ld); rfl; (with_reducible assumption); (simp only [List.set_cons_zero, List.set_cons_succ]; rfl)) | ((with_reducible apply stO); rfl; rfl; exact b61; rfl; rfl; exact nodeCells_flat _ _ _; intro w3 b63 B3 ho3 hs3))
      refine bodyPost_ret (results_cellAggTmp rfl rfl rfl (b63.load (off := 0) (n := 3) (cs' := (p.kid n x).cells) (Nat.le_refl _) (Array.extract_eq_self_of_le (Nat.le_refl _)))) rfl ?_
      exact ⟨rfl, B10.trans (B3.mono (by omega))⟩
    · have hne : ((x : Int) == (b : Int)) = false := by simp; omega
      go_wp2
      go_round
      case measure => simp only [intOf]; omega
      case rel =>
        refine ⟨k + 1, ?_, by go_num, fun j hj => ?_⟩
        · rcases hlast with h | h
          · omega
          · subst h
            rw [HX.out] at HJ
            exact absurd (Option.some.inj HJ.out) hxb
        · rcases Nat.lt_succ_iff_lt_or_eq.1 hj with h | rfl
          · exact hno j h
          · rw [HX.out]
            exact fun h => hxb (Option.some.inj h)
theorem law15_down_bare (p : Pb) (hp : p.Ok) (h : probChk p = 0) {tb pb rb g c : Nat} (n : Nd) (s0 : 0 ≤ n.s) (s1 : n.s < 4294967296) (hn : p.bare n) (b : Nat) (w : World) (hT : TreeIn w p tb pb rb g c) :
    Pure Try.prog 56 #[.pointer (some ⟨tb, 0, none⟩), .agg n.cells, .int .u8 b] w (.tuple #[.agg (Nd.mk 0 0 0).cells, .bool false]) := by
  go_enter Try.func56, Try.ntmps56
  go_upto_region 1 with (fail)
  refine name2 ?_
  intro w0 b4 b6 B0
  have gN := b4.load (off := 0) (n := 3) (cs' := n.cells) (Nat.le_refl _) (Array.extract_eq_self_of_le (Nat.le_refl _))
  go_wp2_with ((with_reducible apply ld); rfl; (with_reducible assumption); (simp only [List.set_cons_zero, List.set_cons_succ]; rfl))
  refine (tree_Kids_bare p h n s0 s1 hn _ (hT.kept B0)).mono ?_
  rintro e w1 ⟨rfl, B1⟩
  have b61 := b6.kept B1
  have B10 := bOn B0 B1
  go_wp2_with fail
  go_loop [10] (fun i => i = .int .i64 0) (fun i => 0)
  case atStart => rfl
  case round =>
    obtain rfl := hrel
    go_wp2_with (first | ((with_reducible apply stO); rfl; rfl; exact b61; rfl; rfl; exact nodeCells_flat _ _ _; intro w3 b63 B3 ho3 hs3))
    refine bodyPost_ret (results_cellAggTmp rfl rfl rfl (b63.load (off := 0) (n := 3) (cs' := (Nd.mk 0 0 0).cells) (Nat.le_refl _) (Array.extract_eq_self_of_le (Nat.le_refl _)))) rfl ?_
    exact ⟨rfl, B10.trans (B3.mono (by omega))⟩
end Go.Proofs.Ytiiljecocajdpaa
