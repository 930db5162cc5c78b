import Derived.Test.YtkjnmjilkhigaaaTreeI
import Derived.Test.YtkjnmjilkhigaaaKnow
set_option linter.unusedSimpArgs false
set_option linter.unusedVariables false
set_option linter.unnecessarySimpa false
/- The small functions of the statements of layer 18. -/
namespace Go.Proofs.Ytkjnmjilkhigaaa
open Go.RowKit

theorem o18_num (e : Int) (w : World) : Pure Try.prog 15 #[.int .i64 e] w (.int .i64 e) := by
  go_enter Try.func15, Try.ntmps15
  go_wp2
  go_ret
  exact ⟨rfl, Below.refl _ _⟩
/-- A window of one's own: the row with two marks behind it. -/
def OwnW (w : World) (B g c : Nat) (l : List Nat) : Prop := w.ownsRow B 5 1 (.slice (some ⟨g, 0, none⟩) (l.length + 2) c) (l.length + 2) (u8s (l ++ [201, 202]))
def OwnPost (p : Pb) (w : World) (e : Ending) (w' : World) : Prop := (∃ g c, e = .returned (.agg (p.cells (.slice (some ⟨g, 0, none⟩) p.B.length c))) ∧ OwnW w' w.heap.size g c p.B) ∧ Below w.heap.size w w'
theorem Bytes.alloc {w : World} {a : Option Addr} {l : List Nat} (h : Bytes w a l) (o : Obj) : Bytes (w.alloc o) a l := h.kept ((Below.refl _ _).alloc (Nat.le_refl _) _)
theorem owns_form {w : World} {base e size n : Nat} {v : Value} {xs : List Value} (h : w.ownsRow base e size v n xs) (hn : 0 < n) : ∃ g cap, v = .slice (some ⟨g, 0, none⟩) n cap ∧ base ≤ g ∧ g < w.heap.size := by
  rcases h.2 with ⟨_, h0⟩ | ⟨g, cap, cur, hv, hb, hg, _⟩
  · omega
  · exact ⟨g, cap, hv, hb, Box.lt ⟨_, hg⟩⟩
theorem alloc_old (w : World) (o : Obj) {k : Nat} (hk : k < w.heap.size) : (w.alloc o).heap[k]? = w.heap[k]? := by
  have := ((Below.refl w.heap.size w).alloc (Nat.le_refl _) o).block k hk
  exact this
/-- THE ARM for the head of a slice. -/
theorem w_slHi {P : Program} {ops : Array Oper} {rest : List Oper} {l : List Value} {ds : List Deferred} {w : World} {Q : Exit → Act → World → Prop} {t e d g o n cap j sz bytes : Nat} {z : Value} {x hi : Operand} {k' : IntKind} {ty : TypeId} {ps : String} {af : Array Edge}
    [S : SlTy P t e] [T : ElTy P e z sz bytes] (hx : (Act.mk l.toArray ds).eval x = .slice (some ⟨g, o, none⟩) n cap) (hhi : (Act.mk l.toArray ds).eval hi = .int k' (j : Int)) (h2 : j ≤ cap)
    (h : wpList P ops Q rest ⟨(l.set d (.slice (some ⟨g, o, none⟩) j cap)).toArray, ds⟩ w) : wpList P ops Q (⟨some d, .slice t x none (some hi) none, ty, ps, af, none⟩ :: rest) ⟨l.toArray, ds⟩ w := by
  have hr : (Instr.sliceAt t (.slice (some ⟨g, o, none⟩) n cap) none (some (.int k' (j : Int))) none).run P w = .ok (.slice (some ⟨g, o, none⟩) j cap) w := by
    have hi1 : ¬ cap < j := by omega
    obtain ⟨i, hi, _⟩ := T.out
    simp [Instr.sliceAt, Instr.slice, Sem.run_bind, run_underlying S.out, Instr.sliceBounds, Instr.sliceBound, asIntOf, Sem.run_pure, hi1, sizeOf, typeInfo, hi, Addr.add, show j ≤ cap from h2]
  refine wpList_plain rfl fun K hK => ?_
  unfold Oper.wp execOp
  simp [hx, hhi, Sem.run_bind, hr]
  rw [Oper.upon_value, put_list]
  exact hK _ _ h
theorem Pb.Ok.cells_set {p : Pb} (hp : p.Ok) (v u : Value) : (p.cells v).setIfInBounds 39 u = p.cells u := by
  have hA : (p.C.cells ++ p.T.cells).size = 38 := by simp [Cd.cells, hp.t.size]
  unfold Pb.cells
  generalize p.C.cells ++ p.T.cells = A at hA
  apply Array.ext_getElem?
  intro i
  rw [Array.getElem?_setIfInBounds]
  by_cases h : 39 = i
  · subst h; simp [hA]
  · rw [if_neg h]
    rcases Nat.lt_or_ge i 38 with h1 | h1
    · rw [Array.getElem?_append_left (by omega), Array.getElem?_append_left (by omega)]
    · rw [Array.getElem?_append_right (by omega), Array.getElem?_append_right (by omega), hA]
      by_cases h2 : i = 38
      · subst h2; rfl
      · rw [Array.getElem?_eq_none (by simp; omega), Array.getElem?_eq_none (by simp; omega)]
theorem owns_cast {w : World} {base e n m : Nat} {v v' : Value} {xs ys : List Value} (h : w.ownsRow base e 1 v n xs) (hv : v = v') (hn : n = m) (hx : xs = ys) : w.ownsRow base e 1 v' m ys := by subst hv hn hx; exact h
set_option maxRecDepth 5000 in
theorem o18_own (p : Pb) (a : Option Addr) (cap : Nat) (hp : p.Ok) (hB : p.B.length ≤ 140737488351232) (w : World) (hw : Bytes w a p.B) :
    Calls Try.prog 11 #[.agg (p.cells (.slice a p.B.length cap))] w (OwnPost p w) := by
  go_enter Try.func11, Try.ntmps11
  go_upto_region 1 with fail
  refine name2 ?_
  intro w0 b1 b2 B0
  have Bw0 : Bytes w0 a p.B := hw.kept B0
  (refine wp_region_treeI (fun W => Box W w.heap.size (p.cells (.slice a p.B.length cap)) ∧ Bytes W a p.B) 11 (.pure 1 (.pure 6 (.pure 2 (.pure 7 (.pure 8 (.two 0 (.two 3 (.one 4 (.one 5 (.one 9 (.one 10 (.one 11 .nil))))) 4 (.one 3 (.one 5 (.one 9 (.one 10 (.one 11 .nil)))))) 4 (.one 0 (.one 3 (.one 5 (.one 9 (.one 10 (.one 11 .nil)))))))))))) (by kernel_rfl) (by kernel_rfl) ?_; simp only [List.getD_cons_zero, List.getD_cons_succ, wpOTI])
  intro w1 B1
  have b11 := b1.kept B1
  have Bw1 := Bw0.kept B1
  refine ⟨fun _ => ⟨b11, Bw1⟩, _, fun W hI => by go_simp; first | done | rfl, ?_⟩
  try simp only [put_list, List.set_cons_zero, List.set_cons_succ]
  refine ⟨fun _ => ⟨b11, Bw1⟩, _, fun W hI => by go_simp; first | done | rfl, ?_⟩
  try simp only [put_list, List.set_cons_zero, List.set_cons_succ]
  have ldf : ∀ W : World, Box W w.heap.size (p.cells (.slice a p.B.length cap)) → W.cell? ⟨w.heap.size, 39, none⟩ = some (.slice a p.B.length cap) := fun W h => by rw [h.cell 39]; exact hp.cell39 _
  refine ⟨fun _ => ⟨b11, Bw1⟩, .slice a p.B.length cap, fun W hI => by have c := ldf W hI.1; go_simp, ?_⟩
  try simp only [put_list, List.set_cons_zero, List.set_cons_succ]
  refine ⟨fun _ => ⟨b11, Bw1⟩, .slice a p.B.length cap, fun W hI => by have c := ldf W hI.1; go_simp, ?_⟩
  try simp only [put_list, List.set_cons_zero, List.set_cons_succ]
  refine ⟨fun _ => ⟨b11, Bw1⟩, _, fun W hI => by go_simp; first | done | rfl, ?_⟩
  try simp only [put_list, List.set_cons_zero, List.set_cons_succ]
  have hs1 : w.heap.size ≤ w1.heap.size := Nat.le_trans B0.size B1.size
  have b21 := b2.kept B1
  have hlt1 := b11.lt
  have hlt2 := b21.lt
  have hs0 := B0.size
  refine ⟨fun _ => ⟨b11, Bw1⟩, ?_, ?_⟩
  · go_wp2
    have o0 : (w1.alloc (.cells #[] 5)).ownsRow w.heap.size 5 1 (.slice (some ⟨w1.heap.size, 0, none⟩) 0 0) 0 [] := (BoxT.new w1 #[] 5).owns rfl (by decide) _ hs1
    have Bel0 : Below w1.heap.size w1 (w1.alloc (.cells #[] 5)) := (Below.refl _ _).alloc (Nat.le_refl _) _
    refine ⟨⟨b11.alloc _, Bw1.alloc _⟩, ?_, ?_⟩
    · refine apB o0 (Bw1.alloc _) rfl rfl rfl (by omega) (by simp; omega) ?_
      intro v3 w3 o3' g3 h3
      have hown : ∀ k, v3.ownBlock = some k → w1.heap.size ≤ k := fun k hk => by
        rw [hk] at h3
        rcases h3 with h3 | h3 <;> simp [Value.ownBlock] at h3 <;> omega
      have Bel3 : Below w1.heap.size w1 w3 := Bel0.trans (Below.grown g3 (by simp) (fun k hk => by simp [Value.ownBlock] at hk; omega))
      refine ⟨rfl, ⟨b11.below Bel3 b11.lt, Bw1.below Bel3 (Nat.le_refl _)⟩, ?_⟩
      go_wp2
      have o3 := ownsN_block (w' := w3.alloc (.cells #[.int .u8 201, .int .u8 202] 5)) o3' (fun k hk => alloc_old _ _ (World.ownsRow.lt o3' k hk).2)
      have b4 := Box.new w3 #[.int .u8 201, .int .u8 202] 5
      have BelX : Below w1.heap.size w1 (w3.alloc (.cells #[.int .u8 201, .int .u8 202] 5)) := Bel3.alloc Bel3.size _
      have bI : Box (w3.alloc (.cells #[.int .u8 201, .int .u8 202] 5)) w.heap.size (p.cells (.slice a p.B.length cap)) := b11.below BelX b11.lt
      have BI : Bytes (w3.alloc (.cells #[.int .u8 201, .int .u8 202] 5)) a p.B := Bw1.below BelX (Nat.le_refl _)
      have hsW := BelX.size
      refine ⟨⟨bI, BI⟩, ?_⟩
      refine apQ (m := 2) o3 (by decide) (by decide) rfl rfl b4 rfl (by intro u hu; simp at hu; rcases hu with rfl | rfl <;> rfl) (by omega) (by omega) (by omega) ?_
      intro v5 w5 o5 g5
      have B5 : Below w1.heap.size w1 w5 := by
        refine BelX.trans ?_
        rcases g5 with ⟨g, c, e1, e2, g5⟩ | ⟨e1, g5⟩
        · exact Below.grown (v := v3) (by rw [e1]; exact g5) hsW hown
        · exact Below.grown (v := .slice none 0 0) g5 hsW (fun k hk => by cases hk)
      obtain ⟨g, c, rfl, hg1, hg2⟩ := owns_form o5 (by omega)
      have hgb : w1.heap.size ≤ g := by
        rcases g5 with ⟨g', c', e1, e2, g5⟩ | ⟨e1, g5⟩
        · cases e2; exact hown _ (by rw [e1]; rfl)
        · have : g = ((w3.alloc (.cells #[.int .u8 201, .int .u8 202] 5))).heap.size := by simpa [Value.ownBlock] using e1
          omega
      have hcap := ownsN_cap o5
      have bI5 := b11.below B5 b11.lt
      have b25 := b21.below B5 b21.lt
      have BI5 := Bw1.below B5 (Nat.le_refl _)
      refine ⟨rfl, ⟨bI5, BI5⟩, ?_⟩
      refine w_slHi (j := p.B.length) (sz := 1) rfl rfl (by omega) ?_
      refine ⟨rfl, ⟨bI5, BI5⟩, ?_⟩
      have bS : Box (w5.setCell ⟨w.heap.size, 39, none⟩ (.slice (some ⟨g, 0, none⟩) p.B.length c)) w.heap.size (p.cells (.slice (some ⟨g, 0, none⟩) p.B.length c)) := (bI5.setCell _).cast (hp.cells_set _ _)
      have bT := b25.setOther (p := ⟨w.heap.size, 39, none⟩) (by simp) (.slice (some ⟨g, 0, none⟩) p.B.length c)
      have LS := bS.load (off := 0) (n := 40) (cs' := p.cells (.slice (some ⟨g, 0, none⟩) p.B.length c)) (by rw [hp.size]; decide) (Array.extract_eq_self_of_le (by rw [hp.size]; decide))
      have o5' : OwnW (w5.setCell ⟨w.heap.size, 39, none⟩ (.slice (some ⟨g, 0, none⟩) p.B.length c)) w.heap.size g c p.B := owns_cast (ownsN_block o5 (fun k hk => by obtain rfl : g = k := (by simpa [Value.ownBlock] using hk); exact Below.heap_setCell _ _ _ _ (by simp; omega))) (by simp) (by omega) (by simp [u8s])
      have B6 : Below w.heap.size w (w5.setCell ⟨w.heap.size, 39, none⟩ (.slice (some ⟨g, 0, none⟩) p.B.length c)) := (B0.trans ((B1.mono (by omega)).trans (B5.mono (by omega)))).setCell (by simp) _
      have fz5 := bI5.frozen 39
      have cl5 := ldf _ bI5
      go_wp2_with (first | ((with_reducible apply ld); rfl; (with_reducible assumption); (simp only [List.set_cons_zero, List.set_cons_succ]; rfl)) | ((with_reducible apply stO); rfl; rfl; exact bT; rfl; exact hp.size _; exact hp.flat ⟨by simp, by simp⟩; intro w6 b6 B7 ho6 hs6))
      refine bodyPost_ret (results_cellAgg rfl rfl (b6.load (off := 0) (n := 40) (by rw [hp.size]; decide) (Array.extract_eq_self_of_le (by rw [hp.size]; decide)))) rfl ?_
      refine ⟨⟨g, c, rfl, ownsN_block o5' (fun k hk => ?_)⟩, ?_⟩
      · obtain rfl : g = k := by simpa [Value.ownBlock] using hk
        exact ho6 _ (by omega)
      · exact B6.trans (B7.mono (by omega))
    · go_wp2
      refine ⟨⟨(b11.alloc _).alloc _, (Bw1.alloc _).alloc _⟩, ?_⟩
      have Bel4 : Below w1.heap.size w1 ((w1.alloc (.cells #[] 5)).alloc (.cells #[.int .u8 201, .int .u8 202] 5)) := Bel0.alloc Bel0.size _
      refine apB (ownsN_block (w' := (w1.alloc (.cells #[] 5)).alloc (.cells #[.int .u8 201, .int .u8 202] 5)) o0 (fun k hk => alloc_old _ _ (World.ownsRow.lt o0 k hk).2)) ((Bw1.alloc _).alloc _) rfl rfl rfl (by omega) (by simp; omega) ?_
      intro v3 w3 o3 g3 h3
      have hown : ∀ k, v3.ownBlock = some k → w1.heap.size ≤ k := fun k hk => by
        rw [hk] at h3
        rcases h3 with h3 | h3 <;> simp [Value.ownBlock] at h3 <;> omega
      have Bel3 : Below w1.heap.size w1 w3 := Bel4.trans (Below.grown g3 (by simp; omega) (fun k hk => by simp [Value.ownBlock] at hk; omega))
      refine ⟨rfl, ⟨b11.below Bel3 b11.lt, Bw1.below Bel3 (Nat.le_refl _)⟩, ?_⟩
      have b4 : Box w3 (w1.alloc (.cells #[] 5)).heap.size #[.int .u8 201, .int .u8 202] := (Box.new (w1.alloc (.cells #[] 5)) #[.int .u8 201, .int .u8 202] 5).imp fun _ e => (g3.block _ (by simp) (by simp [Value.ownBlock])).trans e
      rw [show (w1.alloc (.cells #[] 5)).heap.size = w1.heap.size + 1 by simp [World.alloc_eq]] at b4
      have BelX : Below w1.heap.size w1 w3 := Bel3
      have bI : Box w3 w.heap.size (p.cells (.slice a p.B.length cap)) := b11.below BelX b11.lt
      have BI : Bytes w3 a p.B := Bw1.below BelX (Nat.le_refl _)
      have hsW := BelX.size
      refine apQ (m := 2) o3 (by decide) (by decide) rfl rfl b4 rfl (by intro u hu; simp at hu; rcases hu with rfl | rfl <;> rfl) (by omega) (by omega) (by omega) ?_
      intro v5 w5 o5 g5
      have B5 : Below w1.heap.size w1 w5 := by
        refine BelX.trans ?_
        rcases g5 with ⟨g, c, e1, e2, g5⟩ | ⟨e1, g5⟩
        · exact Below.grown (v := v3) (by rw [e1]; exact g5) hsW hown
        · exact Below.grown (v := .slice none 0 0) g5 hsW (fun k hk => by cases hk)
      obtain ⟨g, c, rfl, hg1, hg2⟩ := owns_form o5 (by omega)
      have hgb : w1.heap.size ≤ g := by
        rcases g5 with ⟨g', c', e1, e2, g5⟩ | ⟨e1, g5⟩
        · cases e2; exact hown _ (by rw [e1]; rfl)
        · have : g = (w3).heap.size := by simpa [Value.ownBlock] using e1
          omega
      have hcap := ownsN_cap o5
      have bI5 := b11.below B5 b11.lt
      have b25 := b21.below B5 b21.lt
      have BI5 := Bw1.below B5 (Nat.le_refl _)
      refine ⟨rfl, ⟨bI5, BI5⟩, ?_⟩
      refine w_slHi (j := p.B.length) (sz := 1) rfl rfl (by omega) ?_
      refine ⟨rfl, ⟨bI5, BI5⟩, ?_⟩
      have bS : Box (w5.setCell ⟨w.heap.size, 39, none⟩ (.slice (some ⟨g, 0, none⟩) p.B.length c)) w.heap.size (p.cells (.slice (some ⟨g, 0, none⟩) p.B.length c)) := (bI5.setCell _).cast (hp.cells_set _ _)
      have bT := b25.setOther (p := ⟨w.heap.size, 39, none⟩) (by simp) (.slice (some ⟨g, 0, none⟩) p.B.length c)
      have LS := bS.load (off := 0) (n := 40) (cs' := p.cells (.slice (some ⟨g, 0, none⟩) p.B.length c)) (by rw [hp.size]; decide) (Array.extract_eq_self_of_le (by rw [hp.size]; decide))
      have o5' : OwnW (w5.setCell ⟨w.heap.size, 39, none⟩ (.slice (some ⟨g, 0, none⟩) p.B.length c)) w.heap.size g c p.B := owns_cast (ownsN_block o5 (fun k hk => by obtain rfl : g = k := (by simpa [Value.ownBlock] using hk); exact Below.heap_setCell _ _ _ _ (by simp; omega))) (by simp) (by omega) (by simp [u8s])
      have B6 : Below w.heap.size w (w5.setCell ⟨w.heap.size, 39, none⟩ (.slice (some ⟨g, 0, none⟩) p.B.length c)) := (B0.trans ((B1.mono (by omega)).trans (B5.mono (by omega)))).setCell (by simp) _
      have fz5 := bI5.frozen 39
      have cl5 := ldf _ bI5
      go_wp2_with (first | ((with_reducible apply ld); rfl; (with_reducible assumption); (simp only [List.set_cons_zero, List.set_cons_succ]; rfl)) | ((with_reducible apply stO); rfl; rfl; exact bT; rfl; exact hp.size _; exact hp.flat ⟨by simp, by simp⟩; intro w6 b6 B7 ho6 hs6))
      refine bodyPost_ret (results_cellAgg rfl rfl (b6.load (off := 0) (n := 40) (by rw [hp.size]; decide) (Array.extract_eq_self_of_le (by rw [hp.size]; decide)))) rfl ?_
      refine ⟨⟨g, c, rfl, ownsN_block o5' (fun k hk => ?_)⟩, ?_⟩
      · obtain rfl : g = k := by simpa [Value.ownBlock] using hk
        exact ho6 _ (by omega)
      · exact B6.trans (B7.mono (by omega))
  · go_wp2
    refine ⟨⟨b11.alloc _, Bw1.alloc _⟩, ?_⟩
    go_wp2
    refine ⟨⟨(b11.alloc _).alloc _, (Bw1.alloc _).alloc _⟩, ?_⟩
    have Bel0 : Below w1.heap.size w1 (w1.alloc (.cells #[.int .u8 201, .int .u8 202] 5)) := (Below.refl _ _).alloc (Nat.le_refl _) _
    have Bel4 : Below w1.heap.size w1 ((w1.alloc (.cells #[.int .u8 201, .int .u8 202] 5)).alloc (.cells #[] 5)) := Bel0.alloc Bel0.size _
    have hsz : (w1.alloc (.cells #[.int .u8 201, .int .u8 202] 5)).heap.size = w1.heap.size + 1 := by simp [World.alloc_eq]
    have o0 : ((w1.alloc (.cells #[.int .u8 201, .int .u8 202] 5)).alloc (.cells #[] 5)).ownsRow w.heap.size 5 1 (.slice (some ⟨w1.heap.size + 1, 0, none⟩) 0 0) 0 [] := by
      have := (BoxT.new (w1.alloc (.cells #[.int .u8 201, .int .u8 202] 5)) #[] 5).owns rfl (by decide) w.heap.size (by rw [hsz]; omega)
      rw [hsz] at this
      exact this
    refine apB o0 ((Bw1.alloc _).alloc _) rfl rfl rfl (by omega) (by simp; omega) ?_
    intro v3 w3 o3 g3 h3
    have hown : ∀ k, v3.ownBlock = some k → w1.heap.size ≤ k := fun k hk => by
      rw [hk] at h3
      rcases h3 with h3 | h3 <;> simp [Value.ownBlock] at h3 <;> omega
    have Bel3 : Below w1.heap.size w1 w3 := Bel4.trans (Below.grown g3 (by simp; omega) (fun k hk => by simp [Value.ownBlock] at hk; omega))
    refine ⟨rfl, ⟨b11.below Bel3 b11.lt, Bw1.below Bel3 (Nat.le_refl _)⟩, ?_⟩
    have b4 : Box w3 w1.heap.size #[.int .u8 201, .int .u8 202] := ((Box.new w1 #[.int .u8 201, .int .u8 202] 5).alloc (.cells #[] 5)).imp fun _ e => (g3.block _ (by simp; omega) (by simp [Value.ownBlock])).trans e
    have BelX : Below w1.heap.size w1 w3 := Bel3
    have bI : Box w3 w.heap.size (p.cells (.slice a p.B.length cap)) := b11.below BelX b11.lt
    have BI : Bytes w3 a p.B := Bw1.below BelX (Nat.le_refl _)
    have hsW := BelX.size
    refine apQ (m := 2) o3 (by decide) (by decide) rfl rfl b4 rfl (by intro u hu; simp at hu; rcases hu with rfl | rfl <;> rfl) (by omega) (by omega) (by omega) ?_
    intro v5 w5 o5 g5
    have B5 : Below w1.heap.size w1 w5 := by
      refine BelX.trans ?_
      rcases g5 with ⟨g, c, e1, e2, g5⟩ | ⟨e1, g5⟩
      · exact Below.grown (v := v3) (by rw [e1]; exact g5) hsW hown
      · exact Below.grown (v := .slice none 0 0) g5 hsW (fun k hk => by cases hk)
    obtain ⟨g, c, rfl, hg1, hg2⟩ := owns_form o5 (by omega)
    have hgb : w1.heap.size ≤ g := by
      rcases g5 with ⟨g', c', e1, e2, g5⟩ | ⟨e1, g5⟩
      · cases e2; exact hown _ (by rw [e1]; rfl)
      · have : g = (w3).heap.size := by simpa [Value.ownBlock] using e1
        omega
    have hcap := ownsN_cap o5
    have bI5 := b11.below B5 b11.lt
    have b25 := b21.below B5 b21.lt
    have BI5 := Bw1.below B5 (Nat.le_refl _)
    refine ⟨rfl, ⟨bI5, BI5⟩, ?_⟩
    refine w_slHi (j := p.B.length) (sz := 1) rfl rfl (by omega) ?_
    refine ⟨rfl, ⟨bI5, BI5⟩, ?_⟩
    have bS : Box (w5.setCell ⟨w.heap.size, 39, none⟩ (.slice (some ⟨g, 0, none⟩) p.B.length c)) w.heap.size (p.cells (.slice (some ⟨g, 0, none⟩) p.B.length c)) := (bI5.setCell _).cast (hp.cells_set _ _)
    have bT := b25.setOther (p := ⟨w.heap.size, 39, none⟩) (by simp) (.slice (some ⟨g, 0, none⟩) p.B.length c)
    have LS := bS.load (off := 0) (n := 40) (cs' := p.cells (.slice (some ⟨g, 0, none⟩) p.B.length c)) (by rw [hp.size]; decide) (Array.extract_eq_self_of_le (by rw [hp.size]; decide))
    have o5' : OwnW (w5.setCell ⟨w.heap.size, 39, none⟩ (.slice (some ⟨g, 0, none⟩) p.B.length c)) w.heap.size g c p.B := owns_cast (ownsN_block o5 (fun k hk => by obtain rfl : g = k := (by simpa [Value.ownBlock] using hk); exact Below.heap_setCell _ _ _ _ (by simp; omega))) (by simp) (by omega) (by simp [u8s])
    have B6 : Below w.heap.size w (w5.setCell ⟨w.heap.size, 39, none⟩ (.slice (some ⟨g, 0, none⟩) p.B.length c)) := (B0.trans ((B1.mono (by omega)).trans (B5.mono (by omega)))).setCell (by simp) _
    have fz5 := bI5.frozen 39
    have cl5 := ldf _ bI5
    go_wp2_with (first | ((with_reducible apply ld); rfl; (with_reducible assumption); (simp only [List.set_cons_zero, List.set_cons_succ]; rfl)) | ((with_reducible apply stO); rfl; rfl; exact bT; rfl; exact hp.size _; exact hp.flat ⟨by simp, by simp⟩; intro w6 b6 B7 ho6 hs6))
    refine bodyPost_ret (results_cellAgg rfl rfl (b6.load (off := 0) (n := 40) (by rw [hp.size]; decide) (Array.extract_eq_self_of_le (by rw [hp.size]; decide)))) rfl ?_
    refine ⟨⟨g, c, rfl, ownsN_block o5' (fun k hk => ?_)⟩, ?_⟩
    · obtain rfl : g = k := by simpa [Value.ownBlock] using hk
      exact ho6 _ (by omega)
    · exact B6.trans (B7.mono (by omega))
end Go.Proofs.Ytkjnmjilkhigaaa

/- The small functions of the statements of layer 18: two results, windows as they were. -/
namespace Go.Proofs.Ytkjnmjilkhigaaa
open Go.RowKit

set_option maxRecDepth 5000 in
theorem o18_same (r : Rs) (a a' : Option Addr) (c c' : Nat) (w : World) (h : Bytes w a r.bits) (h' : Bytes w a' r.bits) :
    Pure Try.prog 14 #[.agg (r.cells (.slice a r.bits.length c)), .agg (r.cells (.slice a' r.bits.length c'))] w (.bool true) := by
  go_enter Try.func14, Try.ntmps14
  go_upto_region 1 with fail
  refine name2 ?_
  intro w0 b1 b2 B0
  have x0 := h.kept B0
  have y0 := h'.kept B0
  have c10 := b1.cell 0
  have c11 := b1.cell 1
  have c12 := b1.cell 2
  have c13 := b1.cell 3
  have c14 := b1.cell 4
  have c15 := b1.cell 5
  have c16 := b1.cell 6
  have c20 := b2.cell 0
  have c21 := b2.cell 1
  have c22 := b2.cell 2
  have c23 := b2.cell 3
  have c24 := b2.cell 4
  have c25 := b2.cell 5
  have c26 := b2.cell 6
  simp only [Rs.cells, List.getElem?_toArray, List.getElem?_cons_zero, List.getElem?_cons_succ] at c10 c11 c12 c13 c14 c15 c16 c20 c21 c22 c23 c24 c25 c26
  have v1 := run_conv (P := Try.prog) (src := 30) (dst := 9) (cap := c) x0 rfl
  have v2 := run_conv (P := Try.prog) (src := 30) (dst := 9) (cap := c') y0 rfl
  go_wp2
  go_ret
  exact ⟨rfl, B0⟩
set_option maxRecDepth 5000 in
theorem o18_kept (p : Pb) (a : Option Addr) (n c cap g B : Nat) (hp : p.Ok) (hB : p.B.length ≤ 140737488351232) (w : World) (hw : Bytes w a p.B) (ho : OwnW w B g c p.B) :
    Pure Try.prog 16 #[.agg (p.cells (.slice (some ⟨g, 0, none⟩) n c)), .agg (p.cells (.slice a p.B.length cap))] w (.bool true) := by
  have hcap := ownsN_cap ho
  have hgl := ownsN_lt ho
  have k0 := fun k u (hk : (u8s (p.B ++ [201, 202]))[k]? = some u) => ownsN_cell ho (j := k) hk
  have bw : Bytes w (some ⟨g, 0, none⟩) (p.B ++ [201, 202]) := own_bytes ho (fun x hx => by
    rcases List.mem_append.1 hx with h | h
    · exact hp.b x h
    · simp at h; rcases h with rfl | rfl <;> decide)
  have b1' := (bw.part 0 p.B.length)
  rw [List.drop_zero, List.take_left' rfl, Nat.add_zero] at b1'
  have i1 := k0 p.B.length (.int .u8 201) (by simp [u8s])
  have i2 := k0 (p.B.length + 1) (.int .u8 202) (by simp [u8s])
  clear bw k0
  go_enter Try.func16, Try.ntmps16
  go_upto_region 1 with fail
  refine name2 ?_
  intro w0 b1 b2 B0
  have c1 : w0.cell? ⟨w.heap.size, 39, none⟩ = some (.slice (some ⟨g, 0, none⟩) n c) := by rw [b1.cell]; exact hp.cell39 _
  have c2 : w0.cell? ⟨w.heap.size + 1, 39, none⟩ = some (.slice a p.B.length cap) := by rw [b2.cell]; exact hp.cell39 _
  have x0 := hw.kept B0
  have y0 := b1'.kept B0
  have i10 := (World.cell?_of_block (a := ⟨g, p.B.length, none⟩) (B0.block g hgl)).trans i1
  have i20 := (World.cell?_of_block (a := ⟨g, p.B.length + 1, none⟩) (B0.block g hgl)).trans i2
  have v1 := run_conv (P := Try.prog) (src := 30) (dst := 9) (cap := cap) x0 rfl
  have v2 := run_conv (P := Try.prog) (src := 30) (dst := 9) (cap := c) y0 rfl
  go_upto_region 2 with (first | ((with_reducible apply ld); rfl; (with_reducible assumption); (simp only [List.set_cons_zero, List.set_cons_succ]; rfl)) | ((with_reducible apply w_slHi (j := p.B.length + 2) (sz := 1)); rfl; go_num; omega))
  have d2 := KeptW.cell c2
  have d3 := KeptW.cell i10
  have d4 := KeptW.cell i20
  refine wp_region_kept (by kernel_rfl) (by kernel_rfl) ?_
  repeat first
    | go_big_quiet_skip
    | ((with_reducible apply q_ldG); rfl; rfl; (with_reducible assumption); (simp only [List.set_cons_zero, List.set_cons_succ]; rfl))
    | ((with_reducible apply q_slHiC (j := p.B.length)); rfl; go_num; omega; (simp only [List.set_cons_zero, List.set_cons_succ]; rfl))
    | ((with_reducible apply q_cv); rfl; (with_reducible assumption); rfl; (simp only [List.set_cons_zero, List.set_cons_succ]; rfl))
    | go_big_quiet_step (fail)
  refine wpQuiet_nil ?_
  intro w3 B3
  go_wp2
  go_ret
  exact ⟨rfl, bOn B0 B3⟩
end Go.Proofs.Ytkjnmjilkhigaaa

/- The small functions of the statements of layer 18: the problem of one bit. -/
namespace Go.Proofs.Ytkjnmjilkhigaaa
open Go.RowKit

def tabZ (n : Int) : Array Value := (Tb.mk n (List.replicate 32 0)).cells
theorem build29 (w : World) : (Instr.build 29 #[(0, .int .i64 2)]).run Try.prog w = .ok (.agg (tabZ 2)) w := run_build w _ _ _ (by kernel_rfl)
theorem build23b (w : World) : (Instr.build 23 #[(0, .int .u32 7), (1, .int .u32 5), (2, .int .u32 0)]).run Try.prog w = .ok (.agg #[.int .u32 7, .int .u32 5, .int .u32 0]) w := run_build w _ _ _ (by kernel_rfl)
theorem build32b (v : Nat) (w : World) : (Instr.build 32 #[(0, .agg plainPb.C.cells), (1, .agg plainPb.T.cells), (2, .int .i64 1), (3, .slice (some ⟨v, 0, none⟩) 6 6)]).run Try.prog w = .ok (.agg (plainPb.cells (.slice (some ⟨v, 0, none⟩) 6 6))) w := run_build w _ _ _ (by kernel_rfl)
theorem tabZ_flat : Flat (tabZ 2) := by
  intro v hv
  simp [tabZ, Tb.cells, Tb.mc] at hv
  rcases hv with rfl | rfl <;> exact ⟨fun _ h => (by cases h), fun _ h => (by cases h)⟩
set_option maxRecDepth 5000 in
theorem o18_small (w : World) : Calls Try.prog 38 #[] w (PlainPost w) := by
  go_enter Try.func38, Try.ntmps38
  go_upto_region 1 with (fail)
  refine name1 ?_
  intro w0 b0 B0
  have bz : Box (w0.alloc (.cells (tabZ 0) 29)) w0.heap.size (tabZ 0) := Box.new _ _ _
  go_upto_region 2 with (first
    | ((with_reducible apply ld); rfl; (with_reducible assumption); (simp only [List.set_cons_zero, List.set_cons_succ]; rfl))
    | ((with_reducible apply w_build (d := 2) (cs := tabZ 2)); ((simp only [List.map_toArray, List.map_cons, List.map_nil]); exact build29 _))
    | ((with_reducible apply stO); rfl; rfl; exact bz; rfl; rfl; exact tabZ_flat; intro w2 hb5 B2 ho2 hs2))
  have B02 : Below w.heap.size w w2 := (B0.alloc (by have := B0.size; omega) _).trans (B2.mono (by have := B0.size; omega))
  have b02 : Box w2 w.heap.size zero32 := by
    obtain ⟨t, ht⟩ := b0.alloc (.cells (tabZ 0) 29)
    exact ⟨t, (ho2 _ (by have := b0.lt; omega)).trans ht⟩
  have hlt := b0.lt
  have hs0 := B0.size
  have c1 := hb5.cell 1
  rw [show (tabZ 2)[1]? = some (.int .i64 0) from rfl] at c1
  have z1 := hb5.frozen 1
  have c18 := hb5.cell 18
  rw [show (tabZ 2)[18]? = some (.int .i64 0) from rfl] at c18
  have z18 := hb5.frozen 18
  have c2 := hb5.cell 2
  rw [show (tabZ 2)[2]? = some (.int .i64 0) from rfl] at c2
  have z2 := hb5.frozen 2
  have c17 := hb5.cell 17
  rw [show (tabZ 2)[17]? = some (.int .i64 0) from rfl] at c17
  have z17 := hb5.frozen 17
  have e5 := ((((hb5.setCell (i := 1) (.int .i64 1)).setCell (i := 18) (.int .i64 1)).setCell (i := 2) (.int .i64 (-5))).setCell (i := 17) (.int .i64 (-5))).cast (cs' := plainPb.T.cells) (by kernel_rfl)
  have b03 := ((((b02.setOther (p := ⟨w0.heap.size, 1, none⟩) (by simp; omega) (.int .i64 1)).setOther (p := ⟨w0.heap.size, 18, none⟩) (by simp; omega) (.int .i64 1)).setOther (p := ⟨w0.heap.size, 2, none⟩) (by simp; omega) (.int .i64 (-5))).setOther (p := ⟨w0.heap.size, 17, none⟩) (by simp; omega) (.int .i64 (-5)))
  have B30 := ((((B02.setCell (p := ⟨w0.heap.size, 1, none⟩) (by simp; omega) (.int .i64 1)).setCell (p := ⟨w0.heap.size, 18, none⟩) (by simp; omega) (.int .i64 1)).setCell (p := ⟨w0.heap.size, 2, none⟩) (by simp; omega) (.int .i64 (-5))).setCell (p := ⟨w0.heap.size, 17, none⟩) (by simp; omega) (.int .i64 (-5)))
  have gl := e5.load (off := 0) (n := 33) (by decide) (Array.extract_eq_self_of_le (by decide))
  have hfl := fun g : Nat => plainPb_ok.flat (v := .slice (some ⟨g, 0, none⟩) 6 6) ⟨fun _ h => (by cases h), fun _ h => (by cases h)⟩
  clear hb5 ho2 B02 b02 bz b0
  go_upto_region 6 with fail
  obtain ⟨W, hW⟩ : ∃ W, W = ((((w2.setCell ⟨w0.heap.size, 1, none⟩ (.int .i64 1)).setCell ⟨w0.heap.size, 18, none⟩ (.int .i64 1)).setCell ⟨w0.heap.size, 2, none⟩ (.int .i64 (-5))).setCell ⟨w0.heap.size, 17, none⟩ (.int .i64 (-5))) := ⟨_, rfl⟩
  rw [← hW] at e5 b03 B30 gl ⊢
  clear hW
  have hsW := B30.size
  have hl5 := e5.lt
  have b04 := b03.alloc (.cells (u8s plainPb.B).toArray 5)
  go_wp2_with (first
    | ((with_reducible apply ld); rfl; (with_reducible assumption); (simp only [List.set_cons_zero, List.set_cons_succ]; rfl))
    | ((with_reducible apply w_build (d := 15)); ((simp only [List.map_toArray, List.map_cons, List.map_nil]); exact build23b _))
    | ((with_reducible apply w_build (d := 16)); ((simp only [List.map_toArray, List.map_cons, List.map_nil]); exact build25 _))
    | ((with_reducible apply w_slice (d := 18) (cs := (u8s plainPb.B).toArray) (e := 5)); ((simp only [List.map_toArray, List.map_cons, List.map_nil]); exact slice30 _))
    | ((with_reducible apply w_build (d := 19) (cs := plainPb.cells (.slice (some ⟨W.heap.size, 0, none⟩) 6 6))); ((simp only [List.map_toArray, List.map_cons, List.map_nil]); exact build32b _ _))
    | ((with_reducible apply stO); rfl; rfl; exact b04; rfl; rfl; exact hfl _; intro w3 hb6 B3 ho3 hs3))
  have hz40 : 0 + 40 ≤ (plainPb.cells (.slice (some ⟨W.heap.size, 0, none⟩) 6 6)).size := by rw [plainPb_ok.size]; omega
  refine bodyPost_ret (results_cellAgg rfl rfl (hb6.load (off := 0) (n := 40) (cs' := plainPb.cells (.slice (some ⟨W.heap.size, 0, none⟩) 6 6)) hz40 (Array.extract_eq_self_of_le hz40))) rfl ?_
  refine (show PlainPost _ _ _ from ⟨⟨W.heap.size, rfl, ?_, by omega⟩, (B30.alloc hsW _).trans B3⟩)
  exact Box.bytes ((Box.new W (u8s plainPb.B).toArray 5).imp fun _ e => (ho3 _ (by omega)).trans e) (by decide)
end Go.Proofs.Ytkjnmjilkhigaaa

/- The small functions of the statements of layer 18: one bit is found. -/
namespace Go.Proofs.Ytkjnmjilkhigaaa
open Go.RowKit

def liveR : Rs := ⟨true, true, [1], 6, 0, 3, 0⟩
theorem live_R : plainPb.fanoR 10 4 = liveR := by kernel_rfl
theorem live_E : plainPb.fanoE 10 4 = 0 := by kernel_rfl
theorem build35 (g : Nat) (w : World) : (Instr.build 35 #[(0, .bool true), (1, .bool true), (2, .slice (some ⟨g, 0, none⟩) 1 1), (3, .int .i64 6), (5, .int .i64 3)]).run Try.prog w = .ok (.agg (liveR.cells (.slice (some ⟨g, 0, none⟩) 1 1))) w := by
  go_simp
  try rfl
set_option maxRecDepth 5000 in
theorem o18_live (w : World) : Pure Try.prog 17 #[] w (.bool true) := by
  go_enter Try.func17, Try.ntmps17
  go_wp2_with fail
  refine (o18_small w).mono ?_
  rintro e w1 ⟨⟨g, rfl, hb, hg⟩, B1⟩
  go_wp2_with fail
  have hd := fano_Decode plainPb (some ⟨g, 0, none⟩) 6 10 4 plainPb_ok w1 hb
  rw [live_R, live_E] at hd
  refine hd.mono ?_
  rintro e w2 ⟨⟨a, c, rfl, ho⟩, B2⟩
  have hbr : Bytes w2 a liveR.bits := by
    obtain ⟨g', c', h1, _⟩ := owns_form ho (by decide)
    obtain ⟨rfl, _⟩ : a = some ⟨g', 0, none⟩ ∧ c = c' := by simpa using h1
    exact own_bytes ho (by decide)
  have B12 := bOn B1 B2
  clear ho hd hb
  have bz : Box (w2.alloc (.cells #[.bool false, .bool false, .slice none 0 0, .int .i64 0, .int .i64 0, .int .i64 0, .int .i64 0] 35)) w2.heap.size #[.bool false, .bool false, .slice none 0 0, .int .i64 0, .int .i64 0, .int .i64 0, .int .i64 0] := Box.new _ _ _
  go_upto_region 2 with (first | ((with_reducible apply ld); rfl; (with_reducible assumption); (simp only [List.set_cons_zero, List.set_cons_succ]; rfl)) | ((with_reducible apply stO); rfl; rfl; exact bz; rfl; rfl; exact flatR; intro w3 b3 B3 ho3 hs3))
  have B3' : Below w2.heap.size w2 w3 := ((Below.refl _ _).alloc (Nat.le_refl _) _).trans B3
  have x3 := hbr.kept B3'
  have d0 := b3.cell 0
  have d1 := b3.cell 1
  have d2 := b3.cell 2
  have d3 := b3.cell 3
  have d4 := b3.cell 4
  have d5 := b3.cell 5
  have d6 := b3.cell 6
  simp only [Rs.cells, List.getElem?_toArray, List.getElem?_cons_zero, List.getElem?_cons_succ] at d0 d1 d2 d3 d4 d5 d6
  go_wp2_with fail
  refine (o18_num _ w3).mono ?_
  rintro e w4 ⟨rfl, B4⟩
  have x4 := x3.kept B4
  have b4 := b3.kept B4
  clear d0 d1 d2 d3 d4 d5 d6
  have d0 := b4.cell 0
  have d1 := b4.cell 1
  have d2 := b4.cell 2
  have d3 := b4.cell 3
  have d4 := b4.cell 4
  have d5 := b4.cell 5
  have d6 := b4.cell 6
  simp only [Rs.cells, List.getElem?_toArray, List.getElem?_cons_zero, List.getElem?_cons_succ] at d0 d1 d2 d3 d4 d5 d6
  go_wp2_with fail
  have x5 := x4.alloc (.cells #[.int .u8 1] 5)
  have y5 : Bytes (w4.alloc (.cells #[.int .u8 1] 5)) (some ⟨w4.heap.size, 0, none⟩) [1] := Box.bytes (Box.new w4 _ _) (by decide)
  refine (o18_same liveR a (some ⟨w4.heap.size, 0, none⟩) c 1 _ x5 y5).mono ?_
  rintro e w6 ⟨rfl, B6⟩
  go_wp2_with fail
  go_ret
  exact ⟨rfl, bOn (bOn (bOn B12 B3') B4) (((Below.refl _ w4).alloc (Nat.le_refl _) _).trans (B6.mono (by simp)))⟩
end Go.Proofs.Ytkjnmjilkhigaaa

/- outpostlaw18.FanodecDecodes: every whole search. -/
namespace Go.Proofs.Ytkjnmjilkhigaaa
open Go.RowKit

theorem OwnW.bytes {w : World} {B g c : Nat} {l : List Nat} (ho : OwnW w B g c l) (hl : ∀ x ∈ l, x < 256) : Bytes w (some ⟨g, 0, none⟩) l := by
  have bw : Bytes w (some ⟨g, 0, none⟩) (l ++ [201, 202]) := own_bytes ho (fun x hx => by
    rcases List.mem_append.1 hx with h | h
    · exact hl x h
    · simp at h; rcases h with rfl | rfl <;> decide)
  have b1' := (bw.part 0 l.length)
  rwa [List.drop_zero, List.take_left' rfl, Nat.add_zero] at b1'
theorem OwnW.kept {w w' : World} {B g c : Nat} {l : List Nat} (ho : OwnW w B g c l) (hB : Below w.heap.size w w') : OwnW w' B g c l :=
  ownsN_block ho fun k hk => hB.block k (World.ownsRow.lt ho k hk).2
theorem zero32_flat : Flat zero32 := Pb.Ok.flat (p := ⟨⟨0, 0, 0, 0, 0⟩, ⟨0, List.replicate 32 0⟩, 0, []⟩) ⟨⟨by decide, by decide, by decide, by decide, by decide, by decide, by decide, by decide, by decide, by decide⟩, ⟨rfl, by decide, by decide, by decide⟩, by decide, by decide, by decide, by decide⟩ ⟨fun _ h => (by cases h), fun _ h => (by cases h)⟩
theorem res_bytes {r : Rs} {w : World} {B c : Nat} {a : Option Addr} (ho : w.ownsRow B 5 1 (.slice a r.bits.length c) r.bits.length (u8s r.bits)) (hl : ∀ x ∈ r.bits, x < 256) : Bytes w a r.bits := by
  rcases ho.2 with ⟨e, h0⟩ | ⟨g', c', cur, e, _⟩
  · rw [List.length_eq_zero_iff.1 h0]; exact Bytes.nil _ _
  · obtain ⟨rfl, _⟩ : a = some ⟨g', 0, none⟩ ∧ c = c' := by simpa using e
    exact own_bytes ho hl
theorem fanoR_bits (p : Pb) (b D : Int) : ∀ x ∈ (p.fanoR b D).bits, x < 256 := by
  intro x hx
  unfold Pb.fanoR at hx
  split at hx
  · cases hx
  · rename_i hc
    split at hx
    · cases hx
    · rename_i hD
      split at hx
      · cases hx
      · have h0 : probChk p = 0 := by simpa using hc
        have hok := Fm.Ok.run h0 (by omega : 1 ≤ D) b.toNat (Fm.Ok.start h0 (by omega))
        have hx' : x ∈ p.fbits (p.frun D b.toNat Fm.start) := hx
        unfold Pb.fbits at hx'
        split at hx'
        · rename_i hd
          have := (hok.path h0 hd).lt x hx'
          omega
        · cases hx'
theorem ldG {P : Program} {ops : Array Oper} {rest : List Oper} {l l' : List Value} {ds : List Deferred} {w : World} {Q : Exit → Act → World → Prop} {t n b off d : Nat} {x : Operand} {v : Value} {ty : TypeId} {ps : String} {af : Array Edge} {gd : Option (Nat × Bool)}
    (hw : Region.wanted ⟨some d, .load t x, ty, ps, af, gd⟩ (yielded ops l.toArray) = true) (hx : (Act.mk l.toArray ds).eval x = .pointer (some ⟨b, off, none⟩)) [T : AggTy P t n] (hl : loadAgg w b off n = .ok v w) (hs : l.set d v = l') (h : wpList P ops Q rest ⟨l'.toArray, ds⟩ w) :
    wpList P ops Q (⟨some d, .load t x, ty, ps, af, gd⟩ :: rest) ⟨l.toArray, ds⟩ w := by
  obtain ⟨d, h1, h2, h3⟩ := T.out
  refine BigFrame.wpList_want hw fun K hK => ?_
  unfold Oper.wp execOp
  have := run_loadVar_agg (P := P) (w := w) (b := b) (off := off) h1 h2 h3 (by rw [hl]; rfl)
  simp only [hx, Instr.loadAt, Instr.sureAddr, Sem.run_bind, Sem.run_pure, Result.andThen_ok, this, hl]
  rw [Oper.upon_value, put_list, hs]
  exact hK _ _ h
set_option maxRecDepth 5000 in
theorem law18_Decodes (p : Pb) (a : Option Addr) (cap : Nat) (hp : p.Ok) (hB : p.B.length ≤ 140737488351232) (b : Int) (hb0 : -9223372036854775808 ≤ b) (hb1 : b ≤ 9223372036854775807) (D : Int) (hD0 : -9223372036854775808 ≤ D) (hD1 : D ≤ 9223372036854775807) (w : World) (hw : Bytes w a p.B) :
    Pure Try.prog 3 #[.agg (p.cells (.slice a p.B.length cap)), .int .i64 b, .int .i64 D] w (.bool true) := by
  go_enter Try.func3, Try.ntmps3
  go_upto_region 1 with fail
  refine name1 ?_
  intro w0 b0 B0
  have hw0 := hw.kept B0
  have L0 := b0.load (off := 0) (n := 40) (by rw [hp.size]; decide) (Array.extract_eq_self_of_le (by rw [hp.size]; decide))
  go_wp2_with ((with_reducible apply ld); rfl; (with_reducible assumption); (simp only [List.set_cons_zero, List.set_cons_succ]; rfl))
  refine (o18_own p a cap hp hB w0 hw0).mono ?_
  rintro e w1 ⟨⟨g, c, rfl, ho⟩, B1⟩
  have bz : Box (w1.alloc (.cells zero32 32)) w1.heap.size zero32 := Box.new _ _ _
  have fl := hp.flat (v := .slice (some ⟨g, 0, none⟩) p.B.length c) ⟨fun _ h => (by cases h), fun _ h => (by cases h)⟩
  go_upto_region 2 with (first | ((with_reducible apply ld); rfl; (with_reducible assumption); (simp only [List.set_cons_zero, List.set_cons_succ]; rfl)) | ((with_reducible apply stO); rfl; rfl; exact bz; rfl; exact hp.size _; exact fl; intro w2 b2 B2 ho2 hs2))
  have B2' : Below w1.heap.size w1 w2 := ((Below.refl _ _).alloc (Nat.le_refl _) _).trans B2
  have o2 := ho.kept B2'
  have b02 := (b0.kept B1).kept B2'
  have hw2 := (hw0.kept B1).kept B2'
  have B20 := bOn (bOn B0 B1) B2'
  clear bz B2 ho2 hs2 ho hw0 hw b0 L0 B0 B1 B2'
  have L2 := b2.load (off := 0) (n := 40) (by rw [hp.size]; decide) (Array.extract_eq_self_of_le (by rw [hp.size]; decide))
  go_wp2_with ((with_reducible apply ld); rfl; (with_reducible assumption); (simp only [List.set_cons_zero, List.set_cons_succ]; rfl))
  refine (fano_Decode p (some ⟨g, 0, none⟩) c b D hp w2 (o2.bytes hp.b)).mono ?_
  rintro e w3 ⟨⟨x1, c1, rfl, r1⟩, B3⟩
  have y3 := res_bytes r1 (fanoR_bits p b D)
  have bz : Box (w3.alloc (.cells #[.bool false, .bool false, .slice none 0 0, .int .i64 0, .int .i64 0, .int .i64 0, .int .i64 0] 35)) w3.heap.size #[.bool false, .bool false, .slice none 0 0, .int .i64 0, .int .i64 0, .int .i64 0, .int .i64 0] := Box.new _ _ _
  have q2 := b2.kept B3
  have q0 := b02.kept B3
  have o3 := o2.kept B3
  have hw3 := hw2.kept B3
  go_upto_region 3 with (first | ((with_reducible apply ld); rfl; (with_reducible assumption); (simp only [List.set_cons_zero, List.set_cons_succ]; rfl)) | ((with_reducible apply stO); rfl; rfl; exact bz; rfl; rfl; exact flatR; intro w4 b4 B4 ho4 hs4))
  have B4' : Below w3.heap.size w3 w4 := ((Below.refl _ _).alloc (Nat.le_refl _) _).trans B4
  have y4 := y3.kept B4'
  have q24 := q2.kept B4'
  have q04 := q0.kept B4'
  have o4 := o3.kept B4'
  have hw4 := hw3.kept B4'
  have B40 := bOn (bOn B20 B3) B4'
  have L4 := q04.load (off := 0) (n := 40) (by rw [hp.size]; decide) (Array.extract_eq_self_of_le (by rw [hp.size]; decide))
  clear bz B4 ho4 hs4 q0 q2 o3 hw3 b2 b02 o2 hw2 B3 B4' B20 L2 y3 r1
  go_wp2_with ((with_reducible apply ld); rfl; (with_reducible assumption); (simp only [List.set_cons_zero, List.set_cons_succ]; rfl))
  refine (fd_Decode p a cap b D hp w4 hw4).mono ?_
  rintro e w5 ⟨⟨x2, c2, rfl, r2⟩, B5⟩
  have z5 := res_bytes r2 (fanoR_bits p b D)
  have bz : Box (w5.alloc (.cells #[.bool false, .bool false, .slice none 0 0, .int .i64 0, .int .i64 0, .int .i64 0, .int .i64 0] 35)) w5.heap.size #[.bool false, .bool false, .slice none 0 0, .int .i64 0, .int .i64 0, .int .i64 0, .int .i64 0] := Box.new _ _ _
  go_upto_region 4 with (first | ((with_reducible apply ld); rfl; (with_reducible assumption); (simp only [List.set_cons_zero, List.set_cons_succ]; rfl)) | ((with_reducible apply stO); rfl; rfl; exact bz; rfl; rfl; exact flatR; intro w6 b6 B6 ho6 hs6))
  have B6' : Below w5.heap.size w5 w6 := ((Below.refl _ _).alloc (Nat.le_refl _) _).trans B6
  have B56 := bOn B5 B6'
  have z6 := z5.kept B6'
  have y6 := y4.kept B56
  have q26 := q24.kept B56
  have q06 := q04.kept B56
  have o6 := o4.kept B56
  have hw6 := hw4.kept B56
  have b46 := b4.kept B56
  have B60 := bOn B40 B56
  clear bz B6 ho6 hs6 z5 y4 q24 q04 o4 hw4 b4 B40 L4 B5 B6' r2
  have K1 := b46.load (off := 0) (n := 7) (cs' := (p.fanoR b D).cells (.slice x1 (p.fanoR b D).bits.length c1)) (Nat.le_refl _) rfl
  have K2 := b6.load (off := 0) (n := 7) (cs' := (p.fanoR b D).cells (.slice x2 (p.fanoR b D).bits.length c2)) (Nat.le_refl _) rfl
  go_wp2_with ((with_reducible apply ld); rfl; (with_reducible assumption); (simp only [List.set_cons_zero, List.set_cons_succ]; rfl))
  refine (o18_same (p.fanoR b D) x1 x2 c1 c2 w6 y6 z6).mono ?_
  rintro e w7 ⟨rfl, B7⟩
  go_wp2_with fail
  refine (o18_num (p.fanoE b D) w7).mono ?_
  rintro e w8 ⟨rfl, B8⟩
  have B78 := bOn B7 B8
  have q28 := q26.kept B78
  have q08 := q06.kept B78
  have o8 := o6.kept B78
  have hw8 := hw6.kept B78
  have B80 := bOn B60 B78
  clear q26 q06 o6 hw6 B60 y6 z6 b46 K1 K2 b6
  have K3 := q28.load (off := 0) (n := 40) (by rw [hp.size]; decide) (Array.extract_eq_self_of_le (by rw [hp.size]; decide))
  have K4 := q08.load (off := 0) (n := 40) (by rw [hp.size]; decide) (Array.extract_eq_self_of_le (by rw [hp.size]; decide))
  go_wp2_with (first | ((with_reducible apply ld); rfl; (with_reducible assumption); (simp only [List.set_cons_zero, List.set_cons_succ]; rfl)) | ((with_reducible apply ldG); rfl; rfl; (with_reducible assumption); (simp only [List.set_cons_zero, List.set_cons_succ]; rfl)))
  refine (o18_kept p a p.B.length c cap g _ hp hB w8 hw8 o8).mono ?_
  rintro e w9 ⟨rfl, B9⟩
  go_wp2_with fail
  refine (o18_live w9).mono ?_
  rintro e w10 ⟨rfl, B10⟩
  go_wp2_with fail
  go_ret
  exact ⟨rfl, bOn (bOn B80 B9) B10⟩
end Go.Proofs.Ytkjnmjilkhigaaa
