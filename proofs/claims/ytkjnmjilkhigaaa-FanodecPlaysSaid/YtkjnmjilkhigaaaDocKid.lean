import Derived.Test.YtkjnmjilkhigaaaDip2
import Derived.Test.YtkjnmjilkhigaaaCount
import Derived.Laws.Tables
import Derived.Test.YtkjnmjilkhigaaaScoreB
import Derived.Laws.OwnMore
import Derived.Test.YtkjnmjilkhigaaaMetric2
set_option linter.unusedSimpArgs false
set_option linter.unusedVariables false
set_option linter.unnecessarySimpa false
/- The walk of the prefix metrics: an append in the round of a range over the iterator. -/
namespace Go.Proofs.Ytkjnmjilkhigaaa
open Go.RowKit Go.Shelf
attribute [local go_sem] Oper.semAt_some

section
variable {P : Program} {ops : Array Oper} {rest : List Oper} {Q : Exit → Act → World → Prop} {w : World} {F : Fence} {nn : Nat}
/-- THE ARM for 'append(s, x ..)' in a round. -/
theorem apIn {l : List Value} {ds : List Deferred} {t e te d n m c size bytes base : Nat} {s x : Operand} {z v : Value} {xs us : List Value} {ty : TypeId} {ps : String} {af : Array Edge} (hF : ∀ f, F.fn f)
    [S : SlTy P t e] [E : ElTy P e z size bytes] (hown : w.ownsRow base e size v n xs) (hsz : 0 < size) (hs : (Act.mk l.toArray ds).eval s = v) (hx : (Act.mk l.toArray ds).eval x = .slice (some ⟨w.heap.size, 0, none⟩) m c)
    (hl : us.length = m * size) (h1 : ∀ u ∈ us, u.oneCell' = true) (h63 : n + m ≤ 9223372036854775807 / 65536) (hbytes : (n + m) * bytes ≤ 140737488355328) (hbase : base ≤ w.heap.size)
    (h : ∀ v' w', w'.ownsRow base e size v' (n + m) (xs ++ us) → w.grownBy w' v.ownBlock → (v'.ownBlock = v.ownBlock ∨ v'.ownBlock = some (w.heap.size + 1)) → wpListIn F nn P ops Q rest ⟨(l.set d v').toArray, ds⟩ w') :
    wpListIn F nn P ops Q (⟨some d, .call { callee := .builtin .append, args := #[s, x], argTypes := #[t, t] }, ty, ps, af, none⟩ :: rest) ⟨l.toArray, ds⟩ (w.alloc (.cells us.toArray te)) := by
  obtain ⟨i, hi, hz0, hz1, hz2, hz3⟩ := E.out
  obtain ⟨v', w', hr, h2, h3, _, h5⟩ := run_append_own_at (P := P) (w.alloc (.cells us.toArray te)) base t ty e i z size bytes S.out hi hz0 hz1 hz2 hz3 hsz v n xs (hown.alloc _) ⟨w.heap.size, 0, none⟩ m c us hl (alloc_cells_new w us te) h1 (by unfold maxLen; omega) hbytes (by simp; omega)
  refine in_value (v := v') (w' := w') hF (fun c h => by cases h) rfl ?_ ?_
  · unfold execOp
    simp only [resolve, invoke, builtin, Sem.run_bind, Sem.run_pure, Result.andThen_ok, List.map_toArray, List.map_cons, List.map_nil, hs, hx, hr]
  · rw [put_list]
    exact h v' w' h2 ((World.grownBy_alloc w _ _).trans h3) (by simpa using h5)
end
theorem row_form {w : World} {B e size n : Nat} {v : Value} {xs : List Value} (h : w.ownsRow B e size v (n + 1) xs) : ∃ g cap, v = .slice (some ⟨g, 0, none⟩) (n + 1) cap := by
  rcases h.2 with ⟨_, h⟩ | ⟨g, cap, cur, hv, _⟩
  · omega
  · exact ⟨g, cap, hv⟩
/-- A row of numbers that a call has lent. -/
def Row64 (w : World) (B : Nat) (v : Value) (l : List Int) : Prop := w.ownsRow B 3 1 v l.length (l.map (Value.int .i64))
theorem Row64.turn {H : Nat → Prop} {w w' : World} {B : Nat} {v : Value} {l : List Int} (h : Row64 w B v l) (hT : Turn H w w') (hn : ∀ k, v.ownBlock = some k → ¬H k) : Row64 w' B v l := by
  refine ⟨h.1, ?_⟩
  rcases h.2 with h | ⟨g, cap, cur, hv, hb, hg, rest⟩
  · exact .inl h
  · refine .inr ⟨g, cap, cur, hv, hb, (hT.block g ?_ (hn g (by rw [hv]; rfl))).trans hg, rest⟩
    exact (Array.getElem?_eq_some_iff.1 hg).1
theorem Turn.grown {w w' : World} {row : Option Nat} (h : w.grownBy w' row) : Turn (fun k => some k = row) w w' := ⟨h.os, h.tape, h.output, h.size, h.block⟩
theorem Row64.mono {w : World} {B B' : Nat} {v : Value} {l : List Int} (h : Row64 w B v l) (hb : B' ≤ B) : Row64 w B' v l := by
  refine ⟨h.1, ?_⟩
  rcases h.2 with h | ⟨g, cap, cur, hv, hbg, rest⟩
  · exact .inl h
  · exact .inr ⟨g, cap, cur, hv, Nat.le_trans hb hbg, rest⟩
end Go.Proofs.Ytkjnmjilkhigaaa
/- The walk of a law's own path: bits out of any bytes. -/
namespace Go.Proofs.Ytkjnmjilkhigaaa
open Go.RowKit

/-- THE ARM for 'make([]T, n)'. -/
theorem mkA {P : Program} {ops : Array Oper} {rest : List Oper} {l l' : List Value} {ds : List Deferred} {w : World} {Q : Exit → Act → World → Prop} {t e d size bytes : Nat} {n : Int} {kl kc : IntKind} {s x : Operand} {z : Value} {ty : TypeId} {ps : String} {af : Array Edge}
    [S : SlTy P t e] [E : ElTy P e z size bytes] (hs : (Act.mk l.toArray ds).eval s = .int kl n) (hx : (Act.mk l.toArray ds).eval x = .int kc n) (h0 : 0 ≤ n) (hb : (bytes : Int) * n ≤ 281474976710656) (h63 : n ≤ 9223372036854775807)
    (hl : l.set d (.slice (some ⟨w.heap.size, 0, none⟩) n.toNat n.toNat) = l')
    (h : ∀ w', Box w' w.heap.size (madeCells z.cells (n.toNat * size)) → Below w.heap.size w w' → w'.heap.size = w.heap.size + 1 → wpList P ops Q rest ⟨l'.toArray, ds⟩ w') :
    wpList P ops Q (⟨some d, .makeSlice t s x, ty, ps, af, none⟩ :: rest) ⟨l.toArray, ds⟩ w := by
  obtain ⟨i, hi, hz0, hz1, hz2, hz3⟩ := E.out
  have hr := run_make (P := P) w t e i z S.out hi hz0 kl kc n n h0 (Int.le_refl _) (by rw [hz2]; exact hb) h63
  refine wpList_plain rfl fun K hK => ?_
  unfold Oper.wp execOp
  simp only [hs, hx, Sem.run_bind, hr, Result.andThen_ok, Sem.run_pure]
  rw [Oper.upon_value, put_list, hl]
  exact hK _ _ (h (w.alloc (.cells (madeCells z.cells (n.toNat * i.size)) e)) ⟨e, by rw [← hz1]; exact heap_alloc_new w _⟩ ((Below.refl _ w).alloc (Nat.le_refl _) _) (by simp))
set_option maxRecDepth 100000 in
theorem and8F : ∀ x : Fin 256, bits .and .u8 ((x.val : Nat) : Int) 1 = ((x.val % 2 : Nat) : Int) := by decide
theorem and8 (x : Nat) (h : x < 256) : bits .and .u8 (x : Int) 1 = ((x % 2 : Nat) : Int) := and8F ⟨x, h⟩
def bitsTo (bs : List Nat) (m k : Nat) : List Nat := (List.range m).map fun i => if i < k then bs.getD i 0 % 2 else 0
def bitsOf (bs : List Nat) (m : Nat) : List Nat := (List.range m).map fun i => bs.getD i 0 % 2
theorem bitsTo_len (bs : List Nat) (m k : Nat) : (bitsTo bs m k).length = m := by simp [bitsTo]
theorem bitsOf_len (bs : List Nat) (m : Nat) : (bitsOf bs m).length = m := by simp [bitsOf]
theorem bitsTo_zero (bs : List Nat) (m : Nat) : (u8s (bitsTo bs m 0)).toArray = madeCells (Value.int .u8 0).cells m := by
  have h1 : u8s (bitsTo bs m 0) = List.replicate m (Value.int .u8 0) := by
    apply List.ext_getElem
    · simp [u8s_len, bitsTo_len]
    · intro i h1 h2
      simp [u8s, bitsTo]
  rw [h1]
  unfold madeCells
  apply Array.ext
  · simp
  · intro i h1 h2
    simp [Value.cells, Nat.mod_one]
theorem bitsTo_full {bs : List Nat} {m k : Nat} (h : m ≤ k ∨ bs.length ≤ k) : bitsTo bs m k = bitsOf bs m := by
  unfold bitsTo bitsOf
  apply List.map_congr_left
  intro i hi
  have him := List.mem_range.1 hi
  split
  · rfl
  · have : bs.length ≤ i := by omega
    simp [List.getD, List.getElem?_eq_none this]
theorem bitsTo_set {bs : List Nat} {m k : Nat} (_hk : k < m) (x : Nat) (hx : x = bs.getD k 0 % 2) : (u8s (bitsTo bs m k)).toArray.setIfInBounds k (Value.int .u8 (x : Nat)) = (u8s (bitsTo bs m (k + 1))).toArray := by
  subst hx
  apply Array.ext_getElem?
  intro i
  rw [Array.getElem?_setIfInBounds]
  simp only [List.size_toArray, List.getElem?_toArray, u8s, bitsTo, List.length_map, List.length_range, List.getElem?_map]
  by_cases hi : i < m
  · rw [List.getElem?_range hi]
    simp only [Option.map_some]
    by_cases hik : k = i
    · subst hik
      rw [if_pos rfl, if_pos hi, if_pos (by omega)]
    · rw [if_neg hik]
      by_cases h1 : i < k
      · rw [if_pos h1, if_pos (by omega)]
      · rw [if_neg h1, if_neg (by omega)]
  · rw [List.getElem?_eq_none (by simp; omega)]
    by_cases hik : k = i
    · omega
    · rw [if_neg hik]
      rfl
end Go.Proofs.Ytkjnmjilkhigaaa
/- Laws of the prefix metrics: the least, the last, paths that begin alike. No walk. -/
namespace Go.Proofs.Ytkjnmjilkhigaaa
open Go.RowKit

theorem foldl_min_le : ∀ (l : List Int) (m : Int), l.foldl min m ≤ m ∧ (∀ x ∈ l, l.foldl min m ≤ x) ∧ (l.foldl min m = m ∨ l.foldl min m ∈ l)
  | [], m => ⟨Int.le_refl _, fun x hx => (by cases hx), .inl rfl⟩
  | a :: l, m => by
    obtain ⟨h1, h2, h3⟩ := foldl_min_le l (min m a)
    simp only [List.foldl_cons]
    refine ⟨by omega, fun x hx => ?_, ?_⟩
    · rcases List.mem_cons.1 hx with rfl | hx
      · omega
      · exact h2 x hx
    · rcases h3 with h | h
      · by_cases hm : m ≤ a
        · left; rw [h]; omega
        · right; rw [h]; rw [show min m a = a by omega]; exact List.mem_cons_self
      · right; exact List.mem_cons_of_mem _ h
theorem Pb.pm_len (p : Pb) (bs : List Nat) : (p.pm bs).length = p.N.toNat + 1 := by unfold Pb.pm; rw [Pb.psums_len, Pb.pathL_len]
theorem Pb.pm_get (p : Pb) (bs : List Nat) {i : Nat} (h : i ≤ p.N.toNat) : (p.pm bs)[i]? = some (p.psum ((p.pathL bs).take i)) := by
  unfold Pb.pm Pb.psums
  rw [Pb.pathL_len, List.getElem?_map, List.getElem?_range (by omega)]
  rfl
theorem Pb.pm_zero (p : Pb) (bs : List Nat) : (p.pm bs)[0]? = some 0 := by rw [p.pm_get bs (Nat.zero_le _)]; rfl
theorem Pb.pm_last (p : Pb) (bs : List Nat) : (p.pm bs)[p.N.toNat]? = some (lastOf (p.pm bs)) := by
  have h := p.pm_len bs
  unfold lastOf
  rw [List.getLastD_eq_getLast?, List.getLast?_eq_getElem?, h]
  simp only [Nat.add_sub_cancel]
  rw [List.getElem?_eq_getElem (by omega)]
  rfl
theorem Pb.pm_dip (p : Pb) (bs : List Nat) : dipOf (p.pm bs) ≤ 0 ∧ (∀ (i : Nat) x, (p.pm bs)[i]? = some x → dipOf (p.pm bs) ≤ x) ∧ ∃ i : Nat, i ≤ p.N.toNat ∧ (p.pm bs)[i]? = some (dipOf (p.pm bs)) := by
  obtain ⟨h1, h2, h3⟩ := foldl_min_le (p.pm bs) 0
  refine ⟨h1, fun i x hi => h2 x (List.mem_of_getElem? hi), ?_⟩
  rcases h3 with h | h
  · exact ⟨0, Nat.zero_le _, by rw [p.pm_zero bs]; unfold dipOf; rw [h]⟩
  · obtain ⟨i, hi, he⟩ := List.getElem_of_mem h
    have := p.pm_len bs
    exact ⟨i, by omega, by rw [List.getElem?_eq_getElem hi, he]; rfl⟩
theorem Pb.bit_congr (p : Pb) {bs cs : List Nat} {j : Nat} (h : bs.getD j 0 = cs.getD j 0) : p.bit bs j = p.bit cs j := by unfold Pb.bit; rw [h]
theorem Pb.st_congr (p : Pb) {bs cs : List Nat} : ∀ i, (∀ j, j < i → bs.getD j 0 = cs.getD j 0) → p.st bs i = p.st cs i
  | 0, _ => rfl
  | i + 1, h => by
    unfold Pb.st
    rw [Pb.st_congr p i (fun j hj => h j (by omega)), p.bit_congr (h i (by omega))]
theorem Pb.take_congr (p : Pb) {bs cs : List Nat} {i : Nat} (h : ∀ j, j < i → bs.getD j 0 = cs.getD j 0) : (p.pathL bs).take i = (p.pathL cs).take i := by
  apply List.ext_getElem
  · simp [Pb.pathL_len]
  · intro k h1 h2
    simp only [List.length_take, Nat.lt_min] at h1
    simp only [List.getElem_take, Pb.pathL, List.getElem_ofFn]
    have : p.reg bs k = p.reg cs k := by
      unfold Pb.reg
      rw [p.st_congr k (fun j hj => h j (by omega)), p.bit_congr (h k h1.1)]
    congr 1
    rw [this]
theorem Pb.pm_congr (p : Pb) {bs cs : List Nat} {i : Nat} (h : ∀ j, j < i → bs.getD j 0 = cs.getD j 0) (hi : i ≤ p.N.toNat) : (p.pm bs)[i]? = (p.pm cs)[i]? := by
  rw [p.pm_get bs hi, p.pm_get cs hi, p.take_congr h]
/-- A path that begins as another one. -/
def joinAt (l m : List Nat) (k : Nat) : List Nat := l.take k ++ m.drop k
theorem joinAt_len {l m : List Nat} {k : Nat} (h : l.length = m.length) : (joinAt l m k).length = m.length := by
  unfold joinAt; simp; omega
theorem joinAt_getD {l m : List Nat} {j k : Nat} (hk : k ≤ l.length) (hj : j < k) : (joinAt l m k).getD j 0 = l.getD j 0 := by
  unfold joinAt
  simp only [List.getD]
  rw [List.getElem?_append_left (by simp; omega), List.getElem?_take, if_pos hj]
theorem bitsOf_lt {bs : List Nat} {m : Nat} : ∀ x ∈ bitsOf bs m, x < 2 := by
  intro x hx
  obtain ⟨i, _, rfl⟩ := List.mem_map.1 hx
  exact Nat.mod_lt _ (by decide)
theorem joinAt_lt {l m : List Nat} {k c : Nat} (hl : ∀ x ∈ l, x < c) (hm : ∀ x ∈ m, x < c) : ∀ x ∈ joinAt l m k, x < c := by
  intro x hx
  rcases List.mem_append.1 hx with h | h
  · exact hl x (List.mem_of_mem_take h)
  · exact hm x (List.mem_of_mem_drop h)
theorem Pb.path_chk {p : Pb} {bs : List Nat} (h : probChk p = 0) (hlen : (bs.length : Int) = p.L) (hb : ∀ x ∈ bs, x < 2) : p.pathChk bs = 0 := by
  unfold Pb.pathChk
  have h2 : bs.any (fun x => decide (1 < x)) = false := by
    rw [List.any_eq_false]
    intro x hx
    have := hb x hx
    simp; omega
  rw [if_neg (by simp [h]), h2, if_neg (by simp), if_neg (by simp [hlen])]
/-- Numbers at the head of a block. -/
def IntsAt (w : World) (g : Nat) (l : List Int) : Prop := g < w.heap.size ∧ ∀ (i : Nat) x, l[i]? = some x → w.cell? ⟨g, i, none⟩ = some (.int .i64 x)
theorem IntsAt.kept {w w' : World} {g : Nat} {l : List Int} (h : IntsAt w g l) (hB : Below w.heap.size w w') : IntsAt w' g l := ⟨Nat.lt_of_lt_of_le h.1 hB.size, fun i x hx => (hB.cell h.1).trans (h.2 i x hx)⟩
theorem Row64.form {w : World} {B : Nat} {v : Value} {l : List Int} (h : Row64 w B v l) (hl : 0 < l.length) : ∃ g cap, v = .slice (some ⟨g, 0, none⟩) l.length cap ∧ B ≤ g ∧ IntsAt w g l := by
  have h0 := h
  rcases h.2 with ⟨_, h⟩ | ⟨g, cap, cur, hv, hb, hg, _⟩
  · omega
  · subst hv
    refine ⟨g, cap, rfl, hb, (Array.getElem?_eq_some_iff.1 hg).1, fun i x hx => ?_⟩
    have hil : i < l.length := by
      rcases Nat.lt_or_ge i l.length with h | h
      · exact h
      · rw [List.getElem?_eq_none h] at hx; cases hx
    rw [World.ownsRow.cellAt h0 i (by omega), List.getElem?_map, hx]
    rfl
theorem prob_slice {p : Pb} (h : probChk p = 0) : 0 < p.B.length := by
  obtain ⟨⟨k1, k2⟩, l1, l2, cr, hwin, _⟩ := probChk_ok h
  have h1 : 3 ≤ p.N := by unfold Pb.N; omega
  rcases cr with h | h <;> rw [h] at hwin <;> omega
end Go.Proofs.Ytkjnmjilkhigaaa

/- A struct of one field, built of that field's value. No program's text is named here. -/
namespace Go.Proofs.Ytkjnmjilkhigaaa
open Go.RowKit

theorem fold_set : ∀ (l : List Value) (k : Nat) (zs : Array Value) (i : Nat), k + l.length ≤ zs.size → ((l.zipIdx k).foldl (fun cs x => cs.setIfInBounds (0 + x.2) x.1) zs)[i]? = if k ≤ i ∧ i < k + l.length then l[i - k]? else zs[i]?
  | [], k, zs, i, _ => by simp; omega
  | v :: l, k, zs, i, h => by
    simp only [List.length_cons] at h
    rw [List.zipIdx_cons, List.foldl_cons, fold_set l (k + 1) _ i (by simp; omega)]
    simp only [List.length_cons, Nat.zero_add]
    by_cases h1 : i = k
    · subst h1
      rw [if_neg (by omega), if_pos (by omega)]
      simp [Array.getElem?_setIfInBounds]
      omega
    · by_cases h2 : k + 1 ≤ i ∧ i < k + 1 + l.length
      · rw [if_pos h2, if_pos (by omega), show i - k = (i - (k + 1)) + 1 by omega, List.getElem?_cons_succ]
      · rw [if_neg h2, if_neg (by omega), Array.getElem?_setIfInBounds_ne (Ne.symm h1)]
theorem fill_one {cs zs : Array Value} (h : cs.size = zs.size) : cs.zipIdx.foldl (fun cs (x : Value × Nat) => cs.setIfInBounds (0 + x.2) x.1) zs = cs := by
  rw [← Array.foldl_toList, Array.toList_zipIdx]
  apply Array.ext_getElem?
  intro i
  rw [fold_set cs.toList 0 zs i (by simp [h])]
  split
  · simp
  · rw [Array.getElem?_eq_none (by simp at *; omega), Array.getElem?_eq_none (by simp at *; omega)]
theorem run_build_one {P : Program} {t : TypeId} {f : Field} {n : Nat} {z : Value} (hu : P.underlying t = some (.struct #[f])) (hf : f.offset = 0) (hi : (P.info? t).map (·.zero) = some (some z)) (hz : z.cells.size = n) (hs : (P.info? f.type).map (·.size) = some n) {cs : Array Value} (hc : cs.size = n) (w : World) :
    (Instr.build t #[(0, .agg cs)]).run P w = .ok (.agg cs) w := by
  refine run_build w t _ cs ?_
  unfold Program.built
  cases h1 : P.info? t with
  | none => simp [h1] at hi
  | some it =>
    cases h2 : P.info? f.type with
    | none => simp [h2] at hs
    | some jt =>
      have hz' : it.zero = some z := by simpa [h1] using hi
      have hs' : jt.size = n := by simpa [h2] using hs
      simp only [hu, hz']
      simp only [List.mapM_cons, List.mapM_nil, h2, Option.map_some, hf, hs']
      have := fill_one (cs := cs) (zs := z.cells) (by rw [hc, hz])
      show Instr.fill _ z.cells [(0, .agg cs)] = some cs
      have hvc : (Value.agg cs).cells.size = n := hc
      unfold Instr.fill
      simp only [List.getElem?_toArray, List.getElem?_cons_zero]
      split
      · rename_i hbad
        exfalso
        rcases (by simpa using hbad : (Value.agg cs).cells.size ≠ n ∨ _) with h | h
        · exact h hvc
        · omega
      · unfold Instr.fill
        exact congrArg some this
end Go.Proofs.Ytkjnmjilkhigaaa

/- The document's tree: how it lies in memory, its making, its looks. -/
namespace Go.Proofs.Ytkjnmjilkhigaaa
open Go.RowKit

/-- The document's tree of a problem. -/
structure DocIn (w : World) (p : Pb) (tb g c : Nat) : Prop where
  tree : Box w tb (p.cells (.slice (some ⟨g, 0, none⟩) p.B.length c))
  win : Bytes w (some ⟨g, 0, none⟩) p.B
theorem DocIn.kept {w w' : World} {p : Pb} {tb g c : Nat} (h : DocIn w p tb g c) (hB : Below w.heap.size w w') : DocIn w' p tb g c := ⟨h.tree.kept hB, h.win.kept hB⟩
def DocPost (p : Pb) (w : World) (e : Ending) (w' : World) : Prop := (∃ tb g c, e = .returned (.tuple #[.pointer (some ⟨tb, 0, none⟩), .int .i64 0]) ∧ DocIn w' p tb g c ∧ (w.heap.size ≤ tb ∧ w.heap.size ≤ g)) ∧ Below w.heap.size w w'
theorem doc_New_bad (p : Pb) (a : Option Addr) (cap : Nat) (hp : p.Ok) (h : probChk p ≠ 0) (w : World) (hw : Bytes w a p.B) :
    Pure Try.prog 32 #[.agg (p.cells (.slice a p.B.length cap))] w (.tuple #[.pointer none, .int .i64 (probChk p)]) := by
  go_enter Try.func32, Try.ntmps32
  go_upto_region 1 with (fail)
  refine name1 ?_
  intro w0 b1 B0
  obtain ⟨fk, fr, flev, fl, fwin, fcode, ftable, fall⟩ := b1.prob hp
  clear fk fr flev fl fwin fcode ftable
  have hc : (probChk p != 0) = true := by simp [h]
  go_wp2_with ((with_reducible apply ld); rfl; (with_reducible assumption); (simp only [List.set_cons_zero, List.set_cons_succ]; rfl))
  refine (ref11_Check p a cap hp _ (hw.kept B0)).mono ?_
  rintro e w1 ⟨rfl, B1⟩
  go_wp2
  go_ret2
  exact ⟨rfl, bOn B0 B1⟩
theorem doc_form {w' : World} {base e n m : Nat} {v : Value} {xs : List Value} {b0 b1 : Nat} (h : w'.ownsRow base e 1 v n xs) (hat : v.ownBlock = (Value.slice (some ⟨b0, 0, none⟩) m m).ownBlock ∨ v.ownBlock = some b1) : ∃ g cap', v = .slice (some ⟨g, 0, none⟩) n cap' ∧ n ≤ cap' ∧ base ≤ g := by
  obtain ⟨k, hk⟩ : ∃ k, v.ownBlock = some k := by
    rcases hat with h | h
    · exact ⟨_, h⟩
    · exact ⟨_, h⟩
  obtain ⟨c, rfl, hc⟩ := own_form h hk
  rcases h.2 with ⟨h', _⟩ | ⟨g', c', cur, h', hb, _⟩
  · cases h'
  · obtain ⟨rfl, rfl⟩ : k = g' ∧ c = c' := by simpa using h'
    exact ⟨k, c, rfl, hc, hb⟩
set_option maxRecDepth 5000 in
theorem doc_New (p : Pb) (a : Option Addr) (cap : Nat) (hp : p.Ok) (h : probChk p = 0) (w : World) (hw : Bytes w a p.B) :
    Calls Try.prog 32 #[.agg (p.cells (.slice a p.B.length cap))] w (DocPost p w) := by
  obtain ⟨⟨k1, k2⟩, l1, l2, cr, hwin, _⟩ := probChk_ok h
  have hn : p.B.length ≤ 140737488351232 := by
    have h1 : p.N ≤ 1056 := by unfold Pb.N; omega
    rcases cr with h | h <;> rw [h] at hwin <;> omega
  clear k1 k2 l1 l2 cr hwin
  go_enter Try.func32, Try.ntmps32
  go_upto_region 1 with (fail)
  refine name1 ?_
  intro w0 b1 B0
  obtain ⟨fk, fr, flev, fl, fwin, fcode, ftable, fall⟩ := b1.prob hp
  clear fk fr flev fl fwin fcode ftable
  go_wp2_with ((with_reducible apply ld); rfl; (with_reducible assumption); (simp only [List.set_cons_zero, List.set_cons_succ]; rfl))
  refine (ref11_Check p a cap hp _ (hw.kept B0)).mono ?_
  rintro e w1 ⟨rfl, B1⟩
  rw [h]
  have b11 := b1.kept B1
  have c39 := b11.cell 39
  rw [hp.cell39] at c39
  clear fall
  have hw1 := hw.kept (bOn B0 B1)
  have c39' : (w1.alloc (.cells #[] 5)).cell? ⟨w.heap.size, 39, none⟩ = some (.slice a p.B.length cap) := (((Below.refl _ w1).alloc (Nat.le_refl _) _).cell b11.lt).trans c39
  have hwa := hw1.kept ((Below.refl _ w1).alloc (Nat.le_refl _) (.cells #[] 5))
  have hown : (w1.alloc (.cells #[] 5)).ownsRow w1.heap.size 5 1 (.slice (some ⟨w1.heap.size, 0, none⟩) 0 0) 0 [] := World.ownsRow_lit (e := 5) (size := 1) w1 #[] 0 (Nat.le_refl _) (by decide) rfl
  have hb1a := b11.alloc (.cells #[] 5)
  have hb1l := b11.lt
  go_upto_region 5 with (at_builtin; refine apB hown hwa rfl rfl rfl (by omega) (by simp) ?_; intro v' w2 hown2 hgr hat; have B2 := own_below hown hgr (by simp); obtain ⟨g, cap', rfl, hcap, hg⟩ := doc_form hown2 hat; have hz39 := (hb1a.below B2 hb1l).frozen 39; have hc39 := (hb1a.below B2 hb1l).cell 39; rw [hp.cell39] at hc39)
  have B20 : Below w.heap.size w w2 := (bOn B0 B1).trans ((((Below.refl w1.heap.size w1).alloc (Nat.le_refl _) _).trans B2).mono (by have := B0.size; have := B1.size; omega))
  have hbp := (hb1a.below B2 hb1l).setCell (i := 39) (.slice (some ⟨g, 0, none⟩) p.B.length cap')
  rw [hp.set39] at hbp
  have hby : Bytes w2 (some ⟨g, 0, none⟩) p.B := own_bytes (bs := p.B) (by simpa [u8s] using hown2) hw.lt
  have hgl : w1.heap.size ≤ g := hg
  refine nameAny (fun W => Box W w.heap.size (p.cells (.slice (some ⟨g, 0, none⟩) p.B.length cap')) ∧ Bytes W (some ⟨g, 0, none⟩) p.B ∧ Below w.heap.size w W) ⟨hbp, hby.block (Below.heap_setCell _ _ _ _ (by simp; omega)), B20.setCell (by simp) _⟩ ?_
  rintro w3 ⟨b13, by3, B3⟩
  clear hbp hby hz39 hc39 hown2 hown hb1a c39 c39'
  obtain ⟨fk, fr, flev, fl, fwin, fcode, ftable, fall⟩ := b13.prob hp
  clear fk fr flev fl fwin fcode ftable
  have hbd : ∀ w, (Instr.build 115 #[(0, .agg (p.cells (.slice (some ⟨g, 0, none⟩) p.B.length cap')))]).run Try.prog w = .ok (.agg (p.cells (.slice (some ⟨g, 0, none⟩) p.B.length cap'))) w := fun w => run_build_one (f := ⟨"P", 32, 0, false, "", "", 0⟩) Try.underlying115 rfl (z := .agg zero32) (by kernel_rfl) rfl (by kernel_rfl) (hp.size _) w
  go_wp2_with (first | ((with_reducible apply ld); rfl; (with_reducible assumption); (simp only [List.set_cons_zero, List.set_cons_succ]; rfl)) | ((with_reducible apply w_build (d := 16) (cs := p.cells (.slice (some ⟨g, 0, none⟩) p.B.length cap'))); ((simp only [List.map_toArray, List.map_cons, List.map_nil]); exact hbd _)))
  go_ret2
  have hsz := B3.size
  refine (show DocPost p w _ _ from ⟨⟨w3.heap.size, g, cap', rfl, ⟨Box.new _ _ _, by3.kept ((Below.refl _ _).alloc (Nat.le_refl _) _)⟩, by omega, by have := B0.size; have := B1.size; omega⟩, B3.alloc hsz _⟩)
theorem doc_Steps (p : Pb) (hp : p.Ok) (h : probChk p = 0) {tb g c : Nat} (w : World) (hT : DocIn w p tb g c) : Pure Try.prog 56 #[.pointer (some ⟨tb, 0, none⟩)] w (.int .i64 p.N) := by
  obtain ⟨⟨k1, k2⟩, l1, l2, _⟩ := probChk_ok h
  obtain ⟨fk, fr, flev, fl, fwin, fcode, ftable, fall⟩ := hT.tree.prob hp
  clear fk fr flev fl fwin fcode ftable
  go_enter Try.func56, Try.ntmps56
  go_wp2_with ((with_reducible apply ld); rfl; (with_reducible assumption); (simp only [List.set_cons_zero, List.set_cons_succ]; rfl))
  refine (ref11_N p _ hp l1 l2 k1 k2 _).mono ?_
  rintro e w1 ⟨rfl, B1⟩
  go_wp2
  go_ret
  exact ⟨rfl, B1⟩
theorem doc_Steps_nil (w : World) : Pure Try.prog 56 #[.pointer none] w (.int .i64 0) := by
  go_enter Try.func56, Try.ntmps56
  go_wp2
  go_ret
  exact ⟨rfl, Below.refl _ _⟩
theorem doc_Root (v : Value) (w : World) : Pure Try.prog 34 #[v] w (.agg (Nd.mk 0 0 0).cells) := by
  go_enter Try.func34, Try.ntmps34
  have b2 := Box.new w #[.int .u32 0, .int .i64 0, .int .i64 0] 80
  go_wp2_with (first | ((with_reducible apply ld); rfl; (with_reducible assumption); (simp only [List.set_cons_zero, List.set_cons_succ]; rfl)) | ((with_reducible apply stO); rfl; rfl; (with_reducible assumption); rfl; rfl; exact nodeCells_flat 0 0 0; intro w2 hb5 B2 ho2 hs2))
  refine bodyPost_ret (results_cellAgg rfl rfl (hb5.load (off := 0) (n := 3) (cs' := nodeCells 0 0 0) (Nat.le_refl _) rfl)) rfl ?_
  exact ⟨rfl, ((Below.refl _ w).alloc (Nat.le_refl _) _).trans (B2.mono (by simp))⟩
theorem doc_Leaf (p : Pb) (hp : p.Ok) (h : probChk p = 0) {tb g c : Nat} (n : Nd) (w : World) (hT : DocIn w p tb g c) : Pure Try.prog 80 #[.pointer (some ⟨tb, 0, none⟩), .agg n.cells] w (.bool (n.d == p.N)) := by
  go_enter Try.func80, Try.ntmps80
  go_upto_region 1 with (fail)
  refine name1 ?_
  intro w0 b3 B0
  have hT0 := hT.kept B0
  have m1 := b3.cell 1
  simp only [Nd.cells, nodeCells, List.getElem?_toArray, List.getElem?_cons_zero, List.getElem?_cons_succ] at m1
  (refine wp_region_kept_tail 9 (by kernel_rfl) (by kernel_rfl) ?_; simp only [List.take_succ_cons, List.take_zero, List.drop_succ_cons, List.drop_zero])
  have q1 := KeptW.cell m1
  repeat first
    | go_big_quiet_skip
    | go_big_quiet_step (exact Calls.kept (doc_Steps p hp h _ (hT0.kept (Subtype.property _))))
  refine wpQuiet_nil ?_
  intro w1 B1
  go_wp2
  go_ret
  exact ⟨rfl, bOn B0 B1⟩
theorem doc_Leaf_nil (n : Nd) (w : World) : Pure Try.prog 80 #[.pointer none, .agg n.cells] w (.bool false) := by
  go_enter Try.func80, Try.ntmps80
  go_upto_region 1 with (fail)
  refine name1 ?_
  intro w0 b3 B0
  (refine wp_region_kept_tail 9 (by kernel_rfl) (by kernel_rfl) ?_; simp only [List.take_succ_cons, List.take_zero, List.drop_succ_cons, List.drop_zero])
  repeat first
    | go_big_quiet_skip
    | go_big_quiet_step (fail)
  refine wpQuiet_nil ?_
  intro w1 B1
  go_wp2
  go_ret
  exact ⟨rfl, bOn B0 B1⟩
theorem doc_Kids_nil (n : Nd) (w : World) : Pure Try.prog 36 #[.pointer none, .agg n.cells] w (.tuple #[.slice none 0 0, .slice none 0 0]) := by
  go_enter Try.func36, Try.ntmps36
  go_upto_region 1 with (fail)
  refine name1 ?_
  intro w0 b3 B0
  refine wp_region_kept (by kernel_rfl) (by kernel_rfl) ?_
  repeat first
    | go_big_quiet_skip
    | go_big_quiet_step (fail)
  refine wpQuiet_nil ?_
  intro w1 B1
  go_wp2
  go_ret2
  exact ⟨rfl, bOn B0 B1⟩
end Go.Proofs.Ytkjnmjilkhigaaa

/- The walk of the metric of a step: the document's. -/
namespace Go.Proofs.Ytkjnmjilkhigaaa
open Go.RowKit

theorem wrap_mul_add {d R k n : Nat} (hn : (n : Int) ≤ 9223372036854775807) (h : d * R + k < n) : wrap64 (wrap64 ((d : Int) * (R : Int)) + (k : Int)) = ((d * R + k : Nat) : Int) := by
  have h0 : (d : Int) * (R : Int) = ((d * R : Nat) : Int) := by push_cast; rfl
  rw [h0]
  generalize d * R = m at h
  unfold wrap64
  omega
set_option maxRecDepth 5000 in
set_option maxHeartbeats 1000000 in
theorem ref11_Branch (p : Pb) (a : Option Addr) (cap : Nat) (hp : p.Ok) (h : probChk p = 0) (d : Nat) (hd : (d : Int) < p.N) (v : Nat) (w : World) (hw : Bytes w a p.B) :
    Pure Try.prog 65 #[.agg (p.cells (.slice a p.B.length cap)), .int .i64 d, .agg (ya (p.C.y v))] w (.int .i64 (p.br d v)) := by
  obtain ⟨⟨k1, k2⟩, l1, l2, cr, hwin, ⟨v1, v2⟩, hlev, hcc, htt⟩ := probChk_ok h
  go_enter Try.func65, Try.ntmps65
  go_upto_region 1 with (fail)
  refine name2 ?_
  intro w0 b3 b5 B0
  have hw0 := hw.kept B0
  obtain ⟨fk, fr, flev, fl, fwin, fcode, ftable, fall⟩ := b3.prob hp
  clear fk flev fl fcode ftable fall
  have hN : p.N ≤ 1055 := by unfold Pb.N; omega
  have hlen : ((p.lv d).length : Int) = p.C.R := by rw [Pb.lv_len h hd]; rcases cr with h | h <;> omega
  obtain ⟨R, hR⟩ : ∃ R : Nat, p.C.R = R := ⟨p.C.R.toNat, by omega⟩
  have hRR : p.C.R.toNat = R := by omega
  have hR3 : 2 ≤ R ∧ R ≤ 3 := by omega
  obtain ⟨hR2, hR3⟩ := hR3
  rw [hR] at fr
  have hll : p.B.length = p.N.toNat * R := by
    have : (p.B.length : Int) = ((p.N.toNat * R : Nat) : Int) := by rw [hwin, hR]; push_cast; congr 1; omega
    exact_mod_cast this
  have HR := Lib.hid hR
  have HRR := Lib.hid hRR
  have HL := Lib.hid hll
  have HW := Lib.hid hwin
  clear hR hRR hll hwin cr
  have hl16 : ∀ x ∈ p.lv d, x < 16 := fun x hx => by
    have := hlev x (List.mem_of_mem_drop (List.mem_of_mem_take hx))
    omega
  go_wp2_with fail
  go_loopw [7, 8] (fun m i wr => ∃ k : Nat, k ≤ R ∧ i = .int .i64 k ∧ m = .int .i64 (brS p.T (p.C.y v) (p.lv d) k) ∧ Below w0.heap.size w0 wr) (fun _ i _ => R - (intOf i).toNat)
  case atStart => exact ⟨0, by omega, rfl, rfl, Below.refl _ _⟩
  case round =>
    obtain ⟨k, hk, rfl, rfl, B⟩ := hrel
    have b3r := b3.kept B
    have b5r := b5.kept B
    have hwr := hw0.kept B
    clear fr fwin
    obtain ⟨fk, fr, flev, fl, fwin, fcode, ftable, fall⟩ := b3r.prob hp
    rw [HR.out] at fr
    clear fk flev fl fcode ftable fall
    by_cases hkl : k < R
    · have hkr : (k : Int) < (R : Int) := by omega
      have hk2 : decide ((k : Int) < (R : Int)) = true := by simp; omega
      have hdl : d * R + k < p.B.length := by
        rw [HL.out]
        have : d + 1 ≤ p.N.toNat := by omega
        have := Nat.mul_le_mul_right R this
        rw [Nat.add_mul] at this
        omega
      have hd2 : wrap64 (wrap64 ((d : Int) * (R : Int)) + (k : Int)) = ((d * R + k : Nat) : Int) := by
        exact wrap_mul_add hp.n hdl
      obtain ⟨I, hI⟩ : ∃ I, I = d * R + k := ⟨_, rfl⟩
      rw [← hI] at hdl hd2
      obtain ⟨b, o, rfl, hcell⟩ := hwr.cell I hdl
      have hyc := b5r.cell k
      rw [ya_get (p.C.y v) (by omega)] at hyc
      have hyk := p.C.y_lt v k
      have hx16 : p.B[I] < 16 := by have := hlev _ (List.getElem_mem hdl); omega
      have hk4 : (k : Int) < 3 := by omega
      have hyk2 : ((p.C.y v k : Nat) : Int) < 2 := by omega
      have hx2 : ((p.B[I] : Nat) : Int) < 16 := by omega
      have hdl2 : (I : Int) < p.B.length := by omega
      have hm := b3r.cell (6 + p.C.y v k * 16 + p.B[I])
      rw [show 6 + p.C.y v k * 16 + p.B[I] = 5 + (1 + p.C.y v k * 16 + p.B[I]) by omega, hp.cellt _ (by omega), hp.t.cellm hyk hx16, show 5 + (1 + p.C.y v k * 16 + p.B[I]) = 6 + p.C.y v k * 16 + p.B[I] by omega] at hm
      have HI := Lib.hid hI
      clear hI
      go_wp2_with fail
      (refine wp_region_kept_tail 21 (by kernel_rfl) (by kernel_rfl) ?_; simp only [List.take_succ_cons, List.take_zero, List.drop_succ_cons, List.drop_zero])
      have q0 := KeptW.cell fr
      have q1 := KeptW.cell fwin
      have q2 := KeptW.cell hyc
      have q3 := KeptW.cell hcell
      have q4 := KeptW.cell hm
      repeat first
        | ((with_reducible apply q_ld); rfl; (with_reducible assumption); (simp only [List.set_cons_zero, List.set_cons_succ]; rfl))
        | go_big_quiet_step (fail)
      refine wpQuiet_nil ?_
      intro w1 B1
      have hbd := brS_bd htt (p.C.y_lt v) hl16 k
      have hbd2 := tabChk_m htt hyk hx16
      have hgd : (p.lv d).getD k 0 = p.B[I] := by
        have h1 : (p.lv d)[k]? = p.B[I]? := by
          unfold Pb.lv
          rw [HRR.out, List.getElem?_take, if_pos hkl, List.getElem?_drop, HI.out]
        rw [List.getD_eq_getElem?_getD, h1, List.getElem?_eq_getElem hdl]
        rfl
      have HS : Hid (brS p.T (p.C.y v) (p.lv d) k + p.T.m (p.C.y v k) p.B[I] = brS p.T (p.C.y v) (p.lv d) (k + 1)) := by
        show _ = _
        simp only [brS, hgd]
      clear hgd
      go_wp2
      go_roundw
      case measure => simp only [intOf]; omega
      case rel => exact ⟨k + 1, by omega, by go_num, by rw [← HS.out]; congr 1; unfold wrap64; omega, B.trans (B1.mono B.size)⟩
    · obtain rfl : k = R := by omega
      have HE : Hid (brS p.T (p.C.y v) (p.lv d) k = p.br d v) := by
        show _ = _
        unfold Pb.br
        rw [HRR.out]
      have hk2 : decide ((k : Int) < (k : Int)) = false := by simp
      go_wp2
      go_ret
      exact ⟨by rw [HE.out]; rfl, bOn B0 B⟩
end Go.Proofs.Ytkjnmjilkhigaaa

/- The walk of the least and the greatest metric of a table: the document's. -/
namespace Go.Proofs.Ytkjnmjilkhigaaa
open Go.RowKit

end Go.Proofs.Ytkjnmjilkhigaaa

/- The walks of the document's kids. -/
namespace Go.Proofs.Ytkjnmjilkhigaaa
open Go.RowKit

set_option maxRecDepth 5000 in
set_option maxHeartbeats 1000000 in
theorem doc_kid (p : Pb) (hp : p.Ok) (h : probChk p = 0) {tb g c : Nat} (n : Nd) (hn : p.In n) (b : Int) (b0 : 0 ≤ b) (b1 : b < 2) (w : World) (hT : DocIn w p tb g c) :
    Pure Try.prog 57 #[.pointer (some ⟨tb, 0, none⟩), .agg n.cells, .int .u8 b] w (.agg (p.kid n b).cells) := by
  obtain ⟨⟨k1, k2⟩, l1, l2, cr, hwin, ⟨v1, v2⟩, hlev, hcc, htt⟩ := probChk_ok h
  obtain ⟨s, d, m⟩ := n
  obtain ⟨s0, s1, d0, d1⟩ := hn
  obtain ⟨k, rfl⟩ := Int.eq_ofNat_of_zero_le d0
  simp only at s0 s1 d1
  have HWIN := Lib.hid hwin; clear hwin
  have HCR := Lib.hid cr; clear cr
  go_enter Try.func57, Try.ntmps57
  go_upto_region 1 with (fail)
  refine name2 ?_
  intro w0 b4 b6 B0
  have hT0 := hT.kept B0
  obtain ⟨fk, fr, flev, fl, fwin, fcode, ftable, fall⟩ := hT0.tree.prob hp
  clear fk fr flev fl fwin ftable
  have n0 := b4.cell 0
  simp only [Nd.cells, nodeCells, List.getElem?_toArray, List.getElem?_cons_zero, List.getElem?_cons_succ] at n0
  refine wp_region_free_tail 12 2 (by kernel_rfl) (by kernel_rfl) ?_
  simp only [List.take_succ_cons, List.take_zero, List.drop_succ_cons, List.drop_zero]
  have q0 := KeptW.cell n0
  repeat first
    | ((refine det_plain rfl ?_); ((with_reducible apply q_ld); rfl; (with_reducible assumption); (simp only [List.set_cons_zero, List.set_cons_succ]; rfl)); (refine wpQuiet_nil ?_))
    | ((with_reducible apply det_nilG); rfl; rfl; (simp only [List.set_cons_zero, List.set_cons_succ]; rfl))
    | ((with_reducible apply det_call); rfl; infer_instance; rfl; (intro w1 B1; exact ref07_Next p.C hp.c k1 k2 HCR.out s b s0 s1 b0 b1 _); (simp only [List.set_cons_zero, List.set_cons_succ]; rfl))
    | ((refine det_plain rfl ?_); (go_big_quiet_step (fail)); (refine wpQuiet_nil ?_))
  refine wpDet_nil ?_
  clear q0 fcode fall n0
  have hv0 : 0 ≤ 2 * s + b := by omega
  obtain ⟨v, hv⟩ : ∃ v : Nat, v = (2 * s + b).toNat := ⟨_, rfl⟩
  rw [← hv]
  have HV := Lib.hid hv; clear hv
  have hsz : (p.C.yv v).size = 3 := rfl
  have hfl := p.C.ys_flat v p.C.R.toNat
  refine free_alloc anti_list (cs := #[.int .u8 0, .int .u8 0, .int .u8 0]) (by intro w1; go_simp) ?_
  intro b8 h8
  simp only [List.set_cons_zero, List.set_cons_succ]
  ((with_reducible apply free_assignT); exact anti_list; rfl; (simp only [List.set_cons_zero, List.set_cons_succ]; rfl))
  intro w1 B1 hS
  obtain ⟨_, x8⟩ := hS
  refine stO rfl rfl x8 rfl hsz hfl ?_
  intro w2 y8 B2 o2 s2
  have B20 : Below w0.heap.size w0 w2 := B1.trans (B2.mono h8)
  have hT2 := hT0.kept B20
  have b42 := b4.kept B20
  have b62 := b6.kept B20
  clear o2 s2 x8
  obtain ⟨fk, fr, flev, fl, fwin, fcode, ftable, fall⟩ := hT2.tree.prob hp
  clear fk fr flev fl fwin fcode ftable
  have n1 := b42.cell 1
  have n2 := b42.cell 2
  simp only [Nd.cells, nodeCells, List.getElem?_toArray, List.getElem?_cons_zero, List.getElem?_cons_succ] at n1 n2
  have gY := y8.load (off := 0) (n := 3) (cs' := p.C.yv v) (by rw [hsz]; omega) (Array.extract_eq_self_of_le (by rw [hsz]; omega))
  have hNb : p.N ≤ 1055 := by unfold Pb.N; omega
  have hk1 : wrap64 ((k : Int) + 1) = (k : Int) + 1 := by unfold wrap64; omega
  go_upto_region 2 with (fail)
  (refine wp_region_kept_tail 16 (by kernel_rfl) (by kernel_rfl) ?_; simp only [List.take_succ_cons, List.take_zero, List.drop_succ_cons, List.drop_zero])
  have q1 := KeptW.cell n1
  have q2 := KeptW.cell n2
  clear n1 n2
  repeat first
    | ((with_reducible apply q_ld); rfl; (with_reducible assumption); (simp only [List.set_cons_zero, List.set_cons_succ]; rfl))
    | go_big_quiet_step (exact Calls.kept (ref11_Branch p _ _ hp h k d1 v _ (hT2.win.kept (Subtype.property _))))
  refine wpQuiet_nil ?_
  intro w3 B3
  have b63 := b62.kept B3
  have B30 : Below w.heap.size w w3 := bOn (B0.trans (B20.mono B0.size)) B3
  go_wp2_with ((with_reducible apply st); rfl; rfl; exact b63; rfl; rfl; exact nodeCells_flat _ _ _; intro w4 b64 B4)
  refine bodyPost_ret (results_cellAgg rfl rfl (b64.load (off := 0) (n := 3) (Nat.le_refl _) (Array.extract_eq_self_of_le (Nat.le_refl _)))) rfl ?_
  refine ⟨?_, B30.trans (B4.mono (by omega))⟩
  rw [HV.out]; rfl
end Go.Proofs.Ytkjnmjilkhigaaa
