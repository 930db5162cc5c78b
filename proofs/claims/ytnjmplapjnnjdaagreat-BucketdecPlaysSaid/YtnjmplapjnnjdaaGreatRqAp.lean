import Derived.Test.YtnjmplapjnnjdaaGreatSeRes
import Derived.Test.YtnjmplapjnnjdaaGreatFanoL
import Derived.Test.YtnjmplapjnnjdaaGreatLFloors
set_option linter.unusedSimpArgs false
set_option linter.unusedVariables false
set_option linter.unnecessarySimpa false
/- Fano's machine in memory, the document's: where its parts lie; the walks of its small functions. -/
namespace Go.Proofs.YtnjmplapjnnjdaaGreat
open Go.RowKit

structure DA where
  mb : Nat
  way : Nat
  cap : Nat
  tb : Nat
  g : Nat
  c : Nat
def DA.has (A : DA) (k : Nat) : Prop := k = A.mb ∨ k = A.way ∨ k = A.tb ∨ k = A.g
def DA.wr (A : DA) (k : Nat) : Prop := k = A.mb ∨ k = A.way
theorem DocIn.same {w w' : World} {p : Pb} {tb g c : Nat} (h : DocIn w p tb g c) (hk : ∀ k, k = tb ∨ k = g → w'.heap[k]? = w.heap[k]?) : DocIn w' p tb g c :=
  ⟨h.tree.imp fun _ h => (hk tb (.inl rfl)).trans h, h.win.block (hk g (.inr rfl))⟩
end Go.Proofs.YtnjmplapjnnjdaaGreat

/- Fano's machine, the document's: fall and look. -/
namespace Go.Proofs.YtnjmplapjnnjdaaGreat
open Go.RowKit

end Go.Proofs.YtnjmplapjnnjdaaGreat

/- Fano's machine, the document's: a look. -/
namespace Go.Proofs.YtnjmplapjnnjdaaGreat
open Go.RowKit

end Go.Proofs.YtnjmplapjnnjdaaGreat

/- Fano's machine, the document's: Node, Run, Path. -/
namespace Go.Proofs.YtnjmplapjnnjdaaGreat
open Go.RowKit

end Go.Proofs.YtnjmplapjnnjdaaGreat

/- The search of layer 17, the document's: how it lies in memory. No walk. -/
namespace Go.Proofs.YtnjmplapjnnjdaaGreat
open Go.RowKit
set_option linter.unusedSimpArgs false
set_option linter.unusedVariables false

/-! ### Rows of entries -/
def rqCell (x : Ent × Value) : List Value := [.int .u32 x.1.n.s, .int .i64 x.1.n.d, .int .i64 x.1.n.m, x.2]
def rqRow (es : List (Ent × Value)) : List Value := es.flatMap rqCell
theorem rqRow_len (es : List (Ent × Value)) : (rqRow es).length = es.length * 4 := by
  unfold rqRow
  induction es with
  | nil => rfl
  | cons x l ih => rw [List.flatMap_cons, List.length_append, ih, List.length_cons, Nat.add_mul]; show 4 + _ = _; omega
theorem rqRow_app (a b : List (Ent × Value)) : rqRow (a ++ b) = rqRow a ++ rqRow b := by unfold rqRow; exact List.flatMap_append
theorem rqRow_get : ∀ (es : List (Ent × Value)) (i j : Nat) (x : Ent × Value), j < 4 → es[i]? = some x → (rqRow es)[i * 4 + j]? = (rqCell x)[j]?
  | [], i, j, x, _, h => by simp at h
  | y :: l, 0, j, x, hj, h => by
    simp at h
    subst h
    unfold rqRow
    rw [List.flatMap_cons, List.getElem?_append_left (by show 0 * 4 + j < 4; omega)]
    congr 1; omega
  | y :: l, i + 1, j, x, hj, h => by
    have ih := rqRow_get l i j x hj (by simpa using h)
    unfold rqRow at ih ⊢
    rw [List.flatMap_cons, List.getElem?_append_right (by show 4 ≤ _; omega), ← ih]
    congr 1
    show (i + 1) * 4 + j - 4 = _
    omega
theorem rqRow_take (es : List (Ent × Value)) (k : Nat) (hk : k ≤ es.length) : (rqRow es).take (k * 4) = rqRow (es.take k) := by
  conv => lhs; rw [← List.take_append_drop k es]
  rw [rqRow_app]
  exact List.take_left' (by rw [rqRow_len, List.length_take, Nat.min_eq_left hk])
theorem rqRow_drop (es : List (Ent × Value)) (k : Nat) (hk : k ≤ es.length) : (rqRow es).drop (k * 4) = rqRow (es.drop k) := by
  conv => lhs; rw [← List.take_append_drop k es]
  rw [rqRow_app]
  exact List.drop_left' (by rw [rqRow_len, List.length_take, Nat.min_eq_left hk])
theorem rqCell_one {x : Ent × Value} (h : x.2.oneCell' = true) : ∀ u ∈ rqCell x, u.oneCell' = true := by
  intro u hu
  simp only [rqCell, List.mem_cons, List.not_mem_nil, or_false] at hu
  rcases hu with rfl | rfl | rfl | rfl
  · rfl
  · rfl
  · rfl
  · exact h

/-! ### The search -/
structure RA where
  sb : Nat
  lb : Nat
  cap : Nat
  tb : Nat
  g : Nat
  c : Nat
/-- The bits of a way, in a row of their own. -/
def BitsAt (w : World) (Ow : Nat → Prop) (v : Value) (bs : List Nat) : Prop := ∃ a c, v = .slice a bs.length c ∧ Bytes w a bs ∧ bs.length ≤ c ∧ ∀ b o s, a = some ⟨b, o, s⟩ → Ow b
theorem BitsAt.same {w w' : World} {Ow Ow' : Nat → Prop} {v : Value} {bs : List Nat} (h : BitsAt w Ow v bs) (hk : ∀ k, Ow k → k < w.heap.size → w'.heap[k]? = w.heap[k]?) (hO : ∀ k, Ow k → Ow' k) : BitsAt w' Ow' v bs := by
  obtain ⟨a, c, h1, h2, h3, h4⟩ := h
  refine ⟨a, c, h1, ⟨fun k hk' => ?_, h2.lt⟩, h3, fun b o s e => hO b (h4 b o s e)⟩
  obtain ⟨b, o, e, hc⟩ := h2.cell k hk'
  exact ⟨b, o, e, (World.cell?_of_block (hk b (h4 _ _ _ e) (lt_of_cell hc))).trans hc⟩
theorem BitsAt.one {w : World} {Ow : Nat → Prop} {v : Value} {bs : List Nat} (h : BitsAt w Ow v bs) : v.oneCell' = true := by
  obtain ⟨a, c, rfl, _⟩ := h
  rfl
def rqTail (D : Int) (most : Nat) (s : Bq) (n : Nat) (fv : Value) (A : RA) : Array Value :=
  #[.pointer (some ⟨A.tb, 0, none⟩), .int .i64 most, .int .i64 D, .slice (some ⟨A.lb, 0, none⟩) n A.cap, .int .i64 s.work, .int .i64 s.drops, .int .i64 s.gone, .bool s.some_, .bool s.found.isSome, .int .u32 (s.found.getD ent0).n.s, .int .i64 (s.found.getD ent0).n.d, .int .i64 (s.found.getD ent0).n.m, fv]
def rqCells (p : Pb) (D : Int) (most : Nat) (s : Bq) (n : Nat) (fv : Value) (A : RA) : Array Value := p.cells (.slice (some ⟨A.g, 0, none⟩) p.B.length A.c) ++ rqTail D most s n fv A
/-- What a search holds, but for the rows of bits. -/
def RA.has (A : RA) (k : Nat) : Prop := k = A.sb ∨ k = A.lb ∨ k = A.tb ∨ k = A.g
structure Rq (w : World) (p : Pb) (D : Int) (most : Nat) (s : Bq) (es : List (Ent × Value)) (fv : Value) (A : RA) (Ow : Nat → Prop) : Prop where
  box : Box w A.sb (rqCells p D most s es.length fv A)
  tree : DocIn w p A.tb A.g A.c
  list : w.ownsRow 0 77 4 (.slice (some ⟨A.lb, 0, none⟩) es.length A.cap) es.length (rqRow es)
  ents : es.map (·.1) = s.L
  bits : ∀ x ∈ es, BitsAt w Ow x.2 x.1.bs
  fnd : BitsAt w Ow fv (s.found.getD ent0).bs
  ne : A.sb ≠ A.lb ∧ (A.sb ≠ A.tb ∧ A.sb ≠ A.g) ∧ (A.lb ≠ A.tb ∧ A.lb ≠ A.g)
  ow : ∀ k, Ow k → (k ≠ A.sb ∧ k ≠ A.lb) ∧ k < w.heap.size
  glt : A.g < w.heap.size
section
variable {w w' : World} {p : Pb} {D : Int} {most : Nat} {s : Bq} {es : List (Ent × Value)} {fv : Value} {A : RA} {Ow : Nat → Prop}
theorem Rq.len (h : Rq w p D most s es fv A Ow) : es.length = s.L.length := by rw [← h.ents, List.length_map]
theorem Rq.hasLt (h : Rq w p D most s es fv A Ow) {k : Nat} (hk : A.has k) : k < w.heap.size := by
  rcases hk with rfl | rfl | rfl | rfl
  · exact h.box.lt
  · exact ownsN_lt h.list
  · exact h.tree.tree.lt
  · exact h.glt
theorem Rq.same (h : Rq w p D most s es fv A Ow) (hs : w.heap.size ≤ w'.heap.size) (hk : ∀ k, A.has k ∨ Ow k → w'.heap[k]? = w.heap[k]?) : Rq w' p D most s es fv A Ow :=
  ⟨h.box.imp fun _ h => (hk _ (.inl (.inl rfl))).trans h, h.tree.same fun k hk' => hk k (.inl (by unfold RA.has; rcases hk' with h | h <;> simp [h])),
    ownsN_block h.list fun k hk' => hk k (.inl (by rw [← Option.some.inj hk']; exact .inr (.inl rfl))), h.ents, fun x hx => (h.bits x hx).same (fun k hk' _ => hk k (.inr hk')) fun _ h => h,
    h.fnd.same (fun k hk' _ => hk k (.inr hk')) fun _ h => h, h.ne, fun k hk' => ⟨(h.ow k hk').1, Nat.lt_of_lt_of_le (h.ow k hk').2 hs⟩, Nat.lt_of_lt_of_le h.glt hs⟩
theorem Rq.kept (h : Rq w p D most s es fv A Ow) (hB : Below w.heap.size w w') : Rq w' p D most s es fv A Ow := h.same hB.size fun k hk => hB.block k (hk.elim h.hasLt fun hk => (h.ow k hk).2)
theorem Rq.turn {H : Nat → Prop} (h : Rq w p D most s es fv A Ow) (hT : Turn H w w') (ha : ∀ k, A.has k ∨ Ow k → ¬H k) : Rq w' p D most s es fv A Ow := h.same hT.size fun k hk => hT.block k (hk.elim h.hasLt fun hk => (h.ow k hk).2) (ha k hk)
theorem Rq.more {Ow' : Nat → Prop} (h : Rq w p D most s es fv A Ow) (h1 : ∀ k, Ow k → Ow' k) (h2 : ∀ k, Ow' k → (k ≠ A.sb ∧ k ≠ A.lb) ∧ k < w.heap.size) : Rq w p D most s es fv A Ow' :=
  ⟨h.box, h.tree, h.list, h.ents, fun x hx => (h.bits x hx).same (fun _ _ _ => rfl) h1, h.fnd.same (fun _ _ _ => rfl) h1, h.ne, h2, h.glt⟩
structure RqAt (w : World) (p : Pb) (D : Int) (most : Nat) (s : Bq) (n : Nat) (fv : Value) (A : RA) : Prop where
  c38 : w.cell? ⟨A.sb, 38, none⟩ = some (.int .i64 p.L)
  c40 : w.cell? ⟨A.sb, 40, none⟩ = some (.pointer (some ⟨A.tb, 0, none⟩))
  c41 : w.cell? ⟨A.sb, 41, none⟩ = some (.int .i64 most)
  c42 : w.cell? ⟨A.sb, 42, none⟩ = some (.int .i64 D)
  c43 : w.cell? ⟨A.sb, 43, none⟩ = some (.slice (some ⟨A.lb, 0, none⟩) n A.cap)
  c44 : w.cell? ⟨A.sb, 44, none⟩ = some (.int .i64 s.work)
  c45 : w.cell? ⟨A.sb, 45, none⟩ = some (.int .i64 s.drops)
  c46 : w.cell? ⟨A.sb, 46, none⟩ = some (.int .i64 s.gone)
  c47 : w.cell? ⟨A.sb, 47, none⟩ = some (.bool s.some_)
  c48 : w.cell? ⟨A.sb, 48, none⟩ = some (.bool s.found.isSome)
  c51 : w.cell? ⟨A.sb, 51, none⟩ = some (.int .i64 (s.found.getD ent0).n.m)
  c52 : w.cell? ⟨A.sb, 52, none⟩ = some fv
  fz : ∀ i, w.frozen? ⟨A.sb, i, none⟩ = false
  all : loadAgg w A.sb 0 40 = .ok (.agg (p.cells (.slice (some ⟨A.g, 0, none⟩) p.B.length A.c))) w
theorem rq_cell (hp : p.Ok) {n i : Nat} : (rqCells p D most s n fv A)[40 + i]? = (rqTail D most s n fv A)[i]? := by
  unfold rqCells
  rw [Array.getElem?_append_right (by rw [hp.size]; omega), hp.size, Nat.add_sub_cancel_left]
theorem Rq.at_ (hp : p.Ok) (h : Rq w p D most s es fv A Ow) : RqAt w p D most s es.length fv A := by
  have key : ∀ i, w.cell? ⟨A.sb, 40 + i, none⟩ = (rqTail D most s es.length fv A)[i]? := fun i => (h.box.cell _).trans (rq_cell hp)
  refine ⟨?_, (key 0).trans rfl, (key 1).trans rfl, (key 2).trans rfl, (key 3).trans rfl, (key 4).trans rfl, (key 5).trans rfl, (key 6).trans rfl, (key 7).trans rfl, (key 8).trans rfl, (key 11).trans rfl, (key 12).trans rfl, h.box.frozen, ?_⟩
  · rw [h.box.cell]
    unfold rqCells
    rw [Array.getElem?_append_left (by rw [hp.size]; omega)]
    exact hp.cell38 _
  · refine h.box.load (by unfold rqCells; rw [Array.size_append, hp.size]; omega) ?_
    unfold rqCells
    apply Array.ext'
    rw [Array.toList_extract, List.extract_eq_take_drop, Array.toList_append, List.drop_zero, Nat.zero_add, Nat.sub_zero]
    exact List.take_left' (by rw [Array.length_toList, hp.size])
theorem Rq.put_ (hp : p.Ok) (h : Rq w p D most s es fv A Ow) {s' : Bq} (j : Nat) (v : Value) (e : (rqTail D most s es.length fv A).setIfInBounds j v = rqTail D most s' es.length fv A) (hL : s'.L = s.L) (hf : s'.found = s.found) : Rq (w.setCell ⟨A.sb, 40 + j, none⟩ v) p D most s' es fv A Ow := by
  have hb := h.box.setCell (i := 40 + j) v
  have e2 : (rqCells p D most s es.length fv A).setIfInBounds (40 + j) v = rqCells p D most s' es.length fv A := by
    unfold rqCells
    rw [Array.setIfInBounds_append_right (by rw [hp.size]; omega), hp.size, Nat.add_sub_cancel_left, e]
  rw [e2] at hb
  obtain ⟨n1, n2, n3⟩ := h.ne
  have far : ∀ k, Ow k → k < w.heap.size → (w.setCell ⟨A.sb, 40 + j, none⟩ v).heap[k]? = w.heap[k]? := fun k hk _ => Below.heap_setCell _ _ _ _ (h.ow k hk).1.1
  exact ⟨hb, h.tree.setOther (q := ⟨A.sb, 40 + j, none⟩) n2 v, ownsN_block h.list fun k hk => Below.heap_setCell _ _ _ _ (by rw [← Option.some.inj hk]; exact Ne.symm n1), hL ▸ h.ents,
    fun x hx => (h.bits x hx).same far fun _ h => h, by rw [hf]; exact h.fnd.same far fun _ h => h, h.ne, fun k hk => ⟨(h.ow k hk).1, by simpa using (h.ow k hk).2⟩, by simpa using h.glt⟩
theorem Rq.work (hp : p.Ok) (h : Rq w p D most s es fv A Ow) (t : Int) : Rq (w.setCell ⟨A.sb, 44, none⟩ (.int .i64 t)) p D most { s with work := t } es fv A Ow := h.put_ hp 4 _ rfl rfl rfl
theorem Rq.drops (hp : p.Ok) (h : Rq w p D most s es fv A Ow) (t : Int) : Rq (w.setCell ⟨A.sb, 45, none⟩ (.int .i64 t)) p D most { s with drops := t } es fv A Ow := h.put_ hp 5 _ rfl rfl rfl
theorem Rq.gone (hp : p.Ok) (h : Rq w p D most s es fv A Ow) (t : Int) : Rq (w.setCell ⟨A.sb, 46, none⟩ (.int .i64 t)) p D most { s with gone := t } es fv A Ow := h.put_ hp 6 _ rfl rfl rfl
theorem Rq.some_ (hp : p.Ok) (h : Rq w p D most s es fv A Ow) (t : Bool) : Rq (w.setCell ⟨A.sb, 47, none⟩ (.bool t)) p D most { s with some_ := t } es fv A Ow := h.put_ hp 7 _ rfl rfl rfl
/-- An entry's cells. -/
theorem Rq.ent (h : Rq w p D most s es fv A Ow) {i : Nat} {x : Ent × Value} (hx : es[i]? = some x) :
    w.cell? ⟨A.lb, i * 4, none⟩ = some (.int .u32 x.1.n.s) ∧ w.cell? ⟨A.lb, i * 4 + 1, none⟩ = some (.int .i64 x.1.n.d) ∧ w.cell? ⟨A.lb, i * 4 + 2, none⟩ = some (.int .i64 x.1.n.m) ∧ w.cell? ⟨A.lb, i * 4 + 3, none⟩ = some x.2 ∧ loadAgg w A.lb (i * 4) 4 = .ok (.agg (rqCell x).toArray) w ∧ loadAgg w A.lb (i * 4) 3 = .ok (.agg x.1.n.cells) w := by
  have hi : i < es.length := (List.getElem?_eq_some_iff.1 hx).1
  have hl : (rqRow es).length = es.length * 4 := rqRow_len es
  have get : ∀ j, j < 4 → (rqRow es)[i * 4 + j]? = (rqCell x)[j]? := fun j hj => rqRow_get es i j x hj hx
  have ex : ((rqRow es).drop (i * 4)).take 4 = rqCell x := by
    apply List.ext_getElem?
    intro j
    rw [List.getElem?_take, List.getElem?_drop]
    split
    · exact get j (by assumption)
    · rw [List.getElem?_eq_none (by show 4 ≤ j; omega)]
  refine ⟨ownsN_cell h.list (get 0 (by decide)), ownsN_cell h.list (get 1 (by decide)), ownsN_cell h.list (get 2 (by decide)), ownsN_cell h.list (get 3 (by decide)), ?_, ?_⟩
  · rw [ownsN_load h.list (by omega), ex]
  · have e3 : ((rqRow es).drop (i * 4)).take 3 = (rqCell x).take 3 := by rw [← ex, List.take_take]; rfl
    rw [ownsN_load h.list (by omega), e3]
    rfl
/-- The row of the entries is another one. -/
theorem Rq.newList {es' : List (Ent × Value)} {s' : Bq} {g c : Nat} {w1 : World} (hp : p.Ok) (h : Rq w p D most s es fv A Ow) (hT : ∀ k, A.has k ∨ Ow k → k ≠ A.lb → w1.heap[k]? = w.heap[k]?) (hs : w.heap.size ≤ w1.heap.size)
    (hO : w1.ownsRow 0 77 4 (.slice (some ⟨g, 0, none⟩) es'.length c) es'.length (rqRow es')) (hg : g = A.lb ∨ w.heap.size ≤ g) (he : s' = { s with L := es'.map (·.1) }) (hb : ∀ x ∈ es', BitsAt w Ow x.2 x.1.bs) :
    Rq (w1.setCell ⟨A.sb, 43, none⟩ (.slice (some ⟨g, 0, none⟩) es'.length c)) p D most s' es' fv { A with lb := g, cap := c } Ow ∧ Box w1 A.sb (rqCells p D most s es.length fv A) := by
  obtain ⟨n1, n2, n3⟩ := h.ne
  have hlt := fun k (hk : A.has k) => h.hasLt hk
  have hne : ∀ k, A.has k → k ≠ A.lb → k ≠ g := fun k hk hn e => by
    have := hlt k hk
    rcases hg with h1 | h1
    · exact hn (e.trans h1)
    · omega
  have hm : Box w1 A.sb (rqCells p D most s es.length fv A) := h.box.imp fun _ e => (hT _ (.inl (.inl rfl)) n1).trans e
  have a1 : g ≠ A.sb := Ne.symm (hne _ (.inl rfl) n1)
  have hb' := hm.setCell (i := 43) (.slice (some ⟨g, 0, none⟩) es'.length c)
  have e2 : (rqCells p D most s es.length fv A).setIfInBounds 43 (.slice (some ⟨g, 0, none⟩) es'.length c) = rqCells p D most s' es'.length fv { A with lb := g, cap := c } := by
    unfold rqCells
    rw [show (43 : Nat) = 40 + 3 from rfl, Array.setIfInBounds_append_right (by rw [hp.size]; omega), hp.size, Nat.add_sub_cancel_left, he]
    rfl
  rw [e2] at hb'
  have hTr := h.tree.same (w' := w1) fun k hk => hT k (.inl (by unfold RA.has; rcases hk with h | h <;> simp [h])) (by rcases hk with rfl | rfl; exact Ne.symm n3.1; exact Ne.symm n3.2)
  have far : ∀ k, Ow k → k < w.heap.size → (w1.setCell ⟨A.sb, 43, none⟩ (.slice (some ⟨g, 0, none⟩) es'.length c)).heap[k]? = w.heap[k]? := fun k hk _ => (Below.heap_setCell _ _ _ _ (h.ow k hk).1.1).trans (hT k (.inr hk) (h.ow k hk).1.2)
  refine ⟨⟨hb', hTr.setOther (q := ⟨A.sb, 43, none⟩) n2 _, ownsN_block hO fun k hk => Below.heap_setCell _ _ _ _ (by rw [← Option.some.inj hk]; exact a1), by rw [he], fun x hx => (hb x hx).same far fun _ h => h, ?_, ⟨Ne.symm a1, n2, ?_⟩, fun k hk => ⟨⟨(h.ow k hk).1.1, ?_⟩, by have := (h.ow k hk).2; simp; omega⟩, by have := h.glt; simp; omega⟩, hm⟩
  · rw [he]
    exact h.fnd.same far fun _ h => h
  · exact ⟨Ne.symm (hne _ (by simp [RA.has]) (Ne.symm n3.1)), Ne.symm (hne _ (by simp [RA.has]) (Ne.symm n3.2))⟩
  · rcases hg with e | e
    · rw [e]; exact (h.ow k hk).1.2
    · have := (h.ow k hk).2
      show k ≠ g
      omega
end
end Go.Proofs.YtnjmplapjnnjdaaGreat

/- Appends of rows of structs, which may be empty. No program's text is named here. -/
namespace Go.Proofs.YtnjmplapjnnjdaaGreat
open Go.RowKit
set_option linter.unusedSimpArgs false
set_option linter.unusedVariables false

section
variable {P : Program}
theorem run_append_rows (w : World) (base : Nat) (t ty e : TypeId) (z : Value) (size bytes : Nat) [S : SlTy P t e] [E : ElTy P e z size bytes] (hsz : 0 < size)
    (g n cap : Nat) (xs : List Value) (hown : w.ownsRow base e size (.slice (some ⟨g, 0, none⟩) n cap) n xs)
    (a : Addr) (m c : Nat) (news : List Value) (hl : news.length = m * size) (hnews : ∀ j u, news[j]? = some u → w.cell? (a.add j) = some u) (h1 : ∀ u ∈ news, u.oneCell' = true)
    (h63 : n + m ≤ 9223372036854775807 / 65536) (hbytes : (n + m) * bytes ≤ 140737488355328) (hbase : base ≤ w.heap.size) :
    ∃ g' c' w', (Builtin.append_ #[t, t] ty #[.slice (some ⟨g, 0, none⟩) n cap, .slice (some a) m c]).run P w = .ok (.slice (some ⟨g', 0, none⟩) (n + m) c') w' ∧ w'.ownsRow base e size (.slice (some ⟨g', 0, none⟩) (n + m) c') (n + m) (xs ++ news) ∧
      ((g' = g ∧ w.grownBy w' (some g)) ∨ (g' = w.heap.size ∧ w.grownBy w' none)) := by
  obtain ⟨i, hi, hz0, hz1, hz2, hz3⟩ := E.out
  rcases Nat.eq_zero_or_pos m with rfl | hm
  · obtain rfl : news = [] := List.eq_nil_of_length_eq_zero (by simpa using hl)
    have hf := run_firstCells_some (P := P) w i.size 0 a 0 c [] (by simp) (by simp)
    refine ⟨g, cap, w, ?_, by simpa using hown, .inl ⟨rfl, ⟨rfl, rfl, rfl, Nat.le_refl _, fun _ _ _ => rfl⟩⟩⟩
    rcases hown.2 with ⟨h, _⟩ | ⟨g', cap', cur, hv, hbg, hg, hnc, hcm, hcs, htake⟩
    · cases h
    · obtain ⟨rfl, rfl⟩ : g = g' ∧ cap = cap' := by simpa using hv
      simp [Builtin.append_, run_underlying S.out, sizeOf, typeInfo, hi, Builtin.lenOf, hf, hnc, storeCells]
  · obtain ⟨v', w', hr, h2, h3⟩ := run_append_apart (P := P) w base t ty e i z size bytes S.out hi hz0 hz1 hz2 hz3 hsz _ n xs hown a m c hm news hl hnews h1 (by unfold maxLen; omega) hbytes hbase
    rcases h2.2 with ⟨_, h0⟩ | ⟨g', c', cur, rfl, _⟩
    · omega
    · refine ⟨g', c', w', hr, h2, ?_⟩
      rcases h3 with ⟨g1, c1, e1, e2, hg⟩ | ⟨e1, hg⟩
      · obtain ⟨rfl, rfl⟩ : g = g1 ∧ cap = c1 := by simpa using e1
        exact .inl ⟨by simpa [Value.ownBlock] using congrArg Value.ownBlock e2, hg⟩
      · exact .inr ⟨by simpa [Value.ownBlock] using e1, hg⟩
/-- THE ARM. -/
theorem apR {ops : Array Oper} {rest : List Oper} {l : List Value} {ds : List Deferred} {w : World} {Q : Exit → Act → World → Prop} {t e d n m c cap g size bytes base : Nat} {s x : Operand} {z : Value} {a : Addr} {xs us : List Value} {ty : TypeId} {ps : String} {af : Array Edge}
    [S : SlTy P t e] [E : ElTy P e z size bytes] (hs : (Act.mk l.toArray ds).eval s = .slice (some ⟨g, 0, none⟩) n cap) (hx : (Act.mk l.toArray ds).eval x = .slice (some a) m c) (hown : w.ownsRow base e size (.slice (some ⟨g, 0, none⟩) n cap) n xs) (hsz : 0 < size)
    (hl : us.length = m * size) (hnews : ∀ j u, us[j]? = some u → w.cell? (a.add j) = some u) (h1 : ∀ u ∈ us, u.oneCell' = true) (h63 : n + m ≤ 9223372036854775807 / 65536) (hbytes : (n + m) * bytes ≤ 140737488355328) (hbase : base ≤ w.heap.size)
    (h : ∀ g' c' w', w'.ownsRow base e size (.slice (some ⟨g', 0, none⟩) (n + m) c') (n + m) (xs ++ us) → ((g' = g ∧ w.grownBy w' (some g)) ∨ (g' = w.heap.size ∧ w.grownBy w' none)) → wpList P ops Q rest ⟨(l.set d (.slice (some ⟨g', 0, none⟩) (n + m) c')).toArray, ds⟩ w') :
    wpList P ops Q (⟨some d, .call { callee := .builtin .append, args := #[s, x], argTypes := #[t, t] }, ty, ps, af, none⟩ :: rest) ⟨l.toArray, ds⟩ w := by
  obtain ⟨g', c', w', hr, h2, h3⟩ := run_append_rows (P := P) w base t ty e z size bytes hsz g n cap xs hown a m c us hl hnews h1 h63 hbytes hbase
  refine wpList_plain rfl fun K hK => ?_
  unfold Oper.wp execOp
  simp only [resolve, invoke, builtin, Sem.run_bind, Sem.run_pure, Result.andThen_ok, List.map_toArray, List.map_cons, List.map_nil, hs, hx, hr]
  rw [Oper.upon_value, put_list]
  exact hK _ _ (h g' c' w' h2 h3)
theorem run_slLo {t e g o n cap j sz bytes : Nat} {k' : IntKind} [S : SlTy P t e] {z : Value} [T : ElTy P e z sz bytes] (h1 : j ≤ n) (h2 : n ≤ cap) :
    ∃ o', (∀ w, (Instr.sliceAt t (.slice (some ⟨g, o, none⟩) n cap) (some (.int k' (j : Int))) none none).run P w = .ok (.slice (some ⟨g, o', none⟩) (n - j) (cap - j)) w) ∧ (j < n → o' = o + j * sz) := by
  obtain ⟨i, hi, hz0, hz1, _⟩ := T.out
  have h3 : ¬ n < j := by omega
  have h4 : ¬ cap < n := by omega
  by_cases hc : cap = j
  · refine ⟨o, fun w => ?_, fun h => by omega⟩
    subst hc
    obtain rfl : n = cap := by omega
    simp [Instr.sliceAt, Instr.slice, Sem.run_bind, run_underlying S.out, Instr.sliceBounds, Instr.sliceBound, asIntOf, Sem.run_pure, sizeOf, typeInfo, hi, hz1, Addr.add]
  · refine ⟨o + j * sz, fun w => ?_, fun h => rfl⟩
    have h5 : ¬ (cap - j = 0) := by omega
    simp [Instr.sliceAt, Instr.slice, Sem.run_bind, run_underlying S.out, Instr.sliceBounds, Instr.sliceBound, asIntOf, Sem.run_pure, sizeOf, typeInfo, hi, hz1, Addr.add, h3, h4, hc, h5, h1, h2]
/-- THE ARM for the head of a slice. -/
theorem w_slHiR {ops : Array Oper} {rest : List Oper} {l : List Value} {ds : List Deferred} {w : World} {Q : Exit → Act → World → Prop} {t e d g o n cap j sz bytes : Nat} {z : Value} {x hi : Operand} {k' : IntKind} {ty : TypeId} {ps : String} {af : Array Edge}
    [S : SlTy P t e] [T : ElTy P e z sz bytes] (hx : (Act.mk l.toArray ds).eval x = .slice (some ⟨g, o, none⟩) n cap) (hhi : (Act.mk l.toArray ds).eval hi = .int k' (j : Int)) (h2 : j ≤ cap)
    (h : wpList P ops Q rest ⟨(l.set d (.slice (some ⟨g, o, none⟩) j cap)).toArray, ds⟩ w) : wpList P ops Q (⟨some d, .slice t x none (some hi) none, ty, ps, af, none⟩ :: rest) ⟨l.toArray, ds⟩ w := by
  have hr : (Instr.sliceAt t (.slice (some ⟨g, o, none⟩) n cap) none (some (.int k' (j : Int))) none).run P w = .ok (.slice (some ⟨g, o, none⟩) j cap) w := by
    have hi1 : ¬ cap < j := by omega
    obtain ⟨i, hi, _⟩ := T.out
    simp [Instr.sliceAt, Instr.slice, Sem.run_bind, run_underlying S.out, Instr.sliceBounds, Instr.sliceBound, asIntOf, Sem.run_pure, hi1, sizeOf, typeInfo, hi, Addr.add, show j ≤ cap from h2]
  refine wpList_plain rfl fun K hK => ?_
  unfold Oper.wp execOp
  simp [hx, hhi, Sem.run_bind, hr]
  rw [Oper.upon_value, put_list]
  exact hK _ _ h
theorem pure_ldR {a : Act} {w : World} {d t n b off : Nat} {x : Operand} {v : Value} {ty : TypeId} {ps : String} {af : Array Edge} {gd : Option (Nat × Bool)} (hx : a.eval x = .pointer (some ⟨b, off, none⟩)) [T : AggTy P t n] (hl : loadAgg w b off n = .ok v w) :
    (execOp a.eval ⟨some d, .load t x, ty, ps, af, gd⟩).run P w = .ok (.value v) w := by
  obtain ⟨d, h1, h2, h3⟩ := T.out
  have := run_loadVar_agg (P := P) (w := w) (b := b) (off := off) h1 h2 h3 (by rw [hl]; rfl)
  unfold execOp
  simp only [hx, Instr.loadAt, Instr.sureAddr, Sem.run_bind, Sem.run_pure, Result.andThen_ok, this, hl]
set_option maxRecDepth 5000 in
theorem one_valR {ops : Array Oper} {o : Oper} {a : Act} {w w' : World} {v : Value} {K : Act → World → Prop} (hg : o.guard = none) (hr : (execOp a.eval o).run P w = .ok (.value v) w') (h : K (a.put o.dst v) w') : wpList P ops (fun e a w => e = .normal ∧ K a w) [o] a w := by
  refine wpList_plain hg fun K' hK => ?_
  unfold Oper.wp
  rw [hr]
  exact hK _ _ ⟨rfl, h⟩
theorem pure_buildR {a : Act} {w : World} {d : Nat} {t : TypeId} {parts : Array (Nat × Operand)} {cs : Array Value} {ty : TypeId} {ps : String} {af : Array Edge} {gd : Option (Nat × Bool)} (hr : (Instr.build t (parts.map fun (i, x) => (i, a.eval x))).run P w = .ok (.agg cs) w) :
    (execOp a.eval ⟨some d, .build t parts, ty, ps, af, gd⟩).run P w = .ok (.value (.agg cs)) w := by
  unfold execOp
  simp only [Sem.run_bind, hr, Result.andThen_ok, Sem.run_pure]
/-- THE ARM for the tail of a slice. -/
theorem w_slLo {ops : Array Oper} {rest : List Oper} {l : List Value} {ds : List Deferred} {w : World} {Q : Exit → Act → World → Prop} {t e d g o n cap j sz bytes : Nat} {z : Value} {x lo : Operand} {k' : IntKind} {ty : TypeId} {ps : String} {af : Array Edge}
    [S : SlTy P t e] [T : ElTy P e z sz bytes] (hx : (Act.mk l.toArray ds).eval x = .slice (some ⟨g, o, none⟩) n cap) (hlo : (Act.mk l.toArray ds).eval lo = .int k' (j : Int)) (h1 : j ≤ n) (h2 : n ≤ cap)
    (h : ∀ o', (j < n → o' = o + j * sz) → wpList P ops Q rest ⟨(l.set d (.slice (some ⟨g, o', none⟩) (n - j) (cap - j))).toArray, ds⟩ w) : wpList P ops Q (⟨some d, .slice t x (some lo) none none, ty, ps, af, none⟩ :: rest) ⟨l.toArray, ds⟩ w := by
  obtain ⟨o', hr, ho⟩ := run_slLo (P := P) (t := t) (e := e) (g := g) (o := o) (n := n) (cap := cap) (j := j) (sz := sz) (bytes := bytes) (k' := k') (z := z) h1 h2
  refine wpList_plain rfl fun K hK => ?_
  unfold Oper.wp execOp
  simp [hx, hlo, Sem.run_bind, hr w]
  rw [Oper.upon_value, put_list]
  exact hK _ _ (h o' ho)
end
theorem apR_below {B g g' : Nat} {w w' : World} (hB : B ≤ w.heap.size) (hg : B ≤ g) (h : (g' = g ∧ w.grownBy w' (some g)) ∨ (g' = w.heap.size ∧ w.grownBy w' none)) : B ≤ g' ∧ Below B w w' := by
  rcases h with ⟨rfl, h⟩ | ⟨rfl, h⟩
  · exact ⟨hg, Below.grown (v := .slice (some ⟨g', 0, none⟩) 0 0) h hB fun k hk => by rw [← Option.some.inj hk]; exact hg⟩
  · exact ⟨hB, Below.grown (v := .slice none 0 0) h hB fun k hk => by cases hk⟩
end Go.Proofs.YtnjmplapjnnjdaaGreat
