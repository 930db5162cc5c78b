import Derived.Test.YtnjmplapjnnjdaaGreatSr
set_option linter.unusedSimpArgs false
set_option linter.unusedVariables false
set_option linter.unnecessarySimpa false
/- The search of layer 17: good, gone. -/
namespace Go.Proofs.YtnjmplapjnnjdaaGreat
open Go.RowKit

theorem owns_some' {w : World} {B e sz n : Nat} {v : Value} {xs : List Value} (h : w.ownsRow B e sz v n xs) (hn : 0 < n) : ∃ g cap, v = .slice (some ⟨g, 0, none⟩) n cap := by
  rcases h.2 with ⟨_, h0⟩ | ⟨g, cap, cur, hv, _⟩
  · omega
  · exact ⟨g, cap, hv⟩
structure SrAt (w : World) (p : Pb) (b : Bk) (m : Sr) (A : SA) : Prop where
  c0 : w.cell? ⟨A.sb, 0, none⟩ = some (.int .i64 p.L)
  c1 : w.cell? ⟨A.sb, 1, none⟩ = some (.int .i64 b.D)
  c2 : w.cell? ⟨A.sb, 2, none⟩ = some (.pointer (some ⟨A.tb, 0, none⟩))
  c3 : w.cell? ⟨A.sb, 3, none⟩ = some (.pointer (some ⟨A.bb, 0, none⟩))
  c4 : w.cell? ⟨A.sb, 4, none⟩ = some A.va
  c5 : w.cell? ⟨A.sb, 5, none⟩ = some A.vf
  c6 : w.cell? ⟨A.sb, 6, none⟩ = some (ptrV m.fnd)
  c7 : w.cell? ⟨A.sb, 7, none⟩ = some (.int .i64 m.work)
  c8 : w.cell? ⟨A.sb, 8, none⟩ = some (.int .i64 m.drops)
theorem SrIn.cells {w : World} {p : Pb} {b : Bk} {m : Sr} {A : SA} (h : SrIn w p b m A) : SrAt w p b m A :=
  ⟨h.box.box.cell 0, h.box.box.cell 1, h.box.box.cell 2, h.box.box.cell 3, h.box.box.cell 4, h.box.box.cell 5, h.box.box.cell 6, h.box.box.cell 7, h.box.box.cell 8⟩
set_option maxRecDepth 5000 in
theorem sr_good {p : Pb} {b : Bk} {m : Sr} {A : SA} (w : World) (h : SrIn w p b m A) : Pure Tryz.prog 46 #[.pointer (some ⟨A.sb, 0, none⟩)] w (.bool true) := by
  have c3 := h.cells.c3
  go_enter Tryz.func46, Tryz.ntmps46
  go_wp2
  go_ret
  exact ⟨rfl, Below.refl _ _⟩
theorem World.ownsRow.own_ne {w : World} {B e sz n : Nat} {v : Value} {xs : List Value} (h : w.ownsRow B e sz v n xs) {g : Nat} {cs : Array Value} {t : TypeId} (h' : BoxT w g cs t) (ht : t ≠ e) : v.ownBlock ≠ some g := fun ev => by
  rcases h.2 with ⟨rfl, _⟩ | ⟨g', cap, cur, rfl, hb, hg, _⟩
  · cases ev
  · obtain rfl : g' = g := by simpa [Value.ownBlock] using ev
    exact BoxT.ne h' (show BoxT w g' cur e from hg) ht rfl
/-- A cell of the struct is written. -/
theorem SrIn.put {w : World} {p : Pb} {b : Bk} {m m' : Sr} {A : SA} (h : SrIn w p b m A) (j : Nat) (v : Value) (e : (srCells p b m A).setIfInBounds j v = srCells p b m' A) (e1 : m'.ats = m.ats) (e2 : m'.frees = m.frees) : SrIn (w.setCell ⟨A.sb, j, none⟩ v) p b m' A := by
  have hb := h.box.set j v
  rw [e] at hb
  have ho := h.old
  have hs := h.low.2.1
  exact ⟨hb, by rw [e1]; exact ownsN_block h.at_ fun k hk => Below.heap_setCell _ _ _ _ (fun ek => (World.ownsRow.own_ne h.at_ h.box (by decide)) (hk.trans (by rw [ek]))), by rw [e2]; exact h.free.block fun k hk => Below.heap_setCell _ _ _ _ (h.free.ne hk h.box (by decide)),
    h.bk.same fun k hk _ => Below.heap_setCell _ _ _ _ (fun ek => h.sepS (by have ek' : k = A.sb := ek; rw [← ek']; exact hk)), h.tree.setOther (q := ⟨A.sb, j, none⟩) ⟨by show A.sb ≠ _; omega, by show A.sb ≠ _; omega, by show A.sb ≠ _; omega, by show A.sb ≠ _; omega⟩ v, h.sepS, h.sepA, h.sepF, ⟨fun k hk => ⟨(h.low.1 k hk).1, by simpa using (h.low.1 k hk).2⟩, h.low.2⟩, h.old⟩
theorem SrIn.setAt {w : World} {p : Pb} {b : Bk} {m : Sr} {A : SA} {ga ca : Nat} (h : SrIn w p b m A) (hva : A.va = .slice (some ⟨ga, 0, none⟩) m.ats.length ca) (id : Nat) (y : Option Nat) : SrIn (w.setCell ⟨ga, id, none⟩ (ptrV y)) p b { m with ats := m.ats.set id y } A := by
  have hro := h.at_
  rw [hva] at hro
  have hne : A.sb ≠ ga := fun e => World.ownsRow.own_ne hro h.box (by decide) (by rw [e]; rfl)
  have hga : A.va.ownBlock = some ga := by rw [hva]; rfl
  have ho := h.old
  have hs := h.low.2.2.1 ga hga
  have hset := ownsN_set hro id (ptrV y)
  refine ⟨h.box.same (Below.heap_setCell _ _ _ _ hne), ?_, h.free.block fun k hk => Below.heap_setCell _ _ _ _ (fun ek => ?_), h.bk.same fun k hk _ => Below.heap_setCell _ _ _ _ (fun ek => h.sepA ga hga (by have ek' : k = ga := ek; rw [← ek']; exact hk)),
    h.tree.setOther (q := ⟨ga, id, none⟩) ⟨by show ga ≠ _; omega, by show ga ≠ _; omega, by show ga ≠ _; omega, by show ga ≠ _; omega⟩ _, h.sepS, h.sepA, h.sepF, ⟨fun k hk => ⟨(h.low.1 k hk).1, by simpa using (h.low.1 k hk).2⟩, h.low.2⟩, h.old⟩
  · rw [hva]
    show World.ownsRow _ _ _ _ _ (m.ats.set id y).length ((m.ats.set id y).map ptrV)
    rw [List.length_set, List.map_set]
    exact hset
  · have ek' : k = ga := ek
    subst ek'
    rcases hro.2 with ⟨hh, _⟩ | ⟨g', cap, cur, hv, hb, hg, _⟩
    · cases hh
    · obtain ⟨rfl, _⟩ : k = g' ∧ ca = cap := by simpa using hv
      exact h.free.ne hk (show BoxT w k cur 61 from hg) (by decide) rfl
theorem TreeIn.same' {w w' : World} {p : Pb} {tb pb rb g c : Nat} (h : TreeIn w p tb pb rb g c) (hk : ∀ k, k = tb ∨ k = pb ∨ k = rb ∨ k = g → w'.heap[k]? = w.heap[k]?) : TreeIn w' p tb pb rb g c :=
  ⟨h.tree.imp fun _ h => (hk tb (.inl rfl)).trans h, h.prob.imp fun _ h => (hk pb (.inr (.inl rfl))).trans h, h.rate.imp fun _ h => (hk rb (.inr (.inr (.inl rfl)))).trans h, h.win.block (hk g (.inr (.inr (.inr rfl)))), h.cap⟩
/-- The row of free numbers is another one. -/
theorem SrIn.newF {w w1 : World} {p : Pb} {b : Bk} {m : Sr} {A : SA} (h : SrIn w p b m A) {v' : Value} {fr : List Nat} (r1 : RowO w1 v' (fr.map fun (x : Nat) => (x : Int))) (hkeep : ∀ g, g < w.heap.size → A.vf.ownBlock ≠ some g → w1.heap[g]? = w.heap[g]?) (hsz : w.heap.size ≤ w1.heap.size)
    (hnew : v'.ownBlock = A.vf.ownBlock ∨ ∃ g, v'.ownBlock = some g ∧ w.heap.size ≤ g) : SrIn (w1.setCell ⟨A.sb, 5, none⟩ v') p b { m with frees := fr } { A with vf := v' } := by
  have ho := h.old
  have hs := h.low.2.1
  have hsl := h.lt (k := A.sb) (.inl rfl)
  have hf : ∀ k, k < A.B0 → A.vf.ownBlock ≠ some k := fun k hk e => by have := h.low.2.2.2 k e; omega
  have b1 : BoxT w1 A.sb (srCells p b m A) 63 := h.box.same (hkeep _ hsl (h.free.own_ne h.box (by decide)))
  have hav : ∀ k, A.va.ownBlock = some k → A.vf.ownBlock ≠ some k := fun k hk e => by
    rcases h.at_.2 with ⟨hh, _⟩ | ⟨g', cap, cur, hv, hb, hg, _⟩
    · rw [hh] at hk; cases hk
    · have : g' = k := by rw [hv] at hk; simpa [Value.ownBlock] using hk
      subst this
      exact h.free.ne e (show BoxT w g' cur 61 from hg) (by decide) rfl
  have hnv : ∀ k, v'.ownBlock = some k → ¬A.OB k ∧ A.B0 ≤ k := fun k hk => by
    rcases hnew with e | ⟨g, e, hg⟩
    · exact ⟨h.sepF k (e ▸ hk), h.low.2.2.2 k (e ▸ hk)⟩
    · rw [hk] at e
      obtain rfl := Option.some.inj e
      exact ⟨fun ho => by have := (h.low.1 k ho).2; omega, by omega⟩
  have tk : ∀ k, k < A.B0 → (w1.setCell ⟨A.sb, 5, none⟩ v').heap[k]? = w.heap[k]? := fun k hk => (Below.heap_setCell _ _ _ _ (by show k ≠ A.sb; omega)).trans (hkeep k (by omega) (hf k hk))
  refine ⟨(b1.set 5 v'), ownsN_block h.at_ fun k hk => (Below.heap_setCell _ _ _ _ (fun ek => World.ownsRow.own_ne h.at_ h.box (by decide) (hk.trans (by rw [ek])))).trans (hkeep k (World.ownsRow.lt h.at_ k hk).2 (hav k hk)),
    r1.block fun k hk => Below.heap_setCell _ _ _ _ (r1.ne hk b1 (by decide)), h.bk.same fun k hk hkl => (Below.heap_setCell _ _ _ _ (fun ek => h.sepS (by have ek' : k = A.sb := ek; rw [← ek']; exact hk))).trans (hkeep k hkl (fun e => h.sepF k e hk)),
    h.tree.same' fun k hk => tk k (by rcases hk with h | h | h | h <;> rw [h] <;> omega), h.sepS, h.sepA, fun k hk => (hnv k hk).1, ⟨fun k hk => ⟨(h.low.1 k hk).1, by have := (h.low.1 k hk).2; simp [World.setCell]; omega⟩, hs, h.low.2.2.1, fun k hk => (hnv k hk).2⟩, ho⟩
theorem grown_keep {w0 w w' : World} {v v' : Value} (B : Below w0.heap.size w0 w) (hr : (∃ g, v.ownBlock = some g ∧ v'.ownBlock = some g ∧ w.grownBy w' (some g)) ∨ (v'.ownBlock = some w.heap.size ∧ w.grownBy w' none)) :
    (∀ g, g < w0.heap.size → v.ownBlock ≠ some g → w'.heap[g]? = w0.heap[g]?) ∧ w0.heap.size ≤ w'.heap.size ∧ (v'.ownBlock = v.ownBlock ∨ ∃ g, v'.ownBlock = some g ∧ w0.heap.size ≤ g) ∧ Turn (fun k => v.ownBlock = some k) w0 w' := by
  rcases hr with ⟨g', a1, a2, a3⟩ | ⟨a1, a3⟩
  · exact ⟨fun g hg hne => (a3.block g (Nat.lt_of_lt_of_le hg B.size) (fun e => hne (by rw [a1, ← e]))).trans (B.block g hg), Nat.le_trans B.size a3.size, .inl (a2.trans a1.symm), (Turn.ofBelow B).trans ((Turn.grown a3).mono fun k _ hk => by rw [a1]; exact hk.symm)⟩
  · exact ⟨fun g hg hne => (a3.block g (Nat.lt_of_lt_of_le hg B.size) (fun e => by cases e)).trans (B.block g hg), Nat.le_trans B.size a3.size, .inr ⟨_, a1, B.size⟩, (Turn.ofBelow B).trans ((Turn.grown a3).mono fun k _ hk => by cases hk)⟩
/-- What a call of the search leaves behind: the same places, but for rows that moved into new memory. -/
def SrNext (A A' : SA) (w w' : World) : Prop := (A'.sb = A.sb ∧ A'.bb = A.bb ∧ A'.tb = A.tb ∧ A'.pb = A.pb ∧ A'.rb = A.rb ∧ A'.g = A.g ∧ A'.c = A.c ∧ A'.B0 = A.B0) ∧ (∀ k, A'.own k → A.own k ∨ (w.heap.size ≤ k ∧ k < w'.heap.size)) ∧ Turn A.own w w'
theorem hkeep_of {w w' : World} {p : Pb} {b : Bk} {m : Sr} {A : SA} (hk : ∀ g, g < w.heap.size → A.vf.ownBlock ≠ some g → w'.heap[g]? = w.heap[g]?) (h : SrIn w p b m A) : w'.heap[A.sb]? = w.heap[A.sb]? := hk _ (h.lt (.inl rfl)) (h.free.own_ne h.box (by decide))
def SrGonePost (p : Pb) (b : Bk) (m : Sr) (A : SA) (id : Nat) (x : Option Nat) (w : World) (e : Ending) (w' : World) : Prop :=
  ∃ A', e = .returned (ptrV x) ∧ SrIn w' p b { m with ats := m.ats.set id none, frees := m.frees ++ [id] } A' ∧ SrNext A A' w w' ∧ A'.OB = A.OB
set_option maxRecDepth 5000 in
set_option maxHeartbeats 1000000 in
theorem sr_gone {p : Pb} {b : Bk} {m : Sr} {A : SA} {id : Nat} {x : Option Nat} (hid : m.ats[id]? = some x) (hal : m.ats.length ≤ 1000000) (hfl : m.frees.length ≤ 1000000) (w : World) (h : SrIn w p b m A) :
    Calls Tryz.prog 42 #[.pointer (some ⟨A.sb, 0, none⟩), .int .i64 id] w (SrGonePost p b m A id x w) := by
  have hlt : id < m.ats.length := by
    rcases Nat.lt_or_ge id m.ats.length with h | h
    · exact h
    · rw [List.getElem?_eq_none h] at hid; cases hid
  obtain ⟨ga, ca, hva⟩ := owns_some' h.at_ (by omega)
  have hro := h.at_
  rw [hva] at hro
  have hgx := ownsN_cell hro (j := id) (u := ptrV x) (by rw [List.getElem?_map, hid]; rfl)
  have hgz := hro.frozenAt id
  have c4 := h.cells.c4
  rw [hva] at c4
  have hne : A.sb ≠ ga := fun e => World.ownsRow.own_ne hro h.box (by decide) (by rw [e]; rfl)
  have hl1 : (id : Int) < (m.ats.length : Int) := by omega
  go_enter Tryz.func42, Tryz.ntmps42
  go_upto_region 2 with fail
  have hS := h.setAt hva id none
  have T1 : Turn A.own w (w.setCell ⟨ga, id, none⟩ (ptrV none)) := Turn.setCell _ _ _ (.inr (.inl (by rw [hva]; rfl)))
  clear hgx
  have hgx : ∃ u, w.cell? ⟨ga, id, none⟩ = some u := ⟨_, ownsN_cell hro (j := id) (u := ptrV x) (by rw [List.getElem?_map, hid]; rfl)⟩
  obtain ⟨u, hgu⟩ := hgx
  go_upto_region 3 with fail
  have hpn : ptrV none = Value.pointer none := rfl
  rw [hpn] at hS T1
  obtain ⟨w1, hw1⟩ : ∃ W, W = w.setCell ⟨ga, id, none⟩ (Value.pointer none) := ⟨_, rfl⟩
  rw [← hw1] at hS T1 ⊢
  have hsz1 : w1.heap.size = w.heap.size := by rw [hw1]; simp [World.setCell]
  have HSZ := Lib.hid hsz1
  have c5 := hS.cells.c5
  have f5 := hS.box.box.frozen 5
  have hfr := hS.free
  have BA : Below w1.heap.size w1 (w1.alloc (.cells #[.int .i64 (id : Int)] 3)) := (Below.refl _ _).alloc (Nat.le_refl _) _
  have hfr2 := hfr.block (w' := w1.alloc (.cells #[.int .i64 (id : Int)] 3)) fun k hk => BA.block k (hfr.lt hk)
  have hbx : (w1.alloc (.cells #[.int .i64 (id : Int)] 3)).cell? ⟨w1.heap.size, 0, none⟩ = some (.int .i64 (id : Int)) := (Box.new w1 #[.int .i64 (id : Int)] 3).cell 0
  have hfl2 : (m.frees.map fun (x : Nat) => (x : Int)).length ≤ 1000000 := by simpa using hfl
  clear hw1 hsz1 hgu hgz hpn hl1
  go_upto_region 4 with (at_builtin; refine apO hfr2 rfl rfl hbx hfl2 ?_; intro v' w2 r1 r2 r3; obtain ⟨gv, ov, cv, rfl⟩ := r2; obtain ⟨k1, k2, k3, k4⟩ := grown_keep BA r3; have b2 := hS.box.same (hkeep_of k1 hS); have hx5 : w2.cell? ⟨A.sb, 5, none⟩ = some A.vf := b2.box.cell 5; have hz5 : w2.frozen? ⟨A.sb, 5, none⟩ = false := b2.box.frozen 5)
  have hN := hS.newF (w1 := w2) (v' := .slice (some ⟨gv, ov, none⟩) ((m.frees.map fun (x : Nat) => (x : Int)).length + 1) cv) (fr := m.frees ++ [id]) (by rw [List.map_append]; exact r1) k1 k2 k3
  have T2 := (T1.trans (k4.mono fun k _ hk => .inr (.inr (.inl hk)))).trans (Turn.setCell w2 ⟨A.sb, 5, none⟩ (.slice (some ⟨gv, ov, none⟩) ((m.frees.map fun (x : Nat) => (x : Int)).length + 1) cv) (H := A.own) (.inl rfl))
  rw [List.length_map] at hN T2
  have K2 := Lib.hid k2
  have K3 := Lib.hid k3
  clear k2 k3 k4 b2 hx5 hz5
  go_wp2
  go_ret
  refine (show SrGonePost p b m A id x w _ _ from ⟨{ A with vf := .slice (some ⟨gv, ov, none⟩) (m.frees.length + 1) cv }, rfl, hN, ⟨⟨rfl, rfl, rfl, rfl, rfl, rfl, rfl, rfl⟩, fun k hk => ?_, T2⟩, rfl⟩)
  have hlt2 := hN.lt hk
  rcases hk with h | h | h | h
  · exact .inl (.inl h)
  · exact .inl (.inr (.inl h))
  · rcases K3.out with e | ⟨g, e, hg⟩
    · exact .inl (.inr (.inr (.inl (e ▸ h))))
    · have h' : some gv = some k := h
      have e' : some gv = some g := e
      obtain rfl : k = g := Option.some.inj (h'.symm.trans e')
      exact .inr ⟨by have := HSZ.out; omega, hlt2⟩
  · exact .inl (.inr (.inr (.inr h)))
end Go.Proofs.YtnjmplapjnnjdaaGreat

/- The search of layer 17: put. -/
namespace Go.Proofs.YtnjmplapjnnjdaaGreat
open Go.RowKit

/-- The buckets are others. -/
theorem SrIn.newB {w w' : World} {p : Pb} {b b' : Bk} {m : Sr} {A : SA} (h : SrIn w p b m A) {low top : Nat} {vs : List Value} {OB' : Nat → Prop} (hB : BkIn w' b' A.bb A.gr low top vs OB') (hO : ∀ k, OB' k → A.OB k ∨ (w.heap.size ≤ k ∧ k < w'.heap.size)) (T : Turn A.OB w w') (hD : b'.D = b.D) :
    SrIn w' p b' m { A with low := low, top := top, vs := vs, OB := OB' } := by
  have ho := h.old
  have hs := h.low.2.1
  have hsl := h.lt (k := A.sb) (.inl rfl)
  have hcells : srCells p b' m { A with low := low, top := top, vs := vs, OB := OB' } = srCells p b m A := by unfold srCells; rw [hD]
  have hnot : ∀ k, ¬A.OB k → k < w.heap.size → ¬OB' k := fun k hk hl ho => by
    rcases hO k ho with h | h
    · exact hk h
    · omega
  have tb : ∀ k, k < A.B0 → w'.heap[k]? = w.heap[k]? := fun k hk => T.block k (by omega) (fun ho => by have := (h.low.1 k ho).1; omega)
  refine ⟨by rw [hcells]; exact h.box.same (T.block _ hsl h.sepS), ownsN_block h.at_ fun k hk => T.block k (World.ownsRow.lt h.at_ k hk).2 (h.sepA k hk), h.free.block fun k hk => T.block k (h.free.lt hk) (h.sepF k hk), hB,
    h.tree.same' fun k hk => tb k (by rcases hk with h | h | h | h <;> rw [h] <;> omega), hnot _ h.sepS hsl, fun k hk => hnot k (h.sepA k hk) (World.ownsRow.lt h.at_ k hk).2, fun k hk => hnot k (h.sepF k hk) (h.free.lt hk), ⟨fun k hk => ?_, hs, h.low.2.2.1, h.low.2.2.2⟩, ho⟩
  show A.B0 ≤ k ∧ k < w'.heap.size
  rcases hO k hk with h1 | h1
  · have := h.low.1 k h1
    have := T.size
    omega
  · have h2 := h.low.2
    omega
/-- The row of ways is another one. -/
theorem SrIn.newA {w w1 : World} {p : Pb} {b : Bk} {m : Sr} {A : SA} (h : SrIn w p b m A) {v' : Value} {xs : List (Option Nat)} (r1 : w1.ownsRow 0 61 1 v' xs.length (xs.map ptrV)) (hkeep : ∀ g, g < w.heap.size → A.va.ownBlock ≠ some g → w1.heap[g]? = w.heap[g]?) (hsz : w.heap.size ≤ w1.heap.size)
    (hnew : v'.ownBlock = A.va.ownBlock ∨ ∃ g, v'.ownBlock = some g ∧ w.heap.size ≤ g) : SrIn (w1.setCell ⟨A.sb, 4, none⟩ v') p b { m with ats := xs } { A with va := v' } := by
  have ho := h.old
  have hs := h.low.2.1
  have hsl := h.lt (k := A.sb) (.inl rfl)
  have hf : ∀ k, k < A.B0 → A.va.ownBlock ≠ some k := fun k hk e => by have := h.low.2.2.1 k e; omega
  have b1 : BoxT w1 A.sb (srCells p b m A) 63 := h.box.same (hkeep _ hsl (World.ownsRow.own_ne h.at_ h.box (by decide)))
  have hav : ∀ k, A.vf.ownBlock = some k → A.va.ownBlock ≠ some k := fun k hk e => by
    rcases h.at_.2 with ⟨hh, _⟩ | ⟨g', cap, cur, hv, hb, hg, _⟩
    · rw [hh] at e; cases e
    · have : g' = k := by rw [hv] at e; simpa [Value.ownBlock] using e
      subst this
      exact h.free.ne hk (show BoxT w g' cur 61 from hg) (by decide) rfl
  have hnv : ∀ k, v'.ownBlock = some k → ¬A.OB k ∧ A.B0 ≤ k := fun k hk => by
    rcases hnew with e | ⟨g, e, hg⟩
    · exact ⟨h.sepA k (e ▸ hk), h.low.2.2.1 k (e ▸ hk)⟩
    · rw [hk] at e
      obtain rfl := Option.some.inj e
      exact ⟨fun ho => by have := (h.low.1 k ho).2; omega, by omega⟩
  have tk : ∀ k, k < A.B0 → (w1.setCell ⟨A.sb, 4, none⟩ v').heap[k]? = w.heap[k]? := fun k hk => (Below.heap_setCell _ _ _ _ (by show k ≠ A.sb; omega)).trans (hkeep k (by omega) (hf k hk))
  refine ⟨(b1.set 4 v'), ownsN_block r1 fun k hk => Below.heap_setCell _ _ _ _ (fun ek => World.ownsRow.own_ne r1 b1 (by decide) (hk.trans (by rw [ek]))),
    h.free.block fun k hk => (Below.heap_setCell _ _ _ _ (h.free.ne hk h.box (by decide))).trans (hkeep k (h.free.lt hk) (hav k hk)), h.bk.same fun k hk hkl => (Below.heap_setCell _ _ _ _ (fun ek => h.sepS (by have ek' : k = A.sb := ek; rw [← ek']; exact hk))).trans (hkeep k hkl (fun e => h.sepA k e hk)),
    h.tree.same' fun k hk => tk k (by rcases hk with h | h | h | h <;> rw [h] <;> omega), h.sepS, fun k hk => (hnv k hk).1, h.sepF, ⟨fun k hk => ⟨(h.low.1 k hk).1, by have := (h.low.1 k hk).2; simp [World.setCell]; omega⟩, hs, fun k hk => (hnv k hk).2, h.low.2.2.2⟩, ho⟩
theorem SrNext.trans {A B C : SA} {w w1 w2 : World} (h1 : SrNext A B w w1) (h2 : SrNext B C w1 w2) : SrNext A C w w2 := by
  obtain ⟨⟨a1, a2, a3, a4, a5, a6, a7, a8⟩, o1, T1⟩ := h1
  obtain ⟨⟨b1, b2, b3, b4, b5, b6, b7, b8⟩, o2, T2⟩ := h2
  refine ⟨⟨b1.trans a1, b2.trans a2, b3.trans a3, b4.trans a4, b5.trans a5, b6.trans a6, b7.trans a7, b8.trans a8⟩, fun k hk => ?_, ?_⟩
  · rcases o2 k hk with h | h
    · rcases o1 k h with h | h
      · exact .inl h
      · exact .inr ⟨h.1, Nat.lt_of_lt_of_le h.2 T2.size⟩
    · exact .inr ⟨Nat.le_trans T1.size h.1, h.2⟩
  · have t1 : Turn (fun k => A.own k ∨ w.heap.size ≤ k) w w1 := T1.mono fun k _ hk => .inl hk
    have t2 : Turn (fun k => A.own k ∨ w.heap.size ≤ k) w1 w2 := T2.mono fun k _ hk => (o1 k hk).imp_right fun h => h.1
    exact (t1.trans t2).mono fun k hl hk => hk.resolve_right (by omega)
def SrPutPost (p : Pb) (b : Bk) (m m1 : Sr) (id : Nat) (mt : Int) (A : SA) (w : World) (e : Ending) (w' : World) : Prop :=
  ∃ A', e = .returned (.tuple #[]) ∧ SrNext A A' w w' ∧ if (b.more id mt).I.length ≤ b.cap then SrIn w' p (b.more id mt) m1 A'
    else ∃ x, (b.more id mt).I[(b.more id mt).lowIx]? = some x ∧ SrIn w' p (b.more id mt).drop { m1 with drops := wrap64 (m1.drops + 1), ats := m1.ats.set x.1 none, frees := m1.frees ++ [x.1] } A'
set_option maxRecDepth 5000 in
set_option maxHeartbeats 1000000 in
theorem sr_put_old {p : Pb} {b : Bk} {m : Sr} {A : SA} {wb id : Nat} {mt : Int} {fr : List Nat} {cs : Array Value} (hb : b.Ok) (hl : b.I.length ≤ b.cap) (h1 : b.lo ≤ mt) (h2 : mt ≤ b.hi) (hal : m.ats.length ≤ 900000) (hfl : m.frees.length ≤ 900000) (hfe : m.frees = fr ++ [id]) (hfr : id < m.ats.length) (hids : ∀ x ∈ b.I, x.1 < m.ats.length) (w : World) (h : SrIn w p b m A) (hw : BoxT w wb cs 69) (hm : cs[4]? = some (.int .i64 mt)) (ho : ¬A.own wb) :
    Calls Tryz.prog 16 #[.pointer (some ⟨A.sb, 0, none⟩), .pointer (some ⟨wb, 0, none⟩)] w (SrPutPost p b m { m with ats := m.ats.set id (some wb), frees := fr } id mt A w) := by
  have hA := h.cells
  have c4 := hA.c4
  have c5 := hA.c5
  obtain ⟨ga, ca, hva⟩ := owns_some' h.at_ (by omega)
  obtain ⟨g, off, c, hvf, cx⟩ := h.free.at_ (i := fr.length) (x := (id : Int)) (by rw [hfe, List.map_append, List.getElem?_append_right (by simp)]; simp)
  rw [hva] at c4
  rw [hvf] at c5
  obtain ⟨k, hk⟩ : ∃ k, k = fr.length := ⟨_, rfl⟩
  have hfk : (m.frees.map fun (x : Nat) => (x : Int)).length = k + 1 := by rw [hfe, hk]; simp
  rw [hfk] at c5
  obtain ⟨n, hn⟩ : ∃ n, n = m.ats.length := ⟨_, rfl⟩
  rw [← hn] at c4
  have hkl : k ≤ 900000 := by rw [hfe] at hfl; simp at hfl; omega
  go_enter Tryz.func16, Tryz.ntmps16
  go_upto_region 3 with fail
  have hw1 : IntKind.i64.wrap (fr.length : Int) = (fr.length : Int) := IntWalk.i64_in _ (by omega)
  have hw2 : (fr.length : Int) < (fr.length : Int) + 1 := by omega
  have hcx : fr.length ≤ c := by
    rcases h.free with ⟨h0, _⟩ | ⟨g', off', cap, cur, hv', hg, h1', h2', h3'⟩
    · rw [h0] at hvf; cases hvf
    · rw [hvf] at hv'
      obtain ⟨_, rfl⟩ : _ ∧ c = cap := by simpa using hv'
      omega
  have CX := Lib.hid cx
  have hlt : g < w.heap.size := lt_of_cell cx
  clear cx c4 c5
  (refine wp_region_treeV (fun W => Below w.heap.size w W) 19 (.pure 0 (.pure 1 (.pure 2 (.pure 3 (.pure 4 (.pure 5 (.pure 6 (.pure 7 (.pure 8 (.pure 9 (.pure 10 (.pure 11 (.pure 12 (.pure 13 (.pure 14 (.pure 15 (.one 16 (.free 17 (.free 18 (.one 19 .nil)))))))))))))))))))) (by kernel_rfl) (by kernel_rfl) ?_; simp only [List.getD_cons_zero, List.getD_cons_succ, wpOVI])
  intro w3 B3
  have cW : ∀ W, Below w.heap.size w W → W.cell? ⟨A.sb, 5, none⟩ = some (.slice (some ⟨g, off, none⟩) (fr.length + 1) c) ∧ W.cell? ⟨g, off + fr.length, none⟩ = some (.int .i64 (id : Int)) := fun W hI => ⟨by rw [(h.kept hI).cells.c5, hvf, hfk, hk], KeptW.cell CX.out ⟨W, hI⟩⟩
  iterate 15
    refine ⟨fun _ => B3, _, fun W hI => by have c5 := (cW W hI).1; have cx := (cW W hI).2; go_simp; first | done | rfl, ?_⟩
    try simp only [put_list, List.set_cons_zero, List.set_cons_succ]
  refine ⟨fun _ => B3, .slice (some ⟨g, off, none⟩) fr.length c, fun W hI => pure_slHi rfl rfl hcx, ?_⟩
  try simp only [put_list, List.set_cons_zero, List.set_cons_succ]
  refine ⟨fun _ => B3, ?_⟩
  have h3 := h.kept B3
  have z5 := h3.box.box.frozen 5
  have d5 := (cW w3 B3).1
  go_upto_region 4 with fail
  have hN := h3.newF (w1 := w3) (v' := .slice (some ⟨g, off, none⟩) fr.length c) (fr := fr) (by
    have e := h3.free
    rw [hvf, hfe, List.map_append] at e
    have := RowO.head (ys := fr.map fun (x : Nat) => (x : Int)) (y := (id : Int)) e rfl
    rwa [List.length_map] at this) (fun _ _ _ => rfl) (Nat.le_refl _) (.inl (by rw [hvf]; rfl))
  have T4 : Turn A.own w (w3.setCell ⟨A.sb, 5, none⟩ (.slice (some ⟨g, off, none⟩) fr.length c)) := (Turn.ofBelow B3).trans (Turn.setCell _ _ _ (.inl rfl))
  obtain ⟨w4, hw4⟩ : ∃ W, W = w3.setCell ⟨A.sb, 5, none⟩ (.slice (some ⟨g, off, none⟩) fr.length c) := ⟨_, rfl⟩
  rw [← hw4] at hN T4 ⊢
  clear hw4 z5 d5 cW
  have c4 := hN.cells.c4
  have hro := hN.at_
  rw [show ({ A with vf := .slice (some ⟨g, off, none⟩) fr.length c } : SA).va = .slice (some ⟨ga, 0, none⟩) m.ats.length ca from hva] at c4 hro
  obtain ⟨x, hx⟩ : ∃ x, m.ats[id]? = some x := ⟨_, List.getElem?_eq_getElem hfr⟩
  have hgx := ownsN_cell hro (j := id) (u := ptrV x) (by rw [List.getElem?_map, hx]; rfl)
  have hgz := hro.frozenAt id
  have hl1 : (id : Int) < (m.ats.length : Int) := by omega
  go_upto_region 6 with fail
  have hS := hN.setAt hva id (some wb)
  have hpn : ptrV (some wb) = Value.pointer (some ⟨wb, 0, none⟩) := rfl
  rw [hpn] at hS
  have T5 : Turn A.own w (w4.setCell ⟨ga, id, none⟩ (.pointer (some ⟨wb, 0, none⟩))) := T4.trans (Turn.setCell _ _ _ (.inr (.inl (by rw [hva]; rfl))))
  obtain ⟨w5, hw5⟩ : ∃ W, W = w4.setCell ⟨ga, id, none⟩ (.pointer (some ⟨wb, 0, none⟩)) := ⟨_, rfl⟩
  rw [← hw5] at hS T5 ⊢
  obtain ⟨A1, hA1⟩ : ∃ A1, A1 = ({ A with vf := .slice (some ⟨g, off, none⟩) fr.length c } : SA) := ⟨_, rfl⟩
  rw [← hA1] at hS
  have N5 : SrNext A A1 w w5 := ⟨by rw [hA1]; exact ⟨rfl, rfl, rfl, rfl, rfl, rfl, rfl, rfl⟩, fun k hk => by
    rw [hA1] at hk
    rcases hk with h | h | h | h
    · exact .inl (.inl h)
    · exact .inl (.inr (.inl h))
    · exact .inl (.inr (.inr (.inl (by rw [hvf]; exact h))))
    · exact .inl (.inr (.inr (.inr h))), T5⟩
  have hsb : A1.sb = A.sb := N5.1.1
  obtain ⟨m1, hm1⟩ : ∃ m1, m1 = ({ m with ats := m.ats.set id (some wb), frees := fr } : Sr) := ⟨_, rfl⟩
  have hS : SrIn w5 p b m1 A1 := by rw [hm1]; exact hS
  rw [← hm1]
  have c3 : w5.cell? ⟨A.sb, 3, none⟩ = some (.pointer (some ⟨A1.bb, 0, none⟩)) := hsb ▸ hS.cells.c3
  have cm : w5.cell? ⟨wb, 4, none⟩ = some (.int .i64 mt) := by rw [((hw.same (T5.block wb (Box.lt ⟨_, hw⟩) ho)).box.cell 4)]; exact hm
  clear hw5 hpn hN T4 T5 hgx hgz c4 hro hA1 hl1
  (refine wp_region_treeV (fun W => Below w5.heap.size w5 W) 10 (.free 0 (.free 1 (.free 2 (.pure 3 (.free 4 (.free 5 (.free 6 (.free 7 (.pure 8 (.free 9 (.one 10 (.free 11 (.free 12 (.free 13 (.free 14 (.one 15 (.one 16 (.one 17 .nil)))))))))))))))))) (by kernel_rfl) (by kernel_rfl) ?_; simp only [List.getD_cons_zero, List.getD_cons_succ, wpOVI])
  intro w6 B6
  have h6 := hS.kept B6
  iterate 3
    refine ⟨rfl, _, fun W => by go_simp; first | done | rfl, ?_⟩
    try simp only [put_list, List.set_cons_zero, List.set_cons_succ]
  refine ⟨fun _ => B6, _, fun W hI => by have c3 := KeptW.cell c3 ⟨W, hI⟩; go_simp; first | done | rfl, ?_⟩
  try simp only [put_list, List.set_cons_zero, List.set_cons_succ]
  iterate 4
    refine ⟨rfl, _, fun W => by go_simp; first | done | rfl, ?_⟩
    try simp only [put_list, List.set_cons_zero, List.set_cons_succ]
  refine ⟨fun _ => B6, _, fun W hI => by have cm := KeptW.cell cm ⟨W, hI⟩; go_simp; first | done | rfl, ?_⟩
  try simp only [put_list, List.set_cons_zero, List.set_cons_succ]
  iterate 1
    refine ⟨rfl, _, fun W => by go_simp; first | done | rfl, ?_⟩
    try simp only [put_list, List.set_cons_zero, List.set_cons_succ]
  refine ⟨fun _ => B6, ?_⟩
  refine one_call rfl rfl inferInstance rfl ?_
  refine (bk_Put hb hl h1 h2 (by omega) w6 h6.bk).mono ?_
  rintro e w7 ⟨low, top, vs, OB', hcase, hO, hO2, T7⟩
  by_cases hfit : (b.more id mt).I.length ≤ b.cap
  · rw [if_pos hfit] at hcase
    obtain ⟨rfl, hB7⟩ := hcase
    refine ⟨_, rfl, rfl, ?_⟩
    simp only [put_list, List.set_cons_zero, List.set_cons_succ]
    iterate 4
      refine ⟨rfl, _, fun W => by go_simp; first | done | rfl, ?_⟩
      try simp only [put_list, List.set_cons_zero, List.set_cons_succ]
    refine ⟨fun h => by simp at h, ?_⟩
    go_wp2
    have T7' : Turn A1.OB w5 w7 := (Turn.ofBelow B6).trans T7
    have hN7 := hS.newB (b' := b.more id mt) hB7 (fun k hk => (hO k hk).imp_right fun h => ⟨Nat.le_trans B6.size h.1, h.2⟩) T7' rfl
    have N7 : SrNext A1 { A1 with low := low, top := top, vs := vs, OB := OB' } w5 w7 := ⟨⟨rfl, rfl, rfl, rfl, rfl, rfl, rfl, rfl⟩, fun k hk => by
      rcases hk with h | h | h | h
      · exact .inl (.inl h)
      · exact .inl (.inr (.inl h))
      · exact .inl (.inr (.inr (.inl h)))
      · exact (hO k h).imp (fun h => .inr (.inr (.inr h))) (fun h => ⟨Nat.le_trans B6.size h.1, h.2⟩), T7'.mono fun k _ hk => .inr (.inr (.inr hk))⟩
    rw [hm1] at hN7
    refine bodyPost_end (results_nil rfl) rfl ?_
    refine (show SrPutPost p b m _ id mt A w _ _ from ⟨_, rfl, N5.trans N7, ?_⟩)
    rw [if_pos hfit]
    exact hN7
  · rw [if_neg hfit] at hcase
    obtain ⟨x, hx, rfl, hB7⟩ := hcase
    refine ⟨_, rfl, rfl, ?_⟩
    simp only [put_list, List.set_cons_zero, List.set_cons_succ]
    iterate 4
      refine ⟨rfl, _, fun W => by go_simp; first | done | rfl, ?_⟩
      try simp only [put_list, List.set_cons_zero, List.set_cons_succ]
    refine ⟨fun h => by simp at h, ?_⟩
    have T7' : Turn A1.OB w5 w7 := (Turn.ofBelow B6).trans T7
    have hN7 := hS.newB (b' := (b.more id mt).drop) hB7 (fun k hk => (hO k hk).imp_right fun h => ⟨Nat.le_trans B6.size h.1, h.2⟩) T7' rfl
    obtain ⟨A2, hA2⟩ : ∃ A2, A2 = ({ A1 with low := low, top := top, vs := vs, OB := OB' } : SA) := ⟨_, rfl⟩
    rw [← hA2] at hN7
    have N7 : SrNext A1 A2 w5 w7 := ⟨by rw [hA2]; exact ⟨rfl, rfl, rfl, rfl, rfl, rfl, rfl, rfl⟩, fun k hk => by
      rw [hA2] at hk
      rcases hk with h | h | h | h
      · exact .inl (.inl h)
      · exact .inl (.inr (.inl h))
      · exact .inl (.inr (.inr (.inl h)))
      · exact (hO k h).imp (fun h => .inr (.inr (.inr h))) (fun h => ⟨Nat.le_trans B6.size h.1, h.2⟩), T7'.mono fun k _ hk => .inr (.inr (.inr hk))⟩
    have hsb2 : A2.sb = A.sb := N7.1.1.trans hsb
    have c8 : w7.cell? ⟨A.sb, 8, none⟩ = some (.int .i64 m.drops) := by have := hN7.cells.c8; rw [hsb2, hm1] at this; exact this
    have z8 : w7.frozen? ⟨A.sb, 8, none⟩ = false := by have := hN7.box.box.frozen 8; rwa [hsb2] at this
    go_upto_region 9 with fail
    have hP := hN7.put (m' := { m1 with drops := wrap64 (m1.drops + 1) }) 8 (.int .i64 (wrap64 (m1.drops + 1))) rfl rfl rfl
    have e8 : m1.drops = m.drops := by rw [hm1]
    rw [e8, hsb2] at hP
    have T8 : Turn A.own w7 (w7.setCell ⟨A.sb, 8, none⟩ (.int .i64 (wrap64 (m.drops + 1)))) := Turn.setCell _ _ _ (.inl rfl)
    obtain ⟨w8, hw8'⟩ : ∃ W, W = w7.setCell ⟨A.sb, 8, none⟩ (.int .i64 (wrap64 (m.drops + 1))) := ⟨_, rfl⟩
    rw [← hw8'] at hP T8 ⊢
    have N8 : SrNext A2 A2 w7 w8 := ⟨⟨rfl, rfl, rfl, rfl, rfl, rfl, rfl, rfl⟩, fun k hk => .inl hk, by rw [hw8']; exact Turn.setCell _ _ _ (.inl hsb2.symm)⟩
    clear hw8'
    have hxl : x.1 < m1.ats.length := by
      have hmem : x ∈ b.I ++ [(id, mt)] := List.mem_of_getElem? hx
      rw [hm1]
      show _ < (m.ats.set id _).length
      rw [List.length_set]
      rcases List.mem_append.1 hmem with h | h
      · exact hids x h
      · rw [List.mem_singleton.1 h]; exact hfr
    obtain ⟨y, hy⟩ : ∃ y, m1.ats[x.1]? = some y := ⟨_, List.getElem?_eq_getElem hxl⟩
    have hal1 : m1.ats.length ≤ 1000000 := by rw [hm1]; show (m.ats.set id _).length ≤ _; rw [List.length_set]; omega
    have hfl1 : m1.frees.length ≤ 1000000 := by rw [hm1]; show fr.length ≤ _; omega
    have hG := sr_gone (p := p) (b := (b.more id mt).drop) (m := { m1 with drops := wrap64 (m.drops + 1) }) (A := A2) (id := x.1) (x := y) hy hal1 hfl1 w8 hP
    rw [hsb2] at hG
    go_wp2_with fail
    refine hG.mono ?_
    rintro e w9 ⟨A3, rfl, h9, N9, _⟩
    go_wp2
    refine bodyPost_end (results_nil rfl) rfl ?_
    rw [hm1] at h9
    refine (show SrPutPost p b m _ id mt A w _ _ from ⟨A3, rfl, ((N5.trans N7).trans N8).trans N9, ?_⟩)
    rw [if_neg hfit]
    exact ⟨x, hx, h9⟩
end Go.Proofs.YtnjmplapjnnjdaaGreat

/- The search of layer 17: put, where a new place is wanted; both. -/
namespace Go.Proofs.YtnjmplapjnnjdaaGreat
open Go.RowKit

instance elWay : ElTy Tryz.prog 61 (.pointer none) 1 8 := .mk' (by kernel_rfl) rfl
theorem owns_form' {w : World} {B e sz n : Nat} {v : Value} {xs : List Value} (h : w.ownsRow B e sz v n xs) : ∃ a cap, v = .slice a n cap := by
  rcases h.2 with ⟨hv, h0⟩ | ⟨g, cap, cur, hv, _⟩
  · exact ⟨none, 0, by rw [hv, h0]⟩
  · exact ⟨_, cap, hv⟩
set_option maxRecDepth 5000 in
set_option maxHeartbeats 1000000 in
theorem sr_put_new {p : Pb} {b : Bk} {m : Sr} {A : SA} {wb : Nat} {mt : Int} {cs : Array Value} (hb : b.Ok) (hl : b.I.length ≤ b.cap) (h1 : b.lo ≤ mt) (h2 : mt ≤ b.hi) (hal : m.ats.length ≤ 900000) (hfe : m.frees = []) (hids : ∀ x ∈ b.I, x.1 < m.ats.length) (w : World) (h : SrIn w p b m A) (hw : BoxT w wb cs 69) (hm : cs[4]? = some (.int .i64 mt)) (ho : ¬A.own wb) :
    Calls Tryz.prog 16 #[.pointer (some ⟨A.sb, 0, none⟩), .pointer (some ⟨wb, 0, none⟩)] w (SrPutPost p b m { m with ats := m.ats ++ [some wb] } m.ats.length mt A w) := by
  have hA := h.cells
  have c4 := hA.c4
  have c5 := hA.c5
  obtain ⟨aa, ca, hva⟩ := owns_form' h.at_
  obtain ⟨af, cf, hvf⟩ := h.free.form
  rw [hfe] at hvf
  rw [hva] at c4
  rw [hvf] at c5
  go_enter Tryz.func16, Tryz.ntmps16
  have z4 := h.box.box.frozen 4
  have BA : Below w.heap.size w (w.alloc (.cells #[.pointer (some ⟨wb, 0, none⟩)] 61)) := (Below.refl _ _).alloc (Nat.le_refl _) _
  have hro := h.at_
  have hro2 : World.ownsRow (w.alloc (.cells #[.pointer (some ⟨wb, 0, none⟩)] 61)) 0 61 1 A.va m.ats.length (m.ats.map ptrV) := ownsN_block hro fun k hk => BA.block k (World.ownsRow.lt hro k hk).2
  have hbx : Box (w.alloc (.cells #[.pointer (some ⟨wb, 0, none⟩)] 61)) w.heap.size #[.pointer (some ⟨wb, 0, none⟩)] := Box.new w _ _
  rw [hva] at hro2
  go_upto_region 6 with (at_builtin; refine apQ (us := [.pointer (some ⟨wb, 0, none⟩)]) (m := 1) hro2 (by decide) (by decide) rfl rfl hbx rfl (by intro u hu; simp at hu; rw [hu]; rfl) (by omega) (by omega) (Nat.zero_le _) ?_; intro v' w2 r1 r3; obtain ⟨gv, cv, rfl⟩ := owns_some' r1 (by omega); obtain ⟨k1, k2, k3, k4⟩ := grown_keep (v := .slice aa m.ats.length ca) BA (r3.imp_left fun ⟨g, c, e1, e2, e3⟩ => ⟨g, by rw [e1]; rfl, by rw [e2]; rfl, e3⟩); have b2 := h.box.same (k1 _ (h.lt (k := A.sb) (.inl rfl)) (hva ▸ World.ownsRow.own_ne hro h.box (by decide))); have hx4 : w2.cell? ⟨A.sb, 4, none⟩ = some A.va := b2.box.cell 4; have hz4 : w2.frozen? ⟨A.sb, 4, none⟩ = false := b2.box.frozen 4)
  rw [← hva] at k1 k3 k4
  have hS := h.newA (xs := m.ats ++ [some wb]) (v' := .slice (some ⟨gv, 0, none⟩) (m.ats.length + 1) cv) (by rw [List.length_append, List.map_append]; exact r1) k1 k2 k3
  have T5 : Turn A.own w (w2.setCell ⟨A.sb, 4, none⟩ (.slice (some ⟨gv, 0, none⟩) (m.ats.length + 1) cv)) := (k4.mono fun k _ hk => .inr (.inl hk)).trans (Turn.setCell _ _ _ (.inl rfl))
  obtain ⟨w5, hw5⟩ : ∃ W, W = w2.setCell ⟨A.sb, 4, none⟩ (.slice (some ⟨gv, 0, none⟩) (m.ats.length + 1) cv) := ⟨_, rfl⟩
  rw [← hw5] at hS T5 ⊢
  obtain ⟨A1, hA1⟩ : ∃ A1, A1 = ({ A with va := .slice (some ⟨gv, 0, none⟩) (m.ats.length + 1) cv } : SA) := ⟨_, rfl⟩
  rw [← hA1] at hS
  have N5 : SrNext A A1 w w5 := ⟨by rw [hA1]; exact ⟨rfl, rfl, rfl, rfl, rfl, rfl, rfl, rfl⟩, fun k hk => by
    have hkl := hS.lt hk
    rw [hA1] at hk
    rcases hk with h | h | h | h
    · exact .inl (.inl h)
    · rcases k3 with e | ⟨g, e, hg⟩
      · exact .inl (.inr (.inl (e ▸ h)))
      · have h' : some gv = some k := h
        have e' : some gv = some g := e
        obtain rfl : k = g := Option.some.inj (h'.symm.trans e')
        exact .inr ⟨hg, hkl⟩
    · exact .inl (.inr (.inr (.inl h)))
    · exact .inl (.inr (.inr (.inr h))), T5⟩
  have hsb : A1.sb = A.sb := N5.1.1
  obtain ⟨m1, hm1⟩ : ∃ m1, m1 = ({ m with ats := m.ats ++ [some wb] } : Sr) := ⟨_, rfl⟩
  have hS : SrIn w5 p b m1 A1 := by rw [hm1]; exact hS
  rw [← hm1]
  have c3 : w5.cell? ⟨A.sb, 3, none⟩ = some (.pointer (some ⟨A1.bb, 0, none⟩)) := hsb ▸ hS.cells.c3
  have cm : w5.cell? ⟨wb, 4, none⟩ = some (.int .i64 mt) := by rw [((hw.same (T5.block wb (Box.lt ⟨_, hw⟩) ho)).box.cell 4)]; exact hm
  clear hw5 T5 c4 c5 z4 hro hro2 hbx b2 hx4 hz4 k1 k2 k3 k4 r1 r3 hA1 BA
  (refine wp_region_treeV (fun W => Below w5.heap.size w5 W) 10 (.free 0 (.free 1 (.free 2 (.pure 3 (.free 4 (.free 5 (.free 6 (.free 7 (.pure 8 (.free 9 (.one 10 (.free 11 (.free 12 (.free 13 (.free 14 (.one 15 (.one 16 (.one 17 .nil)))))))))))))))))) (by kernel_rfl) (by kernel_rfl) ?_; simp only [List.getD_cons_zero, List.getD_cons_succ, wpOVI])
  intro w6 B6
  have h6 := hS.kept B6
  iterate 3
    refine ⟨rfl, _, fun W => by go_simp; first | done | rfl, ?_⟩
    try simp only [put_list, List.set_cons_zero, List.set_cons_succ]
  refine ⟨fun _ => B6, _, fun W hI => by have c3 := KeptW.cell c3 ⟨W, hI⟩; go_simp; first | done | rfl, ?_⟩
  try simp only [put_list, List.set_cons_zero, List.set_cons_succ]
  iterate 4
    refine ⟨rfl, _, fun W => by go_simp; first | done | rfl, ?_⟩
    try simp only [put_list, List.set_cons_zero, List.set_cons_succ]
  refine ⟨fun _ => B6, _, fun W hI => by have cm := KeptW.cell cm ⟨W, hI⟩; go_simp; first | done | rfl, ?_⟩
  try simp only [put_list, List.set_cons_zero, List.set_cons_succ]
  iterate 1
    refine ⟨rfl, _, fun W => by go_simp; first | done | rfl, ?_⟩
    try simp only [put_list, List.set_cons_zero, List.set_cons_succ]
  refine ⟨fun _ => B6, ?_⟩
  refine one_call rfl rfl inferInstance rfl ?_
  refine (bk_Put hb hl h1 h2 (by omega) w6 h6.bk).mono ?_
  rintro e w7 ⟨low, top, vs, OB', hcase, hO, hO2, T7⟩
  by_cases hfit : (b.more m.ats.length mt).I.length ≤ b.cap
  · rw [if_pos hfit] at hcase
    obtain ⟨rfl, hB7⟩ := hcase
    refine ⟨_, rfl, rfl, ?_⟩
    simp only [put_list, List.set_cons_zero, List.set_cons_succ]
    iterate 4
      refine ⟨rfl, _, fun W => by go_simp; first | done | rfl, ?_⟩
      try simp only [put_list, List.set_cons_zero, List.set_cons_succ]
    refine ⟨fun h => by simp at h, ?_⟩
    go_wp2
    have T7' : Turn A1.OB w5 w7 := (Turn.ofBelow B6).trans T7
    have hN7 := hS.newB (b' := b.more m.ats.length mt) hB7 (fun k hk => (hO k hk).imp_right fun h => ⟨Nat.le_trans B6.size h.1, h.2⟩) T7' rfl
    have N7 : SrNext A1 { A1 with low := low, top := top, vs := vs, OB := OB' } w5 w7 := ⟨⟨rfl, rfl, rfl, rfl, rfl, rfl, rfl, rfl⟩, fun k hk => by
      rcases hk with h | h | h | h
      · exact .inl (.inl h)
      · exact .inl (.inr (.inl h))
      · exact .inl (.inr (.inr (.inl h)))
      · exact (hO k h).imp (fun h => .inr (.inr (.inr h))) (fun h => ⟨Nat.le_trans B6.size h.1, h.2⟩), T7'.mono fun k _ hk => .inr (.inr (.inr hk))⟩
    rw [hm1] at hN7
    refine bodyPost_end (results_nil rfl) rfl ?_
    refine (show SrPutPost p b m _ m.ats.length mt A w _ _ from ⟨_, rfl, N5.trans N7, ?_⟩)
    rw [if_pos hfit]
    exact hN7
  · rw [if_neg hfit] at hcase
    obtain ⟨x, hx, rfl, hB7⟩ := hcase
    refine ⟨_, rfl, rfl, ?_⟩
    simp only [put_list, List.set_cons_zero, List.set_cons_succ]
    iterate 4
      refine ⟨rfl, _, fun W => by go_simp; first | done | rfl, ?_⟩
      try simp only [put_list, List.set_cons_zero, List.set_cons_succ]
    refine ⟨fun h => by simp at h, ?_⟩
    have T7' : Turn A1.OB w5 w7 := (Turn.ofBelow B6).trans T7
    have hN7 := hS.newB (b' := (b.more m.ats.length mt).drop) hB7 (fun k hk => (hO k hk).imp_right fun h => ⟨Nat.le_trans B6.size h.1, h.2⟩) T7' rfl
    obtain ⟨A2, hA2⟩ : ∃ A2, A2 = ({ A1 with low := low, top := top, vs := vs, OB := OB' } : SA) := ⟨_, rfl⟩
    rw [← hA2] at hN7
    have N7 : SrNext A1 A2 w5 w7 := ⟨by rw [hA2]; exact ⟨rfl, rfl, rfl, rfl, rfl, rfl, rfl, rfl⟩, fun k hk => by
      rw [hA2] at hk
      rcases hk with h | h | h | h
      · exact .inl (.inl h)
      · exact .inl (.inr (.inl h))
      · exact .inl (.inr (.inr (.inl h)))
      · exact (hO k h).imp (fun h => .inr (.inr (.inr h))) (fun h => ⟨Nat.le_trans B6.size h.1, h.2⟩), T7'.mono fun k _ hk => .inr (.inr (.inr hk))⟩
    have hsb2 : A2.sb = A.sb := N7.1.1.trans hsb
    have c8 : w7.cell? ⟨A.sb, 8, none⟩ = some (.int .i64 m.drops) := by have := hN7.cells.c8; rw [hsb2, hm1] at this; exact this
    have z8 : w7.frozen? ⟨A.sb, 8, none⟩ = false := by have := hN7.box.box.frozen 8; rwa [hsb2] at this
    go_upto_region 9 with fail
    have hP := hN7.put (m' := { m1 with drops := wrap64 (m1.drops + 1) }) 8 (.int .i64 (wrap64 (m1.drops + 1))) rfl rfl rfl
    have e8 : m1.drops = m.drops := by rw [hm1]
    rw [e8, hsb2] at hP
    have T8 : Turn A.own w7 (w7.setCell ⟨A.sb, 8, none⟩ (.int .i64 (wrap64 (m.drops + 1)))) := Turn.setCell _ _ _ (.inl rfl)
    obtain ⟨w8, hw8'⟩ : ∃ W, W = w7.setCell ⟨A.sb, 8, none⟩ (.int .i64 (wrap64 (m.drops + 1))) := ⟨_, rfl⟩
    rw [← hw8'] at hP T8 ⊢
    have N8 : SrNext A2 A2 w7 w8 := ⟨⟨rfl, rfl, rfl, rfl, rfl, rfl, rfl, rfl⟩, fun k hk => .inl hk, by rw [hw8']; exact Turn.setCell _ _ _ (.inl hsb2.symm)⟩
    clear hw8'
    have hxl : x.1 < m1.ats.length := by
      have hmem : x ∈ b.I ++ [(m.ats.length, mt)] := List.mem_of_getElem? hx
      rw [hm1]
      show _ < (m.ats ++ [some wb]).length
      rw [List.length_append, List.length_singleton]
      rcases List.mem_append.1 hmem with h | h
      · have := hids x h; omega
      · rw [List.mem_singleton.1 h]; show m.ats.length < _; omega
    obtain ⟨y, hy⟩ : ∃ y, m1.ats[x.1]? = some y := ⟨_, List.getElem?_eq_getElem hxl⟩
    have hal1 : m1.ats.length ≤ 1000000 := by rw [hm1]; show (m.ats ++ [some wb]).length ≤ _; rw [List.length_append, List.length_singleton]; omega
    have hfl1 : m1.frees.length ≤ 1000000 := by rw [hm1]; show m.frees.length ≤ _; rw [hfe]; simp
    have hG := sr_gone (p := p) (b := (b.more m.ats.length mt).drop) (m := { m1 with drops := wrap64 (m.drops + 1) }) (A := A2) (id := x.1) (x := y) hy hal1 hfl1 w8 hP
    rw [hsb2] at hG
    go_wp2_with fail
    refine hG.mono ?_
    rintro e w9 ⟨A3, rfl, h9, N9, _⟩
    go_wp2
    refine bodyPost_end (results_nil rfl) rfl ?_
    rw [hm1] at h9
    refine (show SrPutPost p b m _ m.ats.length mt A w _ _ from ⟨A3, rfl, ((N5.trans N7).trans N8).trans N9, ?_⟩)
    rw [if_neg hfit]
    exact ⟨x, hx, h9⟩
end Go.Proofs.YtnjmplapjnnjdaaGreat
