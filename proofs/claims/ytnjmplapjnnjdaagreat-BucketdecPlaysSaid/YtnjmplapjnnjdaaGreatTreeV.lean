import Derived.Test.YtnjmplapjnnjdaaGreatBk
set_option linter.unusedSimpArgs false
set_option linter.unusedVariables false
set_option linter.unnecessarySimpa false
/- Buckets: Pop and Put. -/
namespace Go.Proofs.YtnjmplapjnnjdaaGreat
open Go.RowKit

def Bk.keys (b : Bk) : List Int := b.I.map fun x => x.2 / b.D
def Bk.nextIx (b : Bk) : Nat := lastMax b.keys b.I.length
def Bk.lowIx (b : Bk) : Nat := firstMin b.keys b.I.length
theorem Bk.keys_get {b : Bk} {i : Nat} {x : Nat × Int} (h : b.I[i]? = some x) : b.keys.getD i 0 = x.2 / b.D := by
  unfold Bk.keys
  rw [List.getD_eq_getElem?_getD, List.getElem?_map, h]; rfl
/-- What Pop takes: the last one of the highest bucket. -/
theorem Bk.Ok.next {b : Bk} (hb : b.Ok) (hne : b.I ≠ []) : ∃ x, b.I[b.nextIx]? = some x ∧ (∀ t, (∃ y ∈ b.I, b.ix y.2 = t) → (∀ y ∈ b.I, b.ix y.2 ≤ t) → b.ix x.2 = t ∧ x.2 / b.D = (t : Int) + b.base ∧ b.row t = ({ b with I := b.I.eraseIdx b.nextIx } : Bk).row t ++ [(x.1 : Int)] ∧ ∀ k, k ≠ t → ({ b with I := b.I.eraseIdx b.nextIx } : Bk).row k = b.row k) := by
  have hl : 1 ≤ b.I.length := by cases hI : b.I with | nil => exact absurd hI hne | cons x l => simp
  obtain ⟨f1, f2, f3⟩ := lastMax_facts b.keys b.I.length hl
  have hx : b.I[b.nextIx]? = some (b.I[b.nextIx]'f1) := List.getElem?_eq_getElem f1
  refine ⟨_, hx, fun t ⟨y, hy, hyt⟩ hall => ?_⟩
  obtain ⟨x, hxx⟩ : ∃ x, x = b.I[b.nextIx]'f1 := ⟨_, rfl⟩
  rw [← hxx] at hx ⊢
  have hxm := List.mem_of_getElem? hx
  obtain ⟨i, hi⟩ := List.getElem?_of_mem hy
  have hil : i < b.I.length := by
    rcases Nat.lt_or_ge i b.I.length with h | h
    · exact h
    · rw [List.getElem?_eq_none h] at hi; cases hi
  have ex := hb.ix (hb.ms x hxm).1 (hb.ms x hxm).2
  have ey := hb.ix (hb.ms y hy).1 (hb.ms y hy).2
  have hle := f2 i hil
  have kx : b.keys.getD (lastMax b.keys b.I.length) 0 = x.2 / b.D := Bk.keys_get hx
  rw [Bk.keys_get hi, kx] at hle
  have hxt : b.ix x.2 = t := by have := hall x hxm; omega
  refine ⟨hxt, by omega, ?_, fun k hk => ?_⟩
  · unfold Bk.row
    show List.map _ (List.filter (fun z => b.ix z.2 == t) b.I) = List.map _ (List.filter (fun z => b.ix z.2 == t) (b.I.eraseIdx b.nextIx)) ++ _
    rw [filter_last hx (P := fun z => b.ix z.2 == t) (by simp [hxt]) (fun i' z hi' hz => ?_), List.map_append]
    · rfl
    · have hzl : i' < b.I.length := by
        rcases Nat.lt_or_ge i' b.I.length with h | h
        · exact h
        · rw [List.getElem?_eq_none h] at hz; cases hz
      have h3 := f3 i' hi' hzl
      rw [Bk.keys_get hz, kx] at h3
      have ez := hb.ix (hb.ms z (List.mem_of_getElem? hz)).1 (hb.ms z (List.mem_of_getElem? hz)).2
      simp; omega
  · unfold Bk.row
    show List.map _ (List.filter (fun z => b.ix z.2 == k) (b.I.eraseIdx b.nextIx)) = List.map _ (List.filter (fun z => b.ix z.2 == k) b.I)
    rw [filter_other hx (P := fun z => b.ix z.2 == k) (by simp; omega)]
theorem Bk.Ok.low_ {b : Bk} (hb : b.Ok) (hne : b.I ≠ []) : ∃ x, b.I[b.lowIx]? = some x ∧ (∀ t, (∃ y ∈ b.I, b.ix y.2 = t) → (∀ y ∈ b.I, t ≤ b.ix y.2) → b.ix x.2 = t ∧ x.2 / b.D = (t : Int) + b.base ∧ b.row t = (x.1 : Int) :: ({ b with I := b.I.eraseIdx b.lowIx } : Bk).row t ∧ ∀ k, k ≠ t → ({ b with I := b.I.eraseIdx b.lowIx } : Bk).row k = b.row k) := by
  have hl : 1 ≤ b.I.length := by cases hI : b.I with | nil => exact absurd hI hne | cons x l => simp
  obtain ⟨f1, f2, f3⟩ := firstMin_facts b.keys b.I.length hl
  have hx : b.I[b.lowIx]? = some (b.I[b.lowIx]'f1) := List.getElem?_eq_getElem f1
  refine ⟨_, hx, fun t ⟨y, hy, hyt⟩ hall => ?_⟩
  obtain ⟨x, hxx⟩ : ∃ x, x = b.I[b.lowIx]'f1 := ⟨_, rfl⟩
  rw [← hxx] at hx ⊢
  have hxm := List.mem_of_getElem? hx
  obtain ⟨i, hi⟩ := List.getElem?_of_mem hy
  have hil : i < b.I.length := by
    rcases Nat.lt_or_ge i b.I.length with h | h
    · exact h
    · rw [List.getElem?_eq_none h] at hi; cases hi
  have ex := hb.ix (hb.ms x hxm).1 (hb.ms x hxm).2
  have ey := hb.ix (hb.ms y hy).1 (hb.ms y hy).2
  have hle := f2 i hil
  have kx : b.keys.getD (firstMin b.keys b.I.length) 0 = x.2 / b.D := Bk.keys_get hx
  rw [Bk.keys_get hi, kx] at hle
  have hxt : b.ix x.2 = t := by have := hall x hxm; omega
  refine ⟨hxt, by omega, ?_, fun k hk => ?_⟩
  · unfold Bk.row
    show List.map _ (List.filter (fun z => b.ix z.2 == t) b.I) = _ :: List.map _ (List.filter (fun z => b.ix z.2 == t) (b.I.eraseIdx b.lowIx))
    rw [filter_first hx (P := fun z => b.ix z.2 == t) (by simp [hxt]) (fun i' z hi' hz => ?_), List.map_cons]
    have hzl : i' < b.I.length := by
      rcases Nat.lt_or_ge i' b.I.length with h | h
      · exact h
      · rw [List.getElem?_eq_none h] at hz; cases hz
    have h3 := f3 i' hi'
    rw [Bk.keys_get hz, kx] at h3
    have ez := hb.ix (hb.ms z (List.mem_of_getElem? hz)).1 (hb.ms z (List.mem_of_getElem? hz)).2
    simp; omega
  · unfold Bk.row
    show List.map _ (List.filter (fun z => b.ix z.2 == k) (b.I.eraseIdx b.lowIx)) = List.map _ (List.filter (fun z => b.ix z.2 == k) b.I)
    rw [filter_other hx (P := fun z => b.ix z.2 == k) (by simp; omega)]
/-- One less. -/
theorem Bk.Ok.less {b : Bk} (hb : b.Ok) (j : Nat) : ({ b with I := b.I.eraseIdx j } : Bk).Ok :=
  ⟨hb.d0, hb.d1, hb.le, hb.lo0, hb.hi0, hb.k, hb.c0, hb.c1, Nat.le_trans (List.length_eraseIdx_le ..) hb.len, fun x hx => hb.ms x (mem_erase hx), fun x hx => hb.ids x (mem_erase hx)⟩
/-! ### Rows under hands -/
def bkCellsN (b : Bk) (gr n low top : Nat) : Array Value := #[.int .i64 b.D, .int .i64 b.lo, .int .i64 b.hi, .int .i64 b.cap, .int .i64 b.base, .slice (some ⟨gr, 0, none⟩) b.K b.K, .int .i64 n, .int .i64 low, .int .i64 top, .int .i64 b.mark, .bool b.mkd]
structure BkW (w : World) (b : Bk) (bb gr n low top : Nat) (vs : List Value) (R : Nat → List Int) (Own : Nat → Prop) : Prop where
  box : BoxT w bb (bkCellsN b gr n low top) 111
  arr : BoxT w gr vs.toArray 60
  vlen : vs.length = b.K
  rows : ∀ (k : Nat) (v : Value), vs[k]? = some v → RowO w v (R k)
  sep : ∀ (k k' : Nat) (v v' : Value) (g : Nat), k ≠ k' → vs[k]? = some v → vs[k']? = some v' → v.ownBlock = some g → v'.ownBlock ≠ some g
  own : Own bb ∧ Own gr ∧ ∀ (k : Nat) (v : Value) (g : Nat), vs[k]? = some v → v.ownBlock = some g → Own g
theorem BkIn.toW {w : World} {b : Bk} {bb gr low top : Nat} {vs : List Value} {Own : Nat → Prop} (h : BkIn w b bb gr low top vs Own) : BkW w b bb gr b.I.length low top vs b.row Own := ⟨h.box, h.arr, h.vlen, h.rows, h.sep, h.own⟩
theorem BkW.toIn {w : World} {b : Bk} {bb gr n low top : Nat} {vs : List Value} {R : Nat → List Int} {Own : Nat → Prop} (h : BkW w b bb gr n low top vs R Own) (hn : n = b.I.length) (hR : ∀ k, k < b.K → R k = b.row k) (h1 : low < b.K) (h2 : top < b.K) (h3 : ∀ x ∈ b.I, low ≤ b.ix x.2 ∧ b.ix x.2 ≤ top) : BkIn w b bb gr low top vs Own := by
  subst hn
  refine ⟨h.box, h.arr, h.vlen, fun k v hv => ?_, h.sep, h.own, h1, h2, h3⟩
  have hk : k < b.K := by
    rw [← h.vlen]
    rcases Nat.lt_or_ge k vs.length with h | h
    · exact h
    · rw [List.getElem?_eq_none h] at hv; cases hv
  rw [← hR k hk]
  exact h.rows k v hv
theorem BkW.same {w w' : World} {b : Bk} {bb gr n low top : Nat} {vs : List Value} {R : Nat → List Int} {Own : Nat → Prop} (h : BkW w b bb gr n low top vs R Own) (hk : ∀ k, Own k → k < w.heap.size → w'.heap[k]? = w.heap[k]?) : BkW w' b bb gr n low top vs R Own :=
  ⟨h.box.same (hk bb h.own.1 (Box.lt ⟨_, h.box⟩)), h.arr.same (hk gr h.own.2.1 (Box.lt ⟨_, h.arr⟩)), h.vlen, fun k v hv => (h.rows k v hv).block fun g hg => hk g (h.own.2.2 k v g hv hg) ((h.rows k v hv).lt hg), h.sep, h.own⟩
theorem BkW.kept {w w' : World} {b : Bk} {bb gr n low top : Nat} {vs : List Value} {R : Nat → List Int} {Own : Nat → Prop} (h : BkW w b bb gr n low top vs R Own) (hB : Below w.heap.size w w') : BkW w' b bb gr n low top vs R Own := h.same fun k _ hk => hB.block k hk
theorem BkW.cellB {w : World} {b : Bk} {bb gr n low top : Nat} {vs : List Value} {R : Nat → List Int} {Own : Nat → Prop} (h : BkW w b bb gr n low top vs R Own) (j : Nat) (v : Value) {b' : Bk} {n' low' top' : Nat} (e : (bkCellsN b gr n low top).setIfInBounds j v = bkCellsN b' gr n' low' top') (hK : b.K = b'.K) : BkW (w.setCell ⟨bb, j, none⟩ v) b' bb gr n' low' top' vs R Own := by
  have hne : gr ≠ bb := BoxT.ne h.arr h.box (by decide)
  have hb := h.box.set j v
  rw [e] at hb
  exact ⟨hb, h.arr.same (Below.heap_setCell _ _ _ _ hne), h.vlen.trans hK, fun k v hv => (h.rows k v hv).block fun g hg => Below.heap_setCell _ _ _ _ ((h.rows k v hv).ne hg h.box (by decide)), h.sep, h.own⟩
theorem RowO.own_ne {w : World} {v : Value} {xs : List Int} (h : RowO w v xs) {g : Nat} {cs : Array Value} {t : TypeId} (h' : BoxT w g cs t) (ht : t ≠ 3) : v.ownBlock ≠ some g := fun e => h.ne e h' ht rfl
/-- A row is laid anew. -/
theorem BkW.put {w w1 : World} {b : Bk} {bb gr n low top : Nat} {vs : List Value} {R : Nat → List Int} {Own Own' : Nat → Prop} (h : BkW w b bb gr n low top vs R Own) {k : Nat} {v v' : Value} {xs : List Int} (hv : vs[k]? = some v) (hr : RowO w1 v' xs)
    (hkeep : ∀ g, g < w.heap.size → v.ownBlock ≠ some g → w1.heap[g]? = w.heap[g]?) (hnew : v'.ownBlock = v.ownBlock ∨ ∃ g, v'.ownBlock = some g ∧ w.heap.size ≤ g) (hO : ∀ g, Own g → Own' g) (hO' : ∀ g, v'.ownBlock = some g → Own' g) :
    BkW (w1.setCell ⟨gr, k, none⟩ v') b bb gr n low top (vs.set k v') (fun j => if j = k then xs else R j) Own' := by
  have hne : gr ≠ bb := BoxT.ne h.arr h.box (by decide)
  have hvr := h.rows k v hv
  have hk : k < vs.length := by
    rcases Nat.lt_or_ge k vs.length with h | h
    · exact h
    · rw [List.getElem?_eq_none h] at hv; cases hv
  have b1 : BoxT w1 bb (bkCellsN b gr n low top) 111 := h.box.same (hkeep bb (Box.lt ⟨_, h.box⟩) (hvr.own_ne h.box (by decide)))
  have a1 : BoxT w1 gr vs.toArray 60 := h.arr.same (hkeep gr (Box.lt ⟨_, h.arr⟩) (hvr.own_ne h.arr (by decide)))
  have get : ∀ j u, (vs.set k v')[j]? = some u → (j = k ∧ u = v') ∨ (j ≠ k ∧ vs[j]? = some u) := fun j u hu => by
    rw [List.getElem?_set] at hu
    by_cases hj : k = j
    · subst hj
      rw [if_pos rfl, if_pos hk] at hu
      exact .inl ⟨rfl, (Option.some.inj hu).symm⟩
    · rw [if_neg hj] at hu
      exact .inr ⟨Ne.symm hj, hu⟩
  have sepk : ∀ j u g, j ≠ k → vs[j]? = some u → u.ownBlock = some g → v'.ownBlock ≠ some g := fun j u g hj hu hg e => by
    rcases hnew with h1 | ⟨g', h1, h2⟩
    · exact h.sep j k u v g hj hu hv hg (h1 ▸ e)
    · have h3 := (h.rows j u hu).lt hg
      rw [e] at h1
      obtain rfl := Option.some.inj h1
      omega
  have arr' : (vs.set k v').toArray = vs.toArray.setIfInBounds k v' := by simp
  refine ⟨b1.same (Below.heap_setCell _ _ _ _ (Ne.symm hne)), by rw [arr']; exact a1.set k v', by rw [List.length_set]; exact h.vlen, fun j u hu => ?_, fun j j' u u' g hj hu hu' hg => ?_, ⟨hO _ h.own.1, hO _ h.own.2.1, fun j u g hu hg => ?_⟩⟩
  · rcases get j u hu with ⟨rfl, rfl⟩ | ⟨hj, hu⟩
    · rw [if_pos rfl]
      exact hr.block fun g hg => Below.heap_setCell _ _ _ _ (hr.ne hg a1 (by decide))
    · rw [if_neg hj]
      have hur := h.rows j u hu
      exact hur.block fun g hg => (Below.heap_setCell _ _ _ _ (hur.ne hg h.arr (by decide))).trans (hkeep g (hur.lt hg) (fun e => h.sep j k u v g hj hu hv hg e))
  · rcases get j u hu with ⟨e1, e2⟩ | ⟨hjk, hu2⟩
    · rcases get j' u' hu' with ⟨e3, e4⟩ | ⟨hjk', hu3⟩
      · exact absurd (e1.trans e3.symm) hj
      · intro e
        rw [e2] at hg
        exact sepk j' u' g hjk' hu3 e hg
    · rcases get j' u' hu' with ⟨e3, e4⟩ | ⟨hjk', hu3⟩
      · rw [e4]
        exact sepk j u g hjk hu2 hg
      · exact h.sep j j' u u' g hj hu2 hu3 hg
  · rcases get j u hu with ⟨rfl, rfl⟩ | ⟨hjk, hu⟩
    · exact hO' g hg
    · exact hO g (h.own.2.2 j u g hu hg)
end Go.Proofs.YtnjmplapjnnjdaaGreat

/- Buckets: the walk of Pop. -/
namespace Go.Proofs.YtnjmplapjnnjdaaGreat
open Go.RowKit

theorem run_slHi {P : Program} {w : World} {t e g o n cap j : Nat} {k' : IntKind} [S : SlTy P t e] {z : Value} {bytes : Nat} [T : ElTy P e z 1 bytes] (h2 : j ≤ cap) : (Instr.sliceAt t (.slice (some ⟨g, o, none⟩) n cap) none (some (.int k' (j : Int))) none).run P w = .ok (.slice (some ⟨g, o, none⟩) j cap) w := by
  have hi1 : ¬ cap < j := by omega
  obtain ⟨i, hi, _⟩ := T.out
  simp [Instr.sliceAt, Instr.slice, Sem.run_bind, run_underlying S.out, Instr.sliceBounds, Instr.sliceBound, asIntOf, Sem.run_pure, hi1, sizeOf, typeInfo, hi, Addr.add, show j ≤ cap from h2]
theorem pure_slHi {P : Program} {a : Act} {w : World} {d t e g o n cap j : Nat} {x hi : Operand} {k' : IntKind} {ty : TypeId} {ps : String} {af : Array Edge} {gd : Option (Nat × Bool)} {z : Value} {bytes : Nat} [S : SlTy P t e] [T : ElTy P e z 1 bytes]
    (hx : a.eval x = .slice (some ⟨g, o, none⟩) n cap) (hh : a.eval hi = .int k' (j : Int)) (h2 : j ≤ cap) :
    (execOp a.eval ⟨some d, .slice t x none (some hi) none, ty, ps, af, gd⟩).run P w = .ok (.value (.slice (some ⟨g, o, none⟩) j cap)) w := by
  have hr := run_slHi (P := P) (w := w) (t := t) (e := e) (g := g) (o := o) (n := n) (z := z) (bytes := bytes) (k' := k') h2
  unfold execOp
  simp [hx, hh, Sem.run_bind, hr]
def BkPopPost (b : Bk) (bb gr low : Nat) (Own : Nat → Prop) (w : World) (e : Ending) (w' : World) : Prop :=
  ∃ (x : Nat × Int) (top : Nat) (vs : List Value), b.I[b.nextIx]? = some x ∧ e = .returned (.tuple #[.int .i64 (x.1 : Int), .int .i64 (x.2 / b.D), .bool true]) ∧ BkIn w' { b with I := b.I.eraseIdx b.nextIx } bb gr low top vs Own ∧ Turn (fun k => k = bb ∨ k = gr) w w'
set_option maxRecDepth 5000 in
set_option maxHeartbeats 1000000 in
theorem bk_Pop {b : Bk} (hb : b.Ok) {bb gr low top : Nat} {vs : List Value} {Own : Nat → Prop} (hne : b.I ≠ []) (w : World) (h : BkIn w b bb gr low top vs Own) : Calls Tryz.prog 72 #[.pointer (some ⟨bb, 0, none⟩)] w (BkPopPost b bb gr low Own w) := by
  obtain ⟨x, hx, hf⟩ := hb.next hne
  have hK1 := hb.kpos.1
  have hK2 := hb.kpos.2.1
  have hbase := hb.base
  have HX := Lib.hid hx
  have hil : 0 < b.I.length := by cases hI : b.I with | nil => exact absurd hI hne | cons x l => simp
  have hin := hb.len
  have hc1 := hb.c1
  have hel : (b.I.eraseIdx b.nextIx).length = b.I.length - 1 := List.length_eraseIdx_of_lt (by rcases Nat.lt_or_ge b.nextIx b.I.length with h | h; exact h; rw [List.getElem?_eq_none h] at hx; cases hx)
  clear hx
  go_enter Tryz.func72, Tryz.ntmps72
  go_wp2_with fail
  refine (bk_Highest hb hne w h).mono ?_
  rintro e w1 ⟨top, rfl, h1, hex, T1⟩
  obtain ⟨e1, e2, e3, e4⟩ := hf top hex (fun y hy => (h1.rng y hy).2)
  have htl := h1.top_lt
  obtain ⟨a, c, hv, cr⟩ := h1.row htl
  obtain ⟨ys, hys⟩ : ∃ ys, ys = ({ b with I := b.I.eraseIdx b.nextIx } : Bk).row top := ⟨_, rfl⟩
  rw [← hys] at e3
  have hlen : (b.row top).length = ys.length + 1 := by rw [e3]; simp
  have hro := h1.rows top _ hv
  obtain ⟨g, off, c', hsl, cx⟩ := hro.at_ (i := ys.length) (x := (x.1 : Int)) (by rw [e3, List.getElem?_append_right (Nat.le_refl _), Nat.sub_self]; rfl)
  obtain ⟨rfl, rfl⟩ : a = some ⟨g, off, none⟩ ∧ c = c' := by simpa using hsl
  have hyl : ys.length ≤ 70000 := by
    have h2 : (b.row top).length ≤ b.I.length := by unfold Bk.row; rw [List.length_map]; exact List.length_filter_le ..
    omega
  have hro2 := hro.head e3
  rw [hlen] at hv cr
  have hcap : ys.length + 1 ≤ c := by
    rcases hro with ⟨h, _⟩ | ⟨g', off', cap, cur, hv', hg, h1', h2', h3'⟩
    · cases h
    · obtain ⟨_, rfl⟩ : _ ∧ c = cap := by simpa using hv'
      omega
  have HE2 := Lib.hid e2
  have HE4 := Lib.hid e4
  have HYS := Lib.hid hys
  have HLEN := Lib.hid hlen
  have HRG := Lib.hid (fun y (hy : y ∈ b.I.eraseIdx b.nextIx) => h1.rng y (mem_erase hy))
  have HEL := Lib.hid hel
  have hw0 : IntKind.i64.wrap ((top : Int) + b.base - b.base) = (top : Int) := by rw [IntWalk.i64_in _ (by omega)]; omega
  have hw1 : IntKind.i64.wrap (((ys.length + 1 : Nat) : Int) - 1) = (ys.length : Int) := by rw [IntWalk.i64_in _ (by omega)]; omega
  have hw2 : IntKind.i64.wrap ((ys.length : Int) + 1 - 1) = (ys.length : Int) := by rw [IntWalk.i64_in _ (by omega)]; omega
  have hw3 : IntKind.i64.wrap (ys.length : Int) = (ys.length : Int) := IntWalk.i64_in _ (by omega)
  have hw4 : IntKind.i64.wrap (top : Int) = (top : Int) := IntWalk.i64_in _ (by omega)
  have t0 : (top : Int) < (b.K : Int) := by omega
  clear hf hex e1 e2 e3 e4 hys hlen hsl hro hel h
  have hA := h1.at_
  have c4 := hA.c4
  have c5 := hA.c5
  go_upto_region 4 with fail
  have q4 := KeptW.cell c4
  have q5 := KeptW.cell c5
  have qr := KeptW.cell cr
  (refine wp_region_kept_tail 12 (by kernel_rfl) (by kernel_rfl) ?_; simp only [List.take_succ_cons, List.take_zero, List.drop_succ_cons, List.drop_zero])
  repeat first
    | go_big_quiet_step (fail)
  refine wpQuiet_nil ?_
  intro w2 B2
  have h2 := h1.kept B2
  have cx2 : w2.cell? ⟨g, off + ys.length, none⟩ = some (.int .i64 (x.1 : Int)) := KeptW.cell cx ⟨w2, B2⟩
  clear q4 q5 qr c4 c5 hA
  go_upto_region 6 with fail
  (refine wp_region_treeI (fun W => BkIn W b bb gr low top vs Own) 16 (.pure 0 (.pure 1 (.pure 2 (.pure 3 (.pure 4 (.pure 5 (.pure 6 (.pure 7 (.pure 8 (.pure 9 (.pure 10 (.pure 11 (.pure 12 (.pure 13 (.pure 14 (.pure 15 (.one 16 .nil))))))))))))))))) (by kernel_rfl) (by kernel_rfl) ?_; simp only [List.getD_cons_zero, List.getD_cons_succ, wpOTI])
  intro w3 B3
  have h3 := h2.kept B3
  iterate 14
    refine ⟨fun _ => h3, _, fun W hI => by have c4 := hI.at_.c4; have c5 := hI.at_.c5; go_simp; first | done | rfl, ?_⟩
    try simp only [put_list, List.set_cons_zero, List.set_cons_succ]
  refine ⟨fun _ => h3, .slice (some ⟨g, off, none⟩) ys.length c, fun W hI => pure_slHi rfl rfl (by omega), ?_⟩
  try simp only [put_list, List.set_cons_zero, List.set_cons_succ]
  refine ⟨fun _ => h3, .pointer (some ⟨gr, top, none⟩), fun W hI => by go_simp; first | done | rfl, ?_⟩
  try simp only [put_list, List.set_cons_zero, List.set_cons_succ]
  refine ⟨fun _ => h3, ?_⟩
  have cg : w3.cell? ⟨gr, top, none⟩ = some (.slice (some ⟨g, off, none⟩) (ys.length + 1) c) := by rw [h3.arr.box.cell, List.getElem?_toArray]; exact hv
  have fg : w3.frozen? ⟨gr, top, none⟩ = false := h3.arr.box.frozen top
  have hro3 : RowO w3 (.slice (some ⟨g, off, none⟩) ys.length c) ys := hro2.block fun k hk => by
    have hk : g = k := by simpa [Value.ownBlock] using hk
    subst hk
    exact (bOn B2 B3).block g (lt_of_cell cx)
  clear hw0 hw1 hw2 hw3 hw4 hK1
  have hW : BkW (w3.setCell ⟨gr, top, none⟩ (.slice (some ⟨g, off, none⟩) ys.length c)) b bb gr b.I.length low top (vs.set top (.slice (some ⟨g, off, none⟩) ys.length c)) (fun j => if j = top then ys else b.row j) Own :=
    h3.toW.put hv hro3 (fun _ _ _ => rfl) (.inl rfl) (fun _ h => h) (fun k hk => h3.own.2.2 top _ k hv (by rw [← hk]; rfl))
  have T4 : Turn (fun k => k = bb ∨ k = gr) w (w3.setCell ⟨gr, top, none⟩ (.slice (some ⟨g, off, none⟩) ys.length c)) := (((T1.mono fun k _ hk => .inl hk).trans (Turn.ofBelow B2)).trans (Turn.ofBelow B3)).trans (Turn.setCell _ _ _ (.inr rfl))
  go_upto_region 7 with fail
  obtain ⟨w4, hw4⟩ : ∃ W, W = w3.setCell ⟨gr, top, none⟩ (.slice (some ⟨g, off, none⟩) ys.length c) := ⟨_, rfl⟩
  rw [← hw4] at hW T4 ⊢
  have c6 : w4.cell? ⟨bb, 6, none⟩ = some (.int .i64 (b.I.length : Int)) := hW.box.box.cell 6
  have f6 : w4.frozen? ⟨bb, 6, none⟩ = false := hW.box.box.frozen 6
  obtain ⟨n, hn⟩ : ∃ n, b.I.length = n + 1 := ⟨b.I.length - 1, by omega⟩
  rw [hn] at c6
  have hW2 : BkW (w4.setCell ⟨bb, 6, none⟩ (.int .i64 (n : Int))) { b with I := b.I.eraseIdx b.nextIx } bb gr n low top (vs.set top (.slice (some ⟨g, off, none⟩) ys.length c)) (fun j => if j = top then ys else b.row j) Own := hW.cellB 6 _ rfl rfl
  have hI := hW2.toIn (by show n = (b.I.eraseIdx b.nextIx).length; rw [HEL.out, hn]; rfl) (fun k _ => (by
    by_cases hk : k = top
    · rw [if_pos hk, hk]; exact HYS.out
    · rw [if_neg hk]; exact (HE4.out k hk).symm)) h3.low_lt h3.top_lt HRG.out
  have T5 := T4.trans (Turn.setCell w4 ⟨bb, 6, none⟩ (.int .i64 (n : Int)) (H := fun k => k = bb ∨ k = gr) (.inl rfl))
  have HN := Lib.hid hn
  have hn2 : (n : Int) + 1 ≤ 70000 := by omega
  have hil' := hil
  clear hn hil hin hw4 hW hW2 T4 cg fg
  go_wp2
  refine bodyPost_ret (results_tmp3 rfl rfl rfl rfl) rfl ?_
  refine (show BkPopPost _ _ _ _ _ _ _ _ from ⟨x, top, _, HX.out, ?_, hI, T5⟩)
  rw [HE2.out]
  rfl
end Go.Proofs.YtnjmplapjnnjdaaGreat

/- Orders as a tree: steps that hold in every world, steps that hold under a word until the operation s comes, and single operations. No program's text is named here. -/
namespace Go.Proofs.YtnjmplapjnnjdaaGreat
open Go.RowKit

inductive OV where
  | nil
  | free (i : Nat) (t : OV)
  | pure (i : Nat) (t : OV)
  | one (i : Nat) (t : OV)
  | two (i : Nat) (t : OV) (j : Nat) (u : OV)
def OV.len : OV → Nat
  | .nil => 0
  | .free _ t => t.len + 1
  | .pure _ t => t.len + 1
  | .one _ t => t.len + 1
  | .two _ t _ _ => t.len + 1
section
variable {P : Program} {ops : Array Oper} {md : Region.Mode} {Q : Exit → Act → World → Prop} {I : World → Prop} {s : Nat}
theorem wpAnyI_free {i : Nat} {oi : Oper} {v : Value} (h0 : ops[i]? = some oi) (hne : i ≠ s) (hsel : Region.noSelect ops = true) (hQ : ∀ e a w, Q e a w → e = .normal) : ∀ (f : Nat) (listed : Array Bool) (a : Act) (w : World),
    (∀ j oj, ops[j]? = some oj → j ≠ i → listed.getD j true = false → (∀ e ∈ oj.after, Region.binds md e = true → e.on ≠ i) → oi.apart ops oj = true) → i ∈ Region.ready md ops listed →
    Region.wanted oi (yielded ops a.tmps) = true → (∀ w, (execOp a.eval oi).run P w = .ok (.value v) w) → wpAnyI P md ops I s Q f (listed.setIfInBounds i true) (a.put oi.dst v) w → wpAnyI P md ops I s Q (f + 1) listed a w := by
  have op0 : ∀ (K : Act → World → Prop) (a : Act) (w : World), Region.wanted oi (yielded ops a.tmps) = true → (∀ w, (execOp a.eval oi).run P w = .ok (.value v) w) → K (a.put oi.dst v) w → wpOp P ops Q i K a w := fun K a w hwt hv hK => by
    unfold wpOp
    rw [h0]
    simp only
    rw [if_pos hwt]
    refine .inl ?_
    unfold Oper.wp
    rw [hv w]
    exact hK
  intro f
  induction f with
  | zero =>
    intro listed a w _ hr hwt hv H
    refine ⟨fun hh => wpAnyI_I H (by rw [getD_set_ne true hne]; exact hh), fun hh => (by rw [hh] at hr; cases hr), fun j hj => ?_⟩
    by_cases hj0 : j = i
    · subst hj0; exact op0 _ _ _ hwt hv H
    · have := ready_mono hj hj0
      rw [H.2.1] at this
      cases this
  | succ f ih =>
    intro listed a w hfree hr hwt hv H
    refine ⟨fun hh => wpAnyI_I H (by rw [getD_set_ne true hne]; exact hh), fun hh => (by rw [hh] at hr; cases hr), fun j hj => ?_⟩
    by_cases hj0 : j = i
    · subst hj0; exact op0 _ _ _ hwt hv H
    obtain ⟨hjun, oj, hoj, hall⟩ := mem_ready.1 hj
    have hnot : ∀ e ∈ oj.after, Region.binds md e = true → e.on ≠ i := fun e he hb heq => by
      have h1 := hall e he hb
      have h2 := (mem_ready.1 hr).1
      rw [heq, getD_both h2] at h1
      cases h1
    have hap := hfree j oj hoj hj0 hjun hnot
    have step := wpOp_putW hoj (Region.noSelect_spec hsel j oj · · hoj) (Region.noSelect_spec hsel i oi · · h0) hap hQ (H.2.2 j (ready_mono hj hj0))
    refine wpOp_mono (fun a' w' ⟨e1, e2, hk⟩ => ?_) step
    refine ih (listed.setIfInBounds j true) a' w' (fun k ok hk2 hk0 hun hno => ?_) (ready_mono hr (Ne.symm hj0)) (e2.trans hwt) (fun w => by rw [e1]; exact hv w) ?_
    · refine hfree k ok hk2 hk0 ?_ hno
      by_cases hjk : j = k
      · subst hjk; exact hjun
      · rwa [getD_set_ne true hjk] at hun
    · rw [Array.setIfInBounds_comm _ _ hj0]
      exact hk
def wpOVI (P : Program) (ops : Array Oper) (Q : Exit → Act → World → Prop) (l : List Oper) (I : World → Prop) (s : Nat) : OV → Bool → Act → World → Prop
  | .nil, live, a, w => (live = true → I w) ∧ Q .normal a w
  | .pure i t, live, a, w => (live = true → I w) ∧ ∃ v, (∀ w, I w → (execOp a.eval (l.getD i default)).run P w = .ok (.value v) w) ∧ wpOVI P ops Q l I s t live (a.put (l.getD i default).dst v) w
  | .free i t, live, a, w => Region.wanted (l.getD i default) (yielded ops a.tmps) = true ∧ ∃ v, (∀ w, (execOp a.eval (l.getD i default)).run P w = .ok (.value v) w) ∧ wpOVI P ops Q l I s t live (a.put (l.getD i default).dst v) w
  | .one i t, live, a, w => (live = true → I w) ∧ wpList P ops (fun e a w => e = .normal ∧ wpOVI P ops Q l I s t (live && i != s) a w) [l.getD i default] a w
  | .two i t j u, live, a, w => (live = true → I w) ∧ wpList P ops (fun e a w => e = .normal ∧ wpOVI P ops Q l I s t (live && i != s) a w) [l.getD i default] a w ∧ wpList P ops (fun e a w => e = .normal ∧ wpOVI P ops Q l I s u (live && j != s) a w) [l.getD j default] a w
def ovI (md : Region.Mode) (ops : Array Oper) (s : Nat) : OV → Array Bool → Bool
  | .nil, d => (Region.ready md ops d).isEmpty
  | .pure i t, d => (Region.ready md ops d).contains i && (Region.free md ops d i && (((ops[i]?).map (·.guard.isNone)).getD false && (Region.waitsFor md ops s i && (decide (i ≠ s) && (!d.getD s true && ovI md ops s t (d.setIfInBounds i true))))))
  | .free i t, d => (Region.ready md ops d).contains i && (Region.free md ops d i && (decide (i ≠ s) && ovI md ops s t (d.setIfInBounds i true)))
  | .one i t, d => (Region.ready md ops d == [i]) && ovI md ops s t (d.setIfInBounds i true)
  | .two i t j u, d => (Region.ready md ops d == [i, j]) && (ovI md ops s t (d.setIfInBounds i true) && (ovI md ops s u (d.setIfInBounds j true) && decide (t.len = u.len)))
theorem wpAnyI_of_ov {l : List Oper} (hl : ∀ i : Nat, ops[i]? = l[i]?) (hsel : Region.noSelect ops = true) {os : Oper} (hs : ops[s]? = some os) : ∀ (t : OV) (d : Array Bool) (a : Act) (w : World), ovI md ops s t d = true → wpOVI P ops Q l I s t (!d.getD s true) a w → wpAnyI P md ops I s (OnlyNormal Q) t.len d a w
  | .nil, d, a, w, hB, h => ⟨fun hh => h.1 (by rw [hh]; rfl), by simpa [ovI] using hB, rfl, h.2⟩
  | .one i t, d, a, w, hB, h => by
    simp only [ovI, Bool.and_eq_true, beq_iff_eq] at hB
    obtain ⟨h1, h2⟩ := hB
    refine ⟨fun hh => h.1 (by rw [hh]; rfl), fun hh => (by rw [hh] at h1; cases h1), fun j hj => ?_⟩
    rw [h1] at hj
    obtain rfl := List.mem_singleton.1 hj
    have hr : j ∈ Region.ready md ops d := by rw [h1]; simp
    obtain ⟨hun, o, ho, _⟩ := mem_ready.1 hr
    have ho' : l.getD j default = o := by rw [hl j] at ho; rw [List.getD_eq_getElem?_getD, ho]; rfl
    unfold wpOVI at h
    rw [ho'] at h
    exact wpOp_of_list ho (fun a w hh => wpAnyI_of_ov hl hsel hs t _ a w h2 (by rw [live_set hun]; exact hh)) h.2
  | .two i t j u, d, a, w, hB, h => by
    simp only [ovI, Bool.and_eq_true, beq_iff_eq, decide_eq_true_eq] at hB
    obtain ⟨h1, h2, h3, h4⟩ := hB
    unfold wpOVI at h
    refine ⟨fun hh => h.1 (by rw [hh]; rfl), fun hh => (by rw [hh] at h1; cases h1), fun k hk => ?_⟩
    have hr : k ∈ Region.ready md ops d := hk
    obtain ⟨hun, o, ho, _⟩ := mem_ready.1 hr
    have ho' : l.getD k default = o := by rw [hl k] at ho; rw [List.getD_eq_getElem?_getD, ho]; rfl
    rw [h1] at hk
    rcases List.mem_cons.1 hk with rfl | hk
    · rw [ho'] at h
      exact wpOp_of_list ho (fun a w hh => wpAnyI_of_ov hl hsel hs t _ a w h2 (by rw [live_set hun]; exact hh)) h.2.1
    · obtain rfl := List.mem_singleton.1 hk
      rw [ho'] at h
      exact wpOp_of_list ho (fun a w hh => by have := wpAnyI_of_ov hl hsel hs u _ a w h3 (by rw [live_set hun]; exact hh); rwa [← h4] at this) h.2.2
  | .pure i t, d, a, w, hB, h => by
    simp only [ovI, Bool.and_eq_true, decide_eq_true_eq, Bool.not_eq_true'] at hB
    obtain ⟨h1, h2, h3, h4, h5, h6, h7⟩ := hB
    have hr : i ∈ Region.ready md ops d := by simpa using h1
    obtain ⟨hun, o, ho, _⟩ := mem_ready.1 hr
    have ho' : l.getD i default = o := by rw [hl i] at ho; rw [List.getD_eq_getElem?_getD, ho]; rfl
    have hg : o.guard = none := by rw [ho] at h3; simpa using h3
    unfold wpOVI at h
    rw [ho'] at h
    obtain ⟨hI, v, hv, hn⟩ := h
    exact wpAnyI_pure ho hg hs h4 h5 hsel (fun _ _ _ h => h.1) t.len d a w (Region.free_spec ho h2) hr hv (hI (by rw [h6]; rfl)) h6 (wpAnyI_of_ov hl hsel hs t _ _ _ h7 (by rw [live_set hun]; simp only [bne_iff_ne, ne_eq, h5, not_false_eq_true, Bool.and_true, (by simpa using h5 : (i != s) = true)]; exact hn))
  | .free i t, d, a, w, hB, h => by
    simp only [ovI, Bool.and_eq_true, decide_eq_true_eq] at hB
    obtain ⟨h1, h2, h5, h7⟩ := hB
    have hr : i ∈ Region.ready md ops d := by simpa using h1
    obtain ⟨hun, o, ho, _⟩ := mem_ready.1 hr
    have ho' : l.getD i default = o := by rw [hl i] at ho; rw [List.getD_eq_getElem?_getD, ho]; rfl
    unfold wpOVI at h
    rw [ho'] at h
    obtain ⟨hwt, v, hv, hn⟩ := h
    exact wpAnyI_free ho h5 hsel (fun _ _ _ h => h.1) t.len d a w (Region.free_spec ho h2) hr hwt hv (wpAnyI_of_ov hl hsel hs t _ _ _ h7 (by rw [live_set hun]; simp only [bne_iff_ne, ne_eq, h5, not_false_eq_true, Bool.and_true, (by simpa using h5 : (i != s) = true)]; exact hn))
/-- THE LAW. -/
theorem wp_region_treeV {id : Nat} {a : Act} {w : World} {l : List Oper} (I : World → Prop) (s : Nat) (t : OV) (hm : P.follows .mixedOrders = true) (hB : (Region.noSelect l.toArray && (decide (s < l.toArray.size) && (ovI .any l.toArray s t (Array.replicate l.toArray.size false) && decide (t.len = l.toArray.size)))) = true)
    (h : ∀ w1, Ext w w1 → wpOVI P l.toArray Q l I s t true a w1) : (Code.region id l.toArray true).wp P Q a w := by
  simp only [Bool.and_eq_true, decide_eq_true_eq] at hB
  obtain ⟨hsel, hs, hord, hsz⟩ := hB
  refine wp_region_any hm ?_
  refine wpAny_Q (Q := OnlyNormal Q) (fun _ _ _ h => h.2) _ _ _ _ ?_
  have hlive : (!(Array.replicate l.toArray.size false).getD s true) = true := by
    have : s < l.length := by simpa using hs
    simp [Array.getElem?_replicate, this]
  have := wpAnyI_of_ov (P := P) (md := .any) (Q := Q) (I := I) (l := l) (fun i => by simp) hsel (Array.getElem?_eq_getElem hs) t _ a _ hord (by rw [hlive]; exact h _ (Below.refl _ w).drew)
  rw [hsz] at this
  exact wpAny_of_I _ _ _ _ this
end
end Go.Proofs.YtnjmplapjnnjdaaGreat
