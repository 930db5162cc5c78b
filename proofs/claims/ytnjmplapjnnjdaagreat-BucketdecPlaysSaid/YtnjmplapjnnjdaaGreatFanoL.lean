import Derived.Test.YtnjmplapjnnjdaaGreatSrPutB
import Derived.Test.YtnjmplapjnnjdaaGreatSr
import Derived.Test.YtnjmplapjnnjdaaGreatLink
set_option linter.unusedSimpArgs false
set_option linter.unusedVariables false
set_option linter.unnecessarySimpa false
/- The search of layer 17: what the rows hold and what the list holds. No walk. -/
namespace Go.Proofs.YtnjmplapjnnjdaaGreat
open Go.RowKit

structure Rel (D : Int) (most : Nat) (s : Bq) (b : Bk) (m : Sr) (ids : List Nat) (P : Nat → Ent → Prop) : Prop where
  D_ : b.D = D
  cap : b.cap = most
  I : b.I = ids.zip (s.L.map fun e => e.n.m)
  len : ids.length = s.L.length
  sum : ids.length + m.frees.length = m.ats.length
  lt : ∀ i ∈ ids ++ m.frees, i < m.ats.length
  nd : (ids ++ m.frees).Nodup
  ways : ∀ (j i : Nat) (e : Ent), ids[j]? = some i → s.L[j]? = some e → ∃ wb, m.ats[i]? = some (some wb) ∧ P wb e
  fnd : (s.found = none ∧ m.fnd = none) ∨ ∃ e wb, s.found = some e ∧ m.fnd = some wb ∧ P wb e
  mark : b.mark = s.gone ∧ b.mkd = s.some_
  drops : m.drops = s.drops
  most_ : m.ats.length ≤ most + 1
theorem Rel.mono {D : Int} {most : Nat} {s : Bq} {b : Bk} {m : Sr} {ids : List Nat} {P P' : Nat → Ent → Prop} (h : Rel D most s b m ids P) (hP : ∀ wb e, P wb e → P' wb e) : Rel D most s b m ids P' :=
  ⟨h.D_, h.cap, h.I, h.len, h.sum, h.lt, h.nd, fun j i e h1 h2 => (h.ways j i e h1 h2).imp fun wb h => ⟨h.1, hP _ _ h.2⟩, h.fnd.imp_right fun ⟨e, wb, h1, h2, h3⟩ => ⟨e, wb, h1, h2, hP _ _ h3⟩, h.mark, h.drops, h.most_⟩
theorem Rel.keys {D : Int} {most : Nat} {s : Bq} {b : Bk} {m : Sr} {ids : List Nat} {P : Nat → Ent → Prop} (h : Rel D most s b m ids P) : b.keys = keysOf D s.L := by
  unfold Bk.keys keysOf
  rw [h.D_, h.I, show (fun x : Nat × Int => x.2 / D) = (fun y => y / D) ∘ Prod.snd from rfl, ← List.map_map, List.map_snd_zip (by rw [List.length_map, h.len]; exact Nat.le_refl _), List.map_map]
  rfl
theorem Rel.ilen {D : Int} {most : Nat} {s : Bq} {b : Bk} {m : Sr} {ids : List Nat} {P : Nat → Ent → Prop} (h : Rel D most s b m ids P) : b.I.length = s.L.length := by
  rw [h.I, List.length_zip, List.length_map, h.len, Nat.min_self]
theorem Rel.next {D : Int} {most : Nat} {s : Bq} {b : Bk} {m : Sr} {ids : List Nat} {P : Nat → Ent → Prop} (h : Rel D most s b m ids P) : b.nextIx = nextIx D s.L := by
  unfold Bk.nextIx nextIx
  rw [h.keys, h.ilen]
theorem Rel.low {D : Int} {most : Nat} {s : Bq} {b : Bk} {m : Sr} {ids : List Nat} {P : Nat → Ent → Prop} (h : Rel D most s b m ids P) : b.lowIx = lowIx D s.L := by
  unfold Bk.lowIx lowIx
  rw [h.keys, h.ilen]
theorem Rel.at_ {D : Int} {most : Nat} {s : Bq} {b : Bk} {m : Sr} {ids : List Nat} {P : Nat → Ent → Prop} (h : Rel D most s b m ids P) {j : Nat} {x : Nat × Int} (hx : b.I[j]? = some x) : ∃ e, s.L[j]? = some e ∧ ids[j]? = some x.1 ∧ x.2 = e.n.m := by
  rw [h.I] at hx
  obtain ⟨a, c⟩ := x
  rw [List.getElem?_zip_eq_some] at hx
  obtain ⟨h1, h2⟩ := hx
  rw [List.getElem?_map] at h2
  cases he : s.L[j]? with
  | none => rw [he] at h2; cases h2
  | some e =>
    rw [he] at h2
    exact ⟨e, rfl, h1, (Option.some.inj h2).symm⟩
theorem zip_erase {α β : Type} (l : List α) (k : List β) (j : Nat) : (l.zip k).eraseIdx j = (l.eraseIdx j).zip (k.eraseIdx j) := by
  induction l generalizing k j with
  | nil => simp
  | cons a l ih =>
    cases k with
    | nil => simp
    | cons c k =>
      cases j with
      | zero => rfl
      | succ j => simp [ih]
theorem map_erase {α β : Type} (f : α → β) (l : List α) (j : Nat) : (l.eraseIdx j).map f = (l.map f).eraseIdx j := by
  induction l generalizing j with
  | nil => simp
  | cons a l ih =>
    cases j with
    | zero => rfl
    | succ j => simp [ih]
theorem erase_at {α : Type} {l : List α} {j k : Nat} {x : α} (h : (l.eraseIdx j)[k]? = some x) : l[if k < j then k else k + 1]? = some x := by
  rw [List.getElem?_eraseIdx] at h
  split at h <;> rename_i hk
  · rw [if_pos hk]; exact h
  · rw [if_neg hk]; exact h
theorem Rel.erase {D : Int} {most : Nat} {s : Bq} {b : Bk} {m : Sr} {ids : List Nat} {P : Nat → Ent → Prop} (h : Rel D most s b m ids P) {j i : Nat} (hi : ids[j]? = some i) :
    Rel D most { s with L := s.L.eraseIdx j } { b with I := b.I.eraseIdx j } { m with ats := m.ats.set i none, frees := m.frees ++ [i] } (ids.eraseIdx j) P := by
  have hj : j < ids.length := (List.getElem?_eq_some_iff.1 hi).1
  obtain ⟨p1, p2⟩ := parts_at hi
  have hperm : (ids.eraseIdx j ++ (m.frees ++ [i])).Perm (ids ++ m.frees) := by
    rw [p2]
    conv => rhs; rw [p1]
    rw [← List.append_assoc]
    refine (List.perm_append_singleton _ _).trans ?_
    rw [List.append_assoc (ids.take j) (i :: _)]
    refine List.Perm.symm ?_
    rw [List.cons_append]
    refine List.perm_middle.trans ?_
    rw [List.append_assoc]
  refine ⟨h.D_, h.cap, ?_, ?_, ?_, fun k hk => ?_, ?_, fun j' i' e h1 h2 => ?_, h.fnd, h.mark, h.drops, by show (m.ats.set i none).length ≤ _; rw [List.length_set]; exact h.most_⟩
  · show b.I.eraseIdx j = _
    rw [h.I, zip_erase, map_erase]
  · show (ids.eraseIdx j).length = (s.L.eraseIdx j).length
    rw [List.length_eraseIdx, List.length_eraseIdx, h.len]
  · show (ids.eraseIdx j).length + (m.frees ++ [i]).length = (m.ats.set i none).length
    rw [List.length_eraseIdx_of_lt hj, List.length_append, List.length_singleton, List.length_set]
    have := h.sum
    omega
  · show k < (m.ats.set i none).length
    rw [List.length_set]
    exact h.lt k (hperm.mem_iff.1 hk)
  · exact hperm.nodup_iff.2 h.nd
  · have g1 := erase_at h1
    have g2 := erase_at h2
    obtain ⟨wb, hw, hP⟩ := h.ways _ _ _ g1 g2
    refine ⟨wb, ?_, hP⟩
    show (m.ats.set i none)[i']? = _
    rw [List.getElem?_set_ne, hw]
    rintro rfl
    have hnd : ids.Nodup := (List.nodup_append.1 h.nd).1
    obtain ⟨hk, ek⟩ := List.getElem?_eq_some_iff.1 g1
    obtain ⟨hj', ej⟩ := List.getElem?_eq_some_iff.1 hi
    have := (List.getElem_inj hnd).1 (ek.trans ej.symm)
    split at this <;> omega
theorem Rel.addOld {D : Int} {most : Nat} {s : Bq} {b : Bk} {m : Sr} {ids : List Nat} {P : Nat → Ent → Prop} (h : Rel D most s b m ids P) {fr : List Nat} {id wb : Nat} {x : Ent} (hf : m.frees = fr ++ [id]) (hP : P wb x) :
    Rel D most { s with L := s.L ++ [x] } (b.more id x.n.m) { m with ats := m.ats.set id (some wb), frees := fr } (ids ++ [id]) P := by
  have hperm : ((ids ++ [id]) ++ fr).Perm (ids ++ m.frees) := by
    rw [hf, List.append_assoc]
    exact List.Perm.append_left _ (List.perm_append_comm)
  have hid : id ∈ m.frees := by rw [hf]; simp
  refine ⟨h.D_, h.cap, ?_, ?_, ?_, fun k hk => ?_, ?_, fun j' i' e h1 h2 => ?_, h.fnd, h.mark, h.drops, by show (m.ats.set id _).length ≤ _; rw [List.length_set]; exact h.most_⟩
  · show b.I ++ [(id, x.n.m)] = (ids ++ [id]).zip ((s.L ++ [x]).map _)
    rw [List.map_append, List.zip_append (by rw [List.length_map, h.len]), h.I]
    rfl
  · show (ids ++ [id]).length = (s.L ++ [x]).length
    rw [List.length_append, List.length_append, h.len]; rfl
  · show (ids ++ [id]).length + fr.length = (m.ats.set id _).length
    have := h.sum
    rw [hf] at this
    simp at this ⊢
    omega
  · show k < (m.ats.set id _).length
    rw [List.length_set]
    exact h.lt k (hperm.mem_iff.1 hk)
  · exact hperm.nodup_iff.2 h.nd
  · have hlen := h.len
    rcases Nat.lt_or_ge j' ids.length with hj | hj
    · have g1 : ids[j']? = some i' := by rwa [List.getElem?_append_left hj] at h1
      have g2 : s.L[j']? = some e := by
        have h2' : (s.L ++ [x])[j']? = some e := h2
        rwa [List.getElem?_append_left (by omega)] at h2'
      obtain ⟨wb', hw, hP'⟩ := h.ways _ _ _ g1 g2
      refine ⟨wb', ?_, hP'⟩
      show (m.ats.set id _)[i']? = _
      rw [List.getElem?_set_ne, hw]
      rintro rfl
      exact (List.nodup_append.1 h.nd).2.2 _ (List.mem_of_getElem? g1) _ hid rfl
    · have h2' : (s.L ++ [x])[j']? = some e := h2
      rw [List.getElem?_append_right hj] at h1
      rw [List.getElem?_append_right (by omega)] at h2'
      have hj0 : j' - ids.length = 0 := by
        rcases Nat.eq_zero_or_pos (j' - ids.length) with h0 | h0
        · exact h0
        · rw [List.getElem?_eq_none (by simp; omega)] at h1; cases h1
      rw [hj0] at h1
      rw [show j' - s.L.length = 0 by omega] at h2'
      obtain rfl := Option.some.inj h1
      obtain rfl := Option.some.inj h2'
      exact ⟨wb, by show (m.ats.set id _)[id]? = _; rw [List.getElem?_set_self (h.lt id (List.mem_append_right _ hid))], hP⟩
theorem Rel.addNew {D : Int} {most : Nat} {s : Bq} {b : Bk} {m : Sr} {ids : List Nat} {P : Nat → Ent → Prop} (h : Rel D most s b m ids P) {wb : Nat} {x : Ent} (hf : m.frees = []) (hl : s.L.length ≤ most) (hP : P wb x) :
    Rel D most { s with L := s.L ++ [x] } (b.more m.ats.length x.n.m) { m with ats := m.ats ++ [some wb] } (ids ++ [m.ats.length]) P := by
  have hsum := h.sum
  have hlen := h.len
  have hlt := h.lt
  have hnd := h.nd
  rw [hf, List.append_nil] at hlt hnd
  rw [hf] at hsum
  simp at hsum
  refine ⟨h.D_, h.cap, ?_, ?_, ?_, fun k hk => ?_, ?_, fun j' i' e h1 h2 => ?_, h.fnd, h.mark, h.drops, by show (m.ats ++ [some wb]).length ≤ _; rw [List.length_append, List.length_singleton]; omega⟩
  · show b.I ++ [(m.ats.length, x.n.m)] = (ids ++ [m.ats.length]).zip ((s.L ++ [x]).map _)
    rw [List.map_append, List.zip_append (by rw [List.length_map, h.len]), h.I]
    rfl
  · show (ids ++ [m.ats.length]).length = (s.L ++ [x]).length
    rw [List.length_append, List.length_append, h.len]; rfl
  · show (ids ++ [m.ats.length]).length + m.frees.length = (m.ats ++ [some wb]).length
    rw [hf]
    simp
    omega
  · show k < (m.ats ++ [some wb]).length
    have hk' : k ∈ (ids ++ [m.ats.length]) ++ m.frees := hk
    rw [hf, List.append_nil] at hk'
    rw [List.length_append, List.length_singleton]
    rcases List.mem_append.1 hk' with h | h
    · have := hlt k h; omega
    · rw [List.mem_singleton.1 h]; omega
  · show ((ids ++ [m.ats.length]) ++ m.frees).Nodup
    rw [hf, List.append_nil, List.nodup_append]
    exact ⟨hnd, by simp, fun a ha c hc e => by rw [List.mem_singleton.1 hc] at e; have := hlt a ha; omega⟩
  · rcases Nat.lt_or_ge j' ids.length with hj | hj
    · have g1 : ids[j']? = some i' := by rwa [List.getElem?_append_left hj] at h1
      have g2 : s.L[j']? = some e := by
        have h2' : (s.L ++ [x])[j']? = some e := h2
        rwa [List.getElem?_append_left (by omega)] at h2'
      obtain ⟨wb', hw, hP'⟩ := h.ways _ _ _ g1 g2
      refine ⟨wb', ?_, hP'⟩
      show (m.ats ++ [some wb])[i']? = _
      rw [List.getElem?_append_left (hlt _ (List.mem_of_getElem? g1)), hw]
    · have h2' : (s.L ++ [x])[j']? = some e := h2
      rw [List.getElem?_append_right hj] at h1
      rw [List.getElem?_append_right (by omega)] at h2'
      have hj0 : j' - ids.length = 0 := by
        rcases Nat.eq_zero_or_pos (j' - ids.length) with h0 | h0
        · exact h0
        · rw [List.getElem?_eq_none (by simp; omega)] at h1; cases h1
      rw [hj0] at h1
      rw [show j' - s.L.length = 0 by omega] at h2'
      obtain rfl := Option.some.inj h1
      obtain rfl := Option.some.inj h2'
      exact ⟨wb, by show (m.ats ++ [some wb])[m.ats.length]? = _; rw [List.getElem?_append_right (Nat.le_refl _)]; simp, hP⟩
/-- Both ends of a put. -/
theorem Rel.fits {D : Int} {most : Nat} {s : Bq} {b : Bk} {m : Sr} {ids : List Nat} {P : Nat → Ent → Prop} {x : Ent} (h : Rel D most { s with L := s.L ++ [x] } b m ids P) (hf : b.I.length ≤ b.cap) : Rel D most (s.put D most x) b m ids P := by
  have e : s.put D most x = { s with L := s.L ++ [x] } := by
    unfold Bq.put
    rw [if_pos]
    rw [← h.cap]
    rw [h.ilen] at hf
    exact hf
  rw [e]
  exact h
theorem Rel.goes {D : Int} {most : Nat} {s : Bq} {b : Bk} {m : Sr} {ids : List Nat} {P : Nat → Ent → Prop} {x : Ent} (h : Rel D most { s with L := s.L ++ [x] } b m ids P) (hf : ¬b.I.length ≤ b.cap) {y : Nat × Int} (hy : b.I[b.lowIx]? = some y) :
    Rel D most (s.put D most x) b.drop { m with drops := wrap64 (m.drops + 1), ats := m.ats.set y.1 none, frees := m.frees ++ [y.1] } (ids.eraseIdx b.lowIx) P := by
  obtain ⟨e, h1, h2, h3⟩ := h.at_ hy
  have hE := h.erase h2
  have hlow := h.low
  have hkeys := h.keys
  have e : s.put D most x = { s with L := (s.L ++ [x]).eraseIdx (lowIx D (s.L ++ [x])), drops := wrap64 (s.drops + 1), gone := if s.some_ = false ∨ s.gone < lowKey D (s.L ++ [x]) then lowKey D (s.L ++ [x]) else s.gone, some_ := true } := by
    unfold Bq.put
    rw [if_neg]
    rw [← h.cap]
    rw [h.ilen] at hf
    exact hf
  have hl : lowIx D (s.L ++ [x]) = b.lowIx := hlow.symm
  have hk : b.keys.getD b.lowIx 0 = lowKey D (s.L ++ [x]) := by
    unfold lowKey
    rw [hkeys, hl]
  rw [e, hl]
  refine ⟨hE.D_, hE.cap, hE.I, hE.len, hE.sum, hE.lt, hE.nd, hE.ways, hE.fnd, ⟨?_, rfl⟩, ?_, hE.most_⟩
  · show (if b.mkd = false ∨ b.mark < b.keys.getD b.lowIx 0 then b.keys.getD b.lowIx 0 else b.mark) = _
    rw [hk, h.mark.1, h.mark.2]
  · show wrap64 (m.drops + 1) = wrap64 (s.drops + 1)
    rw [h.drops]
end Go.Proofs.YtnjmplapjnnjdaaGreat

/- The search of layer 17 in memory and as a list; put. -/
namespace Go.Proofs.YtnjmplapjnnjdaaGreat
open Go.RowKit

def wayCells (up : Option Nat) (bit : Nat) (e : Ent) : Array Value := #[ptrV up, .int .u8 bit, .int .u32 e.n.s, .int .i64 e.n.d, .int .i64 e.n.m, .int .i64 e.dip]
inductive WayIn (w : World) (Wy : Nat → Prop) : Nat → Ent → Prop
  | root {b : Nat} (h : BoxT w b (wayCells none 0 ent0) 69) (hw : Wy b) : WayIn w Wy b ent0
  | kid {b b' bit : Nat} {x : Ent} {n : Nd} (h : BoxT w b (wayCells (some b') bit ⟨n, x.bs ++ [bit], min x.dip n.m⟩) 69) (hw : Wy b) (hd : n.d = (x.bs.length : Int) + 1) (hx : WayIn w Wy b' x) : WayIn w Wy b ⟨n, x.bs ++ [bit], min x.dip n.m⟩
theorem WayIn.box {w : World} {Wy : Nat → Prop} {b : Nat} {e : Ent} (h : WayIn w Wy b e) : ∃ up bit, BoxT w b (wayCells up bit e) 69 ∧ Wy b := by
  cases h with
  | root h hw => exact ⟨_, _, h, hw⟩
  | kid h hw hd hx => exact ⟨_, _, h, hw⟩
theorem WayIn.same {w w' : World} {Wy Wy' : Nat → Prop} {b : Nat} {e : Ent} (h : WayIn w Wy b e) (hk : ∀ k, Wy k → k < w.heap.size → w'.heap[k]? = w.heap[k]?) (hW : ∀ k, Wy k → Wy' k) : WayIn w' Wy' b e := by
  induction h with
  | root h hw => exact .root (h.same (hk _ hw (Box.lt ⟨_, h⟩))) (hW _ hw)
  | kid h hw hd hx ih => exact .kid (h.same (hk _ hw (Box.lt ⟨_, h⟩))) (hW _ hw) hd ih
theorem WayIn.depth {w : World} {Wy : Nat → Prop} {b : Nat} {e : Ent} (h : WayIn w Wy b e) : e.n.d = (e.bs.length : Int) := by
  cases h with
  | root h hw => rfl
  | kid h hw hd hx => simp [hd]
def Pb.lo_ (p : Pb) : Int := min (p.C.R * p.N * p.T.lo) 0
def Pb.hi_ (p : Pb) : Int := max (p.C.R * p.N * p.T.hi) 0
structure Se (w : World) (p : Pb) (D : Int) (most : Nat) (s : Bq) (b : Bk) (m : Sr) (ids : List Nat) (A : SA) (Wy : Nat → Prop) : Prop where
  sr : SrIn w p b m A
  bok : b.Ok
  blen : b.I.length ≤ b.cap
  lo : b.lo = p.lo_
  hi : b.hi = p.hi_
  rel : Rel D most s b m ids (WayIn w Wy)
  wy : ∀ k, Wy k → ¬A.own k ∧ k < w.heap.size
theorem Se.same {w w' : World} {p : Pb} {D : Int} {most : Nat} {s : Bq} {b : Bk} {m : Sr} {ids : List Nat} {A : SA} {Wy : Nat → Prop} (h : Se w p D most s b m ids A Wy) (hs : w.heap.size ≤ w'.heap.size) (hk : ∀ k, A.has k ∨ Wy k → w'.heap[k]? = w.heap[k]?) : Se w' p D most s b m ids A Wy :=
  ⟨h.sr.same hs fun k hk' => hk k (.inl hk'), h.bok, h.blen, h.lo, h.hi, h.rel.mono fun _ _ hx => hx.same (fun k hk' _ => hk k (.inr hk')) fun _ h => h, fun k hk' => ⟨(h.wy k hk').1, Nat.lt_of_lt_of_le (h.wy k hk').2 hs⟩⟩
theorem Se.kept {w w' : World} {p : Pb} {D : Int} {most : Nat} {s : Bq} {b : Bk} {m : Sr} {ids : List Nat} {A : SA} {Wy : Nat → Prop} (h : Se w p D most s b m ids A Wy) (hB : Below w.heap.size w w') : Se w' p D most s b m ids A Wy :=
  h.same hB.size fun k hk => hB.block k (hk.elim h.sr.hasLt fun hk => (h.wy k hk).2)
theorem Se.turn {w w' : World} {p : Pb} {D : Int} {most : Nat} {s : Bq} {b : Bk} {m : Sr} {ids : List Nat} {A : SA} {Wy H : Nat → Prop} (h : Se w p D most s b m ids A Wy) (T : Turn H w w') (hn : ∀ k, A.has k ∨ Wy k → ¬H k) : Se w' p D most s b m ids A Wy :=
  h.same T.size fun k hk => T.block k (hk.elim h.sr.hasLt fun hk => (h.wy k hk).2) (hn k hk)
theorem Bk.Ok.drop {b : Bk} (hb : b.Ok) : b.drop.Ok :=
  ⟨hb.d0, hb.d1, hb.le, hb.lo0, hb.hi0, hb.k, hb.c0, hb.c1, Nat.le_trans (List.length_eraseIdx_le ..) hb.len, fun x hx => hb.ms x (List.mem_of_mem_eraseIdx hx), fun x hx => hb.ids x (List.mem_of_mem_eraseIdx hx)⟩
/-- What a writing call leaves behind. -/
theorem WayIn.next {w w' : World} {A A' : SA} {Wy : Nat → Prop} {b : Nat} {e : Ent} (h : WayIn w Wy b e) (hW : ∀ k, Wy k → ¬A.own k ∧ k < w.heap.size) (hN : SrNext A A' w w') : WayIn w' Wy b e :=
  h.same (fun k hk hl => hN.2.2.block k hl (hW k hk).1) fun _ h => h
theorem wy_next {w w' : World} {A A' : SA} {Wy : Nat → Prop} (hW : ∀ k, Wy k → ¬A.own k ∧ k < w.heap.size) (hN : SrNext A A' w w') : ∀ k, Wy k → ¬A'.own k ∧ k < w'.heap.size := fun k hk =>
  ⟨fun ho => (hN.2.1 k ho).elim (hW k hk).1 fun h => by have := (hW k hk).2; omega, Nat.lt_of_lt_of_le (hW k hk).2 hN.2.2.size⟩
def SePost (p : Pb) (D : Int) (most : Nat) (s : Bq) (m : Sr) (A : SA) (Wy : Nat → Prop) (w : World) (e : Ending) (w' : World) : Prop :=
  ∃ b' m' ids' A', e = .returned (.tuple #[]) ∧ Se w' p D most s b' m' ids' A' Wy ∧ SrNext A A' w w' ∧ m'.fnd = m.fnd ∧ m'.work = m.work
theorem se_put {w : World} {p : Pb} {D : Int} {most : Nat} {s : Bq} {b : Bk} {m : Sr} {ids : List Nat} {A : SA} {Wy : Nat → Prop} (h : Se w p D most s b m ids A Wy) {wb : Nat} {x : Ent} (h1 : p.lo_ ≤ x.n.m) (h2 : x.n.m ≤ p.hi_) (hx : WayIn w Wy wb x) :
    Calls Tryz.prog 16 #[.pointer (some ⟨A.sb, 0, none⟩), .pointer (some ⟨wb, 0, none⟩)] w (SePost p D most (s.put D most x) m A Wy w) := by
  obtain ⟨up, bit, hbx, hwy⟩ := hx.box
  have hcap := h.rel.cap
  have hc1 := h.bok.c1
  have hml := h.rel.most_
  have hsum := h.rel.sum
  have hL : s.L.length ≤ most := by rw [← h.rel.ilen, ← hcap]; exact h.blen
  have fin : ∀ {b1 : Bk} {m1 : Sr} {ids1 : List Nat} {id : Nat} {e : Ending} {w' : World}, b1 = b.more id x.n.m → Rel D most { s with L := s.L ++ [x] } b1 m1 ids1 (WayIn w Wy) → id ≤ 1000000 → m1.fnd = m.fnd → m1.work = m.work →
      SrPutPost p b m m1 id x.n.m A w e w' → SePost p D most (s.put D most x) m A Wy w e w' := by
    rintro b1 m1 ids1 id e w' rfl hR hid hf hw ⟨A', rfl, hN, hc⟩
    have hok := h.bok.more h.blen (id := id) (by rw [h.lo]; exact h1) (by rw [h.hi]; exact h2) hid
    by_cases hfit : (b.more id x.n.m).I.length ≤ b.cap
    · rw [if_pos hfit] at hc
      exact ⟨_, m1, ids1, A', rfl, ⟨hc, hok, hfit, h.lo, h.hi, (hR.fits hfit).mono fun _ _ hx => hx.next h.wy hN, wy_next h.wy hN⟩, hN, hf, hw⟩
    · rw [if_neg hfit] at hc
      obtain ⟨y, hy, hc⟩ := hc
      refine ⟨_, _, ids1.eraseIdx (b.more id x.n.m).lowIx, A', rfl, ⟨hc, hok.drop, ?_, h.lo, h.hi, (hR.goes hfit hy).mono fun _ _ hx => hx.next h.wy hN, wy_next h.wy hN⟩, hN, hf, hw⟩
      show ((b.I ++ [(id, x.n.m)]).eraseIdx (b.more id x.n.m).lowIx).length ≤ b.cap
      have hlt : (b.more id x.n.m).lowIx < (b.I ++ [(id, x.n.m)]).length := (List.getElem?_eq_some_iff.1 hy).1
      rw [List.length_eraseIdx_of_lt hlt]
      have := h.blen
      simp
      omega
  have hids : ∀ y ∈ b.I, y.1 < m.ats.length := fun y hy => by
    obtain ⟨j, hj⟩ := List.getElem?_of_mem hy
    obtain ⟨e, _, h2, _⟩ := h.rel.at_ hj
    exact h.rel.lt _ (List.mem_append_left _ (List.mem_of_getElem? h2))
  rcases List.eq_nil_or_concat m.frees with hf | ⟨fr, id, hf⟩
  · refine (sr_put_new (p := p) (mt := x.n.m) (cs := wayCells up bit x) h.bok h.blen (by rw [h.lo]; exact h1) (by rw [h.hi]; exact h2) (by omega) hf hids w h.sr hbx rfl (h.wy _ hwy).1).mono ?_
    intro e w' hP
    exact fin rfl (h.rel.addNew hf hL hx) (by omega) rfl rfl hP
  · rw [List.concat_eq_append] at hf
    have hid : id < m.ats.length := h.rel.lt id (List.mem_append_right _ (by rw [hf]; simp))
    refine (sr_put_old (p := p) (mt := x.n.m) (cs := wayCells up bit x) h.bok h.blen (by rw [h.lo]; exact h1) (by rw [h.hi]; exact h2) (by omega) (by omega) hf hid hids w h.sr hbx rfl (h.wy _ hwy).1).mono ?_
    intro e w' hP
    exact fin rfl (h.rel.addOld hf hx) (by omega) rfl rfl hP
end Go.Proofs.YtnjmplapjnnjdaaGreat

/- Fano's machine in memory, the program's: where its parts lie; the walks of its small functions and of a fall. -/
namespace Go.Proofs.YtnjmplapjnnjdaaGreat
open Go.RowKit

/-- Where the parts of a machine lie. -/
structure FA where
  mb : Nat
  way : Nat
  cap : Nat
  tb : Nat
  pb : Nat
  rb : Nat
  tg : Nat
  tc : Nat
  wg : Nat
  wc : Nat
def FA.has (A : FA) (k : Nat) : Prop := k = A.mb ∨ k = A.way ∨ k = A.tb ∨ k = A.pb ∨ k = A.rb ∨ k = A.tg ∨ k = A.wg
/-- What a machine may write to. -/
def FA.wr (A : FA) (k : Nat) : Prop := k = A.mb ∨ k = A.way
theorem TreeIn.same {w w' : World} {p : Pb} {tb pb rb g c : Nat} (h : TreeIn w p tb pb rb g c) (hk : ∀ k, k = tb ∨ k = pb ∨ k = rb ∨ k = g → w'.heap[k]? = w.heap[k]?) : TreeIn w' p tb pb rb g c :=
  ⟨h.tree.imp fun _ h => (hk tb (.inl rfl)).trans h, h.prob.imp fun _ h => (hk pb (.inr (.inl rfl))).trans h, h.rate.imp fun _ h => (hk rb (.inr (.inr (.inl rfl)))).trans h, h.win.block (hk g (.inr (.inr (.inr rfl)))), h.cap⟩
/-- The world's writes so far are the machine's own. -/
theorem Turn.set {H : Nat → Prop} {A B : World} (h : Turn H A B) {q : Addr} (hq : H q.block) (v : Value) : Turn H A (B.setCell q v) :=
  ⟨h.os, h.tape, h.output, by simpa using h.size, fun k hk hn => (Below.heap_setCell _ _ _ _ (fun e => hn (by rw [e]; exact hq))).trans (h.block k hk hn)⟩
theorem Turn.on {H : Nat → Prop} {A B C : World} (h : Turn H A B) (hB : Below B.heap.size B C) : Turn H A C := h.trans (Turn.ofBelow hB)

end Go.Proofs.YtnjmplapjnnjdaaGreat

/- The walk of one look of Fano's machine: the program's. -/
namespace Go.Proofs.YtnjmplapjnnjdaaGreat
open Go.RowKit

theorem nd_cell {w : World} {nb : Nat} {l : List Nd} (h : Box w nb (ndCells l)) {k : Nat} {n : Nd} (hk : l[k]? = some n) : loadAgg w nb (k * 3) 3 = .ok (.agg n.cells) w ∧ w.cell? ⟨nb, k * 3 + 2, none⟩ = some (.int .i64 n.m) := by
  have hlt : k < l.length := by
    rcases Nat.lt_or_ge k l.length with h | h
    · exact h
    · rw [List.getElem?_eq_none h] at hk; cases hk
  obtain ⟨b, o, hb, hl⟩ := Nodes.ofBox h k hlt
  obtain ⟨rfl, rfl⟩ : nb = b ∧ 0 = o := by simpa using hb
  rw [Nat.zero_add] at hl
  have e : l[k] = n := by rw [List.getElem?_eq_getElem hlt] at hk; exact Option.some.inj hk
  rw [e] at hl
  refine ⟨hl, ?_⟩
  unfold loadAgg at hl
  split at hl
  · rename_i cs t fr hb
    split at hl
    · rename_i hn
      rw [block_cell hb]
      have h1 : cs.extract (k * 3) (k * 3 + 3) = n.cells := by simpa using hl
      have h2 := congrArg (·[2]?) h1
      simp only [Array.getElem?_extract, Nd.cells, nodeCells] at h2
      simp at h2
      exact h2.2
    · cases hl
  · cases hl
theorem bit_cell {w : World} {bb : Nat} {l : List Nat} (h : Box w bb (u8s l).toArray) {k b : Nat} (hk : l[k]? = some b) : w.cell? ⟨bb, k, none⟩ = some (.int .u8 b) := by
  rw [h.cell k]
  simp [u8s, hk]
theorem Box.turn {H : Nat → Prop} {w w' : World} {b : Nat} {cs : Array Value} (h : Box w b cs) (hT : Turn H w w') (hb : ¬H b) : Box w' b cs := by
  have hl := h.lt
  exact h.imp fun _ e => (hT.block b hl hb).trans e
/-- THE ARM, in a region that draws, for a struct that is built. -/
theorem q_build {P : Program} {ops : Array Oper} {rest : List Oper} {l l' : List Value} {ds : List Deferred} {C : World → Prop} {Q : Act → Prop} {d : Nat} {t : TypeId} {parts : Array (Nat × Operand)} {cs : Array Value} {ty : TypeId} {ps : String} {af : Array Edge}
    (hr : ∀ w, (Instr.build t (parts.map fun (i, x) => (i, (Act.mk l.toArray ds).eval x))).run P w = .ok (.agg cs) w) (hs : l.set d (.agg cs) = l')
    (h : wpQuiet P ops C Q rest ⟨l'.toArray, ds⟩) : wpQuiet P ops C Q (⟨some d, .build t parts, ty, ps, af, none⟩ :: rest) ⟨l.toArray, ds⟩ := by
  refine BigFrame.wpQuiet_want rfl fun K hK => ⟨_, fun w' _ => ?_, hK _ (by rw [put_list, hs]; exact h)⟩
  unfold Oper.quietAt execOp
  simp only [Sem.run_bind, hr w', Result.andThen_ok, Sem.run_pure]
  exact ⟨rfl, rfl⟩
end Go.Proofs.YtnjmplapjnnjdaaGreat
