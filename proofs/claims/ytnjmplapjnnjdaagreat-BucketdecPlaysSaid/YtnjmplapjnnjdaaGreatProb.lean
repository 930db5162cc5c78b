/- Codes, tables and problems: how they lie in memory, and what the checks of the program and of the document say of them. -/
import Derived.Test.YtnjmplapjnnjdaaGreatBits
set_option linter.unusedSimpArgs false
set_option linter.unusedVariables false
set_option linter.unnecessarySimpa false
namespace Go.Proofs.YtnjmplapjnnjdaaGreat
open Go.RowKit

theorem block_cell {w : World} {b i : Nat} {cs : Array Value} {t : TypeId} {fr : Nat × Nat} (h : w.heap[b]? = some (.cells cs t fr)) : w.cell? ⟨b, i, none⟩ = cs[i]? := cell_of_row w b i cs t fr h
/-- Block b is a variable that holds these cells. -/
def Box (w : World) (b : Nat) (cs : Array Value) : Prop := ∃ t, w.heap[b]? = some (.cells cs t (0, 0))
theorem Box.new (w : World) (cs : Array Value) (t : TypeId) : Box (w.alloc (.cells cs t)) w.heap.size cs := ⟨t, heap_alloc_new _ _⟩
theorem Box.below {B : Nat} {w w' : World} {b : Nat} {cs : Array Value} (h : Box w b cs) (hB : Below B w w') (hb : b < B) : Box w' b cs := by
  obtain ⟨t, h⟩ := h
  exact ⟨t, (hB.block b hb).trans h⟩
theorem Box.lt {w : World} {b : Nat} {cs : Array Value} (h : Box w b cs) : b < w.heap.size := by
  obtain ⟨t, h⟩ := h
  exact (Array.getElem?_eq_some_iff.1 h).1
theorem Box.kept {w w' : World} {b : Nat} {cs : Array Value} (h : Box w b cs) (hB : Below w.heap.size w w') : Box w' b cs := h.below hB h.lt
theorem Box.cell {w : World} {b : Nat} {cs : Array Value} (h : Box w b cs) (i : Nat) : w.cell? ⟨b, i, none⟩ = cs[i]? := by
  obtain ⟨t, h⟩ := h
  exact block_cell h
theorem Box.frozen {w : World} {b : Nat} {cs : Array Value} (h : Box w b cs) (i : Nat) : w.frozen? ⟨b, i, none⟩ = false := by
  obtain ⟨t, h⟩ := h
  simp [World.frozen?, h]
theorem Box.load {w : World} {b off n : Nat} {cs cs' : Array Value} (h : Box w b cs) (hn : off + n ≤ cs.size) (he : cs.extract off (off + n) = cs') : loadAgg w b off n = .ok (.agg cs') w := by
  obtain ⟨t, h⟩ := h
  rw [loadAgg_block h hn, he]

/-! ### A store of a whole struct or array into a variable; an element of an array's value -/
theorem setCell_block (w : World) (b off : Nat) (v : Value) (cs : Array Value) (t : TypeId) (fr : Nat × Nat) (h : w.heap[b]? = some (.cells cs t fr)) : (w.setCell ⟨b, off, none⟩ v).heap[b]? = some (.cells (cs.setIfInBounds off v) t fr) := by
  simp only [World.setCell, Array.getElem?_modify]
  simp [h]
theorem run_storeCells_box {P : Program} : ∀ (vs : List Value) (i : Nat) (w : World) (b : Nat) (pre post : List Value) (t : TypeId), (∀ v ∈ vs, (∀ xs, v ≠ .agg xs) ∧ (∀ xs, v ≠ .tuple xs)) → w.heap[b]? = some (.cells (pre ++ post).toArray t (0, 0)) → pre.length = i → post.length = vs.length →
    ∃ w', (storeCells ⟨b, 0, none⟩ vs i).run P w = .ok () w' ∧ w'.heap[b]? = some (.cells (pre ++ vs).toArray t (0, 0)) ∧ Below b w w' ∧ w'.heap.size = w.heap.size ∧ (∀ k, k ≠ b → w'.heap[k]? = w.heap[k]?)
  | [], i, w, b, pre, post, t, _, h, hp, hl => by
    obtain rfl : post = [] := List.eq_nil_of_length_eq_zero (by simpa using hl)
    exact ⟨w, rfl, h, Below.refl _ _, rfl, fun _ _ => rfl⟩
  | v :: vs, i, w, b, pre, post, t, hv, h, hp, hl => by
    obtain ⟨x, post, rfl⟩ : ∃ x xs, post = x :: xs := by cases post with | nil => simp at hl | cons x xs => exact ⟨x, xs, rfl⟩
    have hc : w.cell? ⟨b, i, none⟩ = some x := by rw [block_cell h]; simp [← hp]
    have hf : w.frozen? ⟨b, i, none⟩ = false := by simp [World.frozen?, h]
    have ha : (⟨b, 0, none⟩ : Addr).add i = ⟨b, i, none⟩ := by unfold Addr.add; split <;> simp_all
    have hb : b < w.heap.size := (Array.getElem?_eq_some_iff.1 h).1
    have h1 : (w.setCell ⟨b, i, none⟩ v).heap[b]? = some (.cells ((pre ++ [v]) ++ post).toArray t (0, 0)) := by
      rw [setCell_block w b i v _ t _ h]
      congr 2
      apply Array.ext'
      simp [← hp]
    obtain ⟨w', hr, hh, hB, hs, ho⟩ := run_storeCells_box vs (i + 1) _ b (pre ++ [v]) post t (fun v hv' => hv v (by simp [hv'])) h1 (by simp [hp]) (by simpa using hl)
    refine ⟨w', ?_, by simpa using hh, ((Below.refl b w).setCell (p := ⟨b, i, none⟩) (Nat.le_refl _) v).trans hB, by rw [hs]; simp [World.setCell], fun k hk => by rw [ho k hk, Below.heap_setCell _ _ _ _ hk]⟩
    have hst : (store ⟨b, i, none⟩ v).run P w = .ok () (w.setCell ⟨b, i, none⟩ v) := by
      have h2 := hv v (by simp)
      cases v with
      | agg xs => exact absurd rfl (h2.1 xs)
      | tuple xs => exact absurd rfl (h2.2 xs)
      | _ => simp [store, Sem.run, hc, hf]
    rw [storeCells, ha, Sem.run_bind, hst]
    exact hr

/-- Cells that are no structs. -/
def Flat (cs : Array Value) : Prop := ∀ v ∈ cs.toList, (∀ xs, v ≠ .agg xs) ∧ (∀ xs, v ≠ .tuple xs)
/-- THE ARM for a store of a whole struct or array into a variable of its own block. -/
theorem stO {P : Program} {ops : Array Oper} {rest : List Oper} {l : List Value} {ds : List Deferred} {w : World} {Q : Exit → Act → World → Prop} {t n b : Nat} {x y : Operand} {cs old : Array Value} {ty : TypeId} {ps : String} {af : Array Edge}
    (hx : (Act.mk l.toArray ds).eval x = .pointer (some ⟨b, 0, none⟩)) [T : AggTy P t n] (hy : (Act.mk l.toArray ds).eval y = .agg cs) (hb : Box w b old) (ho : old.size = n) (hn : cs.size = n) (hf : Flat cs)
    (h : ∀ w', Box w' b cs → Below b w w' → (∀ k, k ≠ b → w'.heap[k]? = w.heap[k]?) → w'.heap.size = w.heap.size → wpList P ops Q rest ⟨l.toArray, ds⟩ w') : wpList P ops Q (⟨none, .store t x y, ty, ps, af, none⟩ :: rest) ⟨l.toArray, ds⟩ w := by
  obtain ⟨d, h1, h2, h3⟩ := T.out
  obtain ⟨tb, hb⟩ := hb
  obtain ⟨w', hr, hh, hB, hs, hoth⟩ := run_storeCells_box (P := P) cs.toList 0 w b [] old.toList tb hf (by simpa using hb) rfl (by simp [hn, ho])
  refine wpList_plain rfl fun K hK => ?_
  unfold Oper.wp execOp
  cases hq : P.info? t with
  | none => simp [hq] at h3
  | some i =>
    have hsz : i.size = n := by simpa [hq] using h3
    simp only [hx, hy, Instr.storeAt, Instr.sureAddr, Sem.run_bind, Sem.run_pure, Result.andThen_ok, storeVar, sizeOf, typeInfo, program, Sem.run, hq, hsz, Value.cells, hn, ne_eq, not_true_eq_false, if_false, hr]
    exact hK _ _ (h w' ⟨tb, by simpa using hh⟩ hB hoth hs)

/-- the same, where the other blocks don't matter: THE ARM for a store of a whole struct or array into a variable of its own block. -/
theorem st {P : Program} {ops : Array Oper} {rest : List Oper} {l : List Value} {ds : List Deferred} {w : World} {Q : Exit → Act → World → Prop} {t n b : Nat} {x y : Operand} {cs old : Array Value} {ty : TypeId} {ps : String} {af : Array Edge}
    (hx : (Act.mk l.toArray ds).eval x = .pointer (some ⟨b, 0, none⟩)) [T : AggTy P t n] (hy : (Act.mk l.toArray ds).eval y = .agg cs) (hb : Box w b old) (ho : old.size = n) (hn : cs.size = n) (hf : Flat cs)
    (h : ∀ w', Box w' b cs → Below b w w' → wpList P ops Q rest ⟨l.toArray, ds⟩ w') : wpList P ops Q (⟨none, .store t x y, ty, ps, af, none⟩ :: rest) ⟨l.toArray, ds⟩ w :=
  stO hx hy hb ho hn hf fun w' h1 h2 _ _ => h w' h1 h2

theorem run_isAgg {P : Program} {t : TypeId} {n : Nat} [T : AggTy P t n] (w : World) : (isAgg t).run P w = .ok true w := by
  obtain ⟨d, h1, h2, h3⟩ := T.out
  unfold isAgg
  rw [Sem.run_bind, run_underlying h1 w]
  cases d <;> simp_all [isAggD]
theorem run_sizeOf {P : Program} {t : TypeId} {n : Nat} [T : AggTy P t n] (w : World) : (sizeOf t).run P w = .ok n w := by
  obtain ⟨d, h1, h2, h3⟩ := T.out
  cases hq : P.info? t with
  | none => simp [hq] at h3
  | some i =>
    have hsz : i.size = n := by simpa [hq] using h3
    simp [sizeOf, typeInfo, Sem.run_bind, program, Sem.run, hq, hsz]
/-- THE ARM for an element of an array's value, which is itself an array or a struct. -/
theorem ixAgg {P : Program} {ops : Array Oper} {rest : List Oper} {l l' : List Value} {ds : List Deferred} {w : World} {Q : Exit → Act → World → Prop} {t e n len d : Nat} {x y : Operand} {cs : Array Value} {k : IntKind} {i : Int} {ty : TypeId} {ps : String} {af : Array Edge}
    (hu : P.underlying t = some (.array len e)) (T : AggTy P e n) (hx : (Act.mk l.toArray ds).eval x = .agg cs) (hy : (Act.mk l.toArray ds).eval y = .int k i) (h0 : 0 ≤ i) (hi : i < len) {cs' : Array Value} (he : cs.extract (i.toNat * n) (i.toNat * n + n) = cs') (hs : l.set d (.agg cs') = l')
    (h : wpList P ops Q rest ⟨l'.toArray, ds⟩ w) : wpList P ops Q (⟨some d, .index t x y, ty, ps, af, none⟩ :: rest) ⟨l.toArray, ds⟩ w := by
  refine wpList_plain rfl fun K hK => ?_
  unfold Oper.wp execOp
  have h1 := run_isAgg (P := P) (t := e) (n := n) (T := T)
  have h2 := run_sizeOf (P := P) (t := e) (n := n) (T := T)
  simp only [hx, hy, Instr.index, asIntOf, Sem.run_bind, Sem.run_pure, Result.andThen_ok, run_underlying hu, h0, hi, and_self, if_true, h2, part, h1]
  rw [Oper.upon_value, put_list, he, hs]
  exact hK _ _ h

theorem run_isCell {P : Program} {t : TypeId} (T : CellTy P t) (w : World) : (isAgg t).run P w = .ok false w := by
  obtain ⟨d, h1, h2, h3⟩ := T.out
  unfold isAgg
  rw [Sem.run_bind, run_underlying h1 w]
  cases d <;> simp_all [isAggD]
theorem run_sizeCell {P : Program} {t : TypeId} (T : CellTy P t) (w : World) : (sizeOf t).run P w = .ok 1 w := by
  obtain ⟨d, h1, h2, h3⟩ := T.out
  cases hq : P.info? t with
  | none => simp [hq] at h3
  | some i =>
    have hsz : i.size = 1 := by simpa [hq] using h3
    simp [sizeOf, typeInfo, Sem.run_bind, program, Sem.run, hq, hsz]
/-- THE ARM for an element of an array's value, which is one cell. -/
theorem ixCell {P : Program} {ops : Array Oper} {rest : List Oper} {l l' : List Value} {ds : List Deferred} {w : World} {Q : Exit → Act → World → Prop} {t e len d : Nat} {x y : Operand} {cs : Array Value} {k : IntKind} {i : Int} {v : Value} {ty : TypeId} {ps : String} {af : Array Edge}
    (hu : P.underlying t = some (.array len e)) (T : CellTy P e) (hx : (Act.mk l.toArray ds).eval x = .agg cs) (hy : (Act.mk l.toArray ds).eval y = .int k i) (h0 : 0 ≤ i) (hi : i < len) (hv : cs[i.toNat]? = some v) (hs : l.set d v = l')
    (h : wpList P ops Q rest ⟨l'.toArray, ds⟩ w) : wpList P ops Q (⟨some d, .index t x y, ty, ps, af, none⟩ :: rest) ⟨l.toArray, ds⟩ w := by
  refine wpList_plain rfl fun K hK => ?_
  unfold Oper.wp execOp
  simp only [hx, hy, Instr.index, asIntOf, Sem.run_bind, Sem.run_pure, Result.andThen_ok, run_underlying hu, h0, hi, and_self, if_true, run_sizeCell T, part, run_isCell T, Nat.mul_one, hv, Bool.false_eq_true, if_false]
  rw [Oper.upon_value, put_list, hs]
  exact hK _ _ h

/-! ### Codes -/
structure Cd where
  K : Int
  R : Int
  g0 : Int
  g1 : Int
  g2 : Int
def Cd.g (c : Cd) : Nat → Int
  | 0 => c.g0
  | 1 => c.g1
  | _ => c.g2
def Cd.cells (c : Cd) : Array Value := #[.int .i64 c.K, .int .i64 c.R, .int .u32 c.g0, .int .u32 c.g1, .int .u32 c.g2]
structure Cd.Ok (c : Cd) : Prop where
  k0 : -9223372036854775808 ≤ c.K
  k1 : c.K ≤ 9223372036854775807
  r0 : -9223372036854775808 ≤ c.R
  r1 : c.R ≤ 9223372036854775807
  a0 : 0 ≤ c.g0
  a1 : c.g0 < 4294967296
  b0 : 0 ≤ c.g1
  b1 : c.g1 < 4294967296
  c0 : 0 ≤ c.g2
  c1 : c.g2 < 4294967296
theorem Cd.Ok.g0 {c : Cd} (h : c.Ok) (k : Nat) : 0 ≤ c.g k := by
  match k with
  | 0 => exact h.a0
  | 1 => exact h.b0
  | _ + 2 => exact h.c0
theorem Cd.Ok.g1 {c : Cd} (h : c.Ok) (k : Nat) : c.g k < 4294967296 := by
  match k with
  | 0 => exact h.a1
  | 1 => exact h.b1
  | _ + 2 => exact h.c1
theorem Cd.size (c : Cd) : c.cells.size = 5 := rfl
theorem Cd.cell0 (c : Cd) : c.cells[0]? = some (.int .i64 c.K) := rfl
theorem Cd.cell1 (c : Cd) : c.cells[1]? = some (.int .i64 c.R) := rfl
theorem Cd.cellg (c : Cd) {k : Nat} (h : k < 3) : c.cells[2 + k]? = some (.int .u32 (c.g k)) := by
  match k, h with
  | 0, _ => rfl
  | 1, _ => rfl
  | 2, _ => rfl
/-- The generators that a code uses. -/
def Cd.used (c : Cd) : List Nat := if c.R = 2 then [c.g0.toNat, c.g1.toNat] else [c.g0.toNat, c.g1.toNat, c.g2.toNat]
theorem Cd.used_get (c : Cd) {k : Nat} (h : k < c.used.length) : c.used[k] = (c.g k).toNat := by
  unfold Cd.used at h ⊢
  split at h
  · rename_i hr
    simp only [hr, if_true] at h ⊢
    match k, h with
    | 0, _ => rfl
    | 1, _ => rfl
  · rename_i hr
    simp only [hr, if_false] at h ⊢
    match k, h with
    | 0, _ => rfl
    | 1, _ => rfl
    | 2, _ => rfl
theorem Cd.used_len (c : Cd) : c.used.length = if c.R = 2 then 2 else 3 := by unfold Cd.used; split <;> rfl
theorem Cd.used_le (c : Cd) : c.used.length ≤ 3 := by rw [Cd.used_len]; split <;> omega
def Cd.common (c : Cd) : Nat := c.used.foldl pgcd 0
/-- One of the first two errors of a code. -/
def Cd.bad1 (c : Cd) : Bool := c.K < 3 || 32 < c.K || (c.R != 2 && c.R != 3) || (c.R == 2 && c.g2 != 0)
def Cd.badGen (c : Cd) (x : Nat) : Bool := x == 0 || x / 2 ^ c.K.toNat != 0
/-- What a check of a code answers. -/
def codeChk (c : Cd) : Int :=
  if c.bad1 then 50
  else if c.used.any c.badGen then 50
  else if !(c.used.any fun x => x % 2 == 1) || !(c.used.any fun x => x / 2 ^ (c.K - 1).toNat == 1) then 51
  else if c.common != 1 then 52
  else 0
theorem Cd.used32 {c : Cd} (h : c.Ok) : ∀ x ∈ c.used, x < 4294967296 := by
  intro x hx
  have := h.a1; have := h.b1; have := h.c1
  unfold Cd.used at hx
  split at hx <;> simp at hx <;> omega

/-- All generators together. -/
def orAll (l : List Nat) : Nat := l.foldl (· ||| ·) 0
theorem foldl_or (l : List Nat) : ∀ a, l.foldl (· ||| ·) a = a ||| orAll l := by
  induction l with
  | nil => intro a; simp [orAll]
  | cons x l ih =>
    intro a
    rw [List.foldl_cons, ih (a ||| x)]
    show _ = a ||| (x :: l).foldl (· ||| ·) 0
    rw [List.foldl_cons, ih (0 ||| x), Nat.zero_or, Nat.or_assoc]
theorem orAll_cons (x : Nat) (l : List Nat) : orAll (x :: l) = x ||| orAll l := by
  show (x :: l).foldl (· ||| ·) 0 = _
  rw [List.foldl_cons, foldl_or]
  simp
theorem orAll_bit (l : List Nat) (i : Nat) : (orAll l).testBit i = l.any fun x => x.testBit i := by
  induction l with
  | nil => simp [orAll]
  | cons x l ih => rw [orAll_cons, Nat.testBit_or, ih, List.any_cons]
theorem orAll_lt {l : List Nat} {n : Nat} (h : ∀ x ∈ l, x < 2 ^ n) : orAll l < 2 ^ n := by
  induction l with
  | nil => exact Nat.pow_pos (by decide)
  | cons x l ih => rw [orAll_cons]; exact Nat.or_lt_two_pow (h x (by simp)) (ih fun y hy => h y (by simp [hy]))
theorem orAll_odd (l : List Nat) : (orAll l % 2 == 0) = !(l.any fun x => x % 2 == 1) := by
  have h := orAll_bit l 0
  simp only [Nat.testBit_zero] at h
  have e : (l.any fun x => x % 2 == 1) = l.any fun x => decide (x % 2 = 1) := by congr 1
  rw [e, ← h]
  have := Nat.mod_lt (orAll l) (show 0 < 2 by decide)
  by_cases h0 : orAll l % 2 = 0
  · simp [h0]
  · have : orAll l % 2 = 1 := by omega
    simp [this]
theorem div_one_iff {x m : Nat} (h : x / 2 ^ (m + 1) = 0) : (x / 2 ^ m == 1) = x.testBit m := by
  have hp : 0 < 2 ^ m := Nat.pow_pos (by decide)
  rw [Nat.testBit_eq_decide_div_mod_eq]
  have h2 : x / 2 ^ m < 2 := by
    have : x < 2 ^ (m + 1) := by
      rcases (Nat.div_eq_zero_iff).1 h with h | h
      · exact absurd h (by have := Nat.pow_pos (n := m + 1) (show 0 < 2 by decide); omega)
      · exact h
    rw [Nat.pow_succ] at this
    exact Nat.div_lt_of_lt_mul this
  generalize x / 2 ^ m = q at *
  have : q = 0 ∨ q = 1 := by omega
  rcases this with rfl | rfl <;> rfl
theorem orAll_high {l : List Nat} {m : Nat} (h : ∀ x ∈ l, x / 2 ^ (m + 1) = 0) : (orAll l / 2 ^ m == 0) = !(l.any fun x => x / 2 ^ m == 1) := by
  have e : (l.any fun x => x / 2 ^ m == 1) = l.any fun x => x.testBit m := by
    rw [Bool.eq_iff_iff, List.any_eq_true, List.any_eq_true]
    exact ⟨fun ⟨x, hx, hh⟩ => ⟨x, hx, by rw [← div_one_iff (h x hx)]; exact hh⟩, fun ⟨x, hx, hh⟩ => ⟨x, hx, by rw [div_one_iff (h x hx)]; exact hh⟩⟩
  rw [e, ← orAll_bit]
  have hlt : orAll l < 2 ^ (m + 1) := orAll_lt fun x hx => by
    rcases (Nat.div_eq_zero_iff).1 (h x hx) with h | h
    · exact absurd h (by have := Nat.pow_pos (n := m + 1) (show 0 < 2 by decide); omega)
    · exact h
  rw [← div_one_iff (Nat.div_eq_of_lt hlt)]
  have hp : 0 < 2 ^ m := Nat.pow_pos (by decide)
  have h2 : orAll l / 2 ^ m < 2 := by
    rw [Nat.pow_succ] at hlt
    exact Nat.div_lt_of_lt_mul hlt
  generalize orAll l / 2 ^ m = q at *
  have : q = 0 ∨ q = 1 := by omega
  rcases this with rfl | rfl <;> rfl

/-- The facts that a walk wants of a code in a variable. -/
theorem Box.code {w : World} {b : Nat} {c : Cd} (h : Box w b c.cells) :
    w.cell? ⟨b, 0, none⟩ = some (.int .i64 c.K) ∧ w.cell? ⟨b, 1, none⟩ = some (.int .i64 c.R) ∧ w.cell? ⟨b, 4, none⟩ = some (.int .u32 c.g2) ∧ loadAgg w b 0 5 = .ok (.agg c.cells) w :=
  ⟨h.cell 0, h.cell 1, h.cell 4, h.load (Nat.le_refl _) rfl⟩

/-! ### Tables -/
structure Tb where
  lev : Int
  M : List Int
structure Tb.Ok (t : Tb) : Prop where
  len : t.M.length = 32
  l0 : -9223372036854775808 ≤ t.lev
  l1 : t.lev ≤ 9223372036854775807
  m : ∀ x ∈ t.M, -9223372036854775808 ≤ x ∧ x ≤ 9223372036854775807
def Tb.mc (t : Tb) : Array Value := (t.M.map (Value.int .i64)).toArray
def Tb.cells (t : Tb) : Array Value := #[.int .i64 t.lev] ++ t.mc
def Tb.m (t : Tb) (b r : Nat) : Int := t.M.getD (b * 16 + r) 0
def Tb.row (t : Tb) (b : Nat) : Array Value := t.mc.extract (b * 16) (b * 16 + 16)
theorem Tb.Ok.msize {t : Tb} (h : t.Ok) : t.mc.size = 32 := by simp [Tb.mc, h.len]
theorem Tb.Ok.size {t : Tb} (h : t.Ok) : t.cells.size = 33 := by simp [Tb.cells, h.msize]
theorem Tb.cell0 (t : Tb) : t.cells[0]? = some (.int .i64 t.lev) := by unfold Tb.cells; rw [Array.getElem?_append_left (by simp)]; rfl
theorem Tb.Ok.mc_get {t : Tb} (h : t.Ok) {b r : Nat} (hb : b < 2) (hr : r < 16) : t.mc[b * 16 + r]? = some (.int .i64 (t.m b r)) := by
  have hl : b * 16 + r < t.M.length := by rw [h.len]; omega
  unfold Tb.mc Tb.m
  simp [List.getD, List.getElem?_eq_getElem hl]
theorem Tb.Ok.cellm {t : Tb} (h : t.Ok) {b r : Nat} (hb : b < 2) (hr : r < 16) : t.cells[1 + b * 16 + r]? = some (.int .i64 (t.m b r)) := by
  unfold Tb.cells
  rw [Array.getElem?_append_right (by simp; omega)]
  rw [← h.mc_get hb hr]
  congr 1
  simp
  omega
theorem Tb.row_ex (t : Tb) (k : Nat) : t.mc.extract ((k : Int).toNat * 16) ((k : Int).toNat * 16 + 16) = t.row k := rfl
theorem Tb.Ok.row_size {t : Tb} (h : t.Ok) {b : Nat} (hb : b < 2) : (t.row b).size = 16 := by
  unfold Tb.row
  simp [h.msize]
  omega
theorem Tb.Ok.row_get {t : Tb} (h : t.Ok) {b r : Nat} (hb : b < 2) (hr : r < 16) : (t.row b)[r]? = some (.int .i64 (t.m b r)) := by
  unfold Tb.row
  rw [Array.getElem?_extract, if_pos (by rw [h.msize]; omega), h.mc_get hb hr]
theorem Tb.Ok.m_bd {t : Tb} (h : t.Ok) (b r : Nat) : -9223372036854775808 ≤ t.m b r ∧ t.m b r ≤ 9223372036854775807 := by
  unfold Tb.m
  by_cases hl : b * 16 + r < t.M.length
  · simp only [List.getD, List.getElem?_eq_getElem hl, Option.getD_some]
    exact h.m _ (List.getElem_mem hl)
  · simp [List.getD, List.getElem?_eq_none (Nat.le_of_not_lt hl)]
theorem flat_of_ints {l : List Int} {k : IntKind} : Flat (l.map (Value.int k)).toArray := by
  intro v hv
  simp at hv
  obtain ⟨x, _, rfl⟩ := hv
  exact ⟨fun _ h => (by cases h), fun _ h => (by cases h)⟩
theorem Tb.row_flat (t : Tb) (b : Nat) : Flat (t.row b) := by
  intro v hv
  have : v ∈ t.mc.toList := by
    unfold Tb.row at hv
    rw [Array.toList_extract, List.extract_eq_take_drop] at hv
    exact List.mem_of_mem_drop (List.mem_of_mem_take hv)
  exact flat_of_ints v this
def Tb.bad (t : Tb) (b r : Nat) : Bool := t.m b r < -4096 || 4096 < t.m b r || (decide (t.lev ≤ (r : Int)) && t.m b r != 0)
def Tb.badRow (t : Tb) (b : Nat) : Bool := (List.range 16).any (t.bad b)
def Tb.badLev (t : Tb) : Bool := t.lev < 2 || 16 < t.lev
/-- What a check of a table answers. -/
def tabChk (t : Tb) : Int := if t.badLev then 100 else if (List.range 2).any t.badRow then 100 else 0
theorem Box.table {w : World} {b : Nat} {t : Tb} (h : Box w b t.cells) (ht : t.Ok) :
    w.cell? ⟨b, 0, none⟩ = some (.int .i64 t.lev) ∧ loadAgg w b 0 33 = .ok (.agg t.cells) w ∧ loadAgg w b 1 32 = .ok (.agg t.mc) w := by
  refine ⟨by rw [h.cell, t.cell0], h.load (by rw [ht.size]; omega) (by rw [Array.extract_eq_self_of_le (by rw [ht.size]; omega)]), h.load (by rw [ht.size]; omega) ?_⟩
  unfold Tb.cells
  apply Array.ext'
  rw [Array.toList_extract, List.extract_eq_take_drop]
  simp [ht.msize]
  rw [List.take_of_length_le (by simp [ht.msize])]

/-! ### Rows of bytes -/
/-- A slice with this address reads as these bytes. -/
structure Bytes (w : World) (a : Option Addr) (l : List Nat) : Prop where
  cell : ∀ k (h : k < l.length), ∃ b o, a = some ⟨b, o, none⟩ ∧ w.cell? ⟨b, o + k, none⟩ = some (.int .u8 (l[k] : Nat))
  lt : ∀ x ∈ l, x < 256
theorem Bytes.below {B : Nat} {w w' : World} {a : Option Addr} {l : List Nat} (h : Bytes w a l) (hB : Below B w w') (hb : w.heap.size ≤ B) : Bytes w' a l :=
  ⟨fun k hk => let ⟨b, o, ha, hc⟩ := h.cell k hk; ⟨b, o, ha, (hB.cell (Nat.lt_of_lt_of_le (lt_of_cell hc) hb)).trans hc⟩, h.lt⟩
theorem Bytes.kept {w w' : World} {a : Option Addr} {l : List Nat} (h : Bytes w a l) (hB : Below w.heap.size w w') : Bytes w' a l := h.below hB (Nat.le_refl _)

/-! ### Problems -/
structure Pb where
  C : Cd
  T : Tb
  L : Int
  B : List Nat
def Pb.cells (p : Pb) (v : Value) : Array Value := p.C.cells ++ p.T.cells ++ #[.int .i64 p.L, v]
structure Pb.Ok (p : Pb) : Prop where
  c : p.C.Ok
  t : p.T.Ok
  l0 : -9223372036854775808 ≤ p.L
  l1 : p.L ≤ 9223372036854775807
  b : ∀ x ∈ p.B, x < 256
  n : (p.B.length : Int) ≤ 9223372036854775807
def Pb.N (p : Pb) : Int := p.L + p.C.K - 1
theorem Pb.Ok.size {p : Pb} (v : Value) (h : p.Ok) : (p.cells v).size = 40 := by simp [Pb.cells, Cd.cells, h.t.size]
theorem Pb.Ok.cellc {p : Pb} (v : Value) (_h : p.Ok) {i : Nat} (hi : i < 5) : (p.cells v)[i]? = p.C.cells[i]? := by
  unfold Pb.cells
  rw [Array.append_assoc, Array.getElem?_append_left (by simpa [Cd.cells] using hi)]
theorem Pb.Ok.cellt {p : Pb} (v : Value) (h : p.Ok) {i : Nat} (hi : i < 33) : (p.cells v)[5 + i]? = p.T.cells[i]? := by
  unfold Pb.cells
  rw [Array.append_assoc, Array.getElem?_append_right (by simp [Cd.cells]), Array.getElem?_append_left (by simp [Cd.cells, h.t.size]; omega)]
  simp [Cd.cells]
theorem Pb.Ok.cell38 {p : Pb} (v : Value) (h : p.Ok) : (p.cells v)[38]? = some (.int .i64 p.L) := by
  unfold Pb.cells
  rw [Array.getElem?_append_right (by simp [Cd.cells, h.t.size])]
  simp [Cd.cells, h.t.size]
theorem Pb.Ok.cell39 {p : Pb} (v : Value) (h : p.Ok) : (p.cells v)[39]? = some v := by
  unfold Pb.cells
  rw [Array.getElem?_append_right (by simp [Cd.cells, h.t.size])]
  simp [Cd.cells, h.t.size]
theorem Pb.Ok.ext_code {p : Pb} (v : Value) (_h : p.Ok) : (p.cells v).extract 0 5 = p.C.cells := by
  unfold Pb.cells
  apply Array.ext'
  rw [Array.append_assoc, Array.toList_extract, List.extract_eq_take_drop, Array.toList_append, List.drop_zero, List.take_append_of_le_length (by simp [Cd.cells]), List.take_of_length_le (by simp [Cd.cells])]
theorem Pb.Ok.ext_table {p : Pb} (v : Value) (h : p.Ok) : (p.cells v).extract 5 38 = p.T.cells := by
  have h5 : p.C.cells.toList.length = 5 := rfl
  have h33 : p.T.cells.toList.length = 33 := by simpa using h.t.size
  unfold Pb.cells
  apply Array.ext'
  rw [Array.append_assoc, Array.toList_extract, List.extract_eq_take_drop, Array.toList_append, List.drop_append_of_le_length (by omega), List.drop_of_length_le (by omega), List.nil_append, Array.toList_append, List.take_append_of_le_length (by omega), List.take_of_length_le (by omega)]
/-- The facts that a walk wants of a problem in a variable. -/
structure PbIn (w : World) (b : Nat) (p : Pb) (v : Value) : Prop where
  k : w.cell? ⟨b, 0, none⟩ = some (.int .i64 p.C.K)
  r : w.cell? ⟨b, 1, none⟩ = some (.int .i64 p.C.R)
  lev : w.cell? ⟨b, 5, none⟩ = some (.int .i64 p.T.lev)
  l : w.cell? ⟨b, 38, none⟩ = some (.int .i64 p.L)
  win : w.cell? ⟨b, 39, none⟩ = some v
  code : loadAgg w b 0 5 = .ok (.agg p.C.cells) w
  table : loadAgg w b 5 33 = .ok (.agg p.T.cells) w
  all : loadAgg w b 0 40 = .ok (.agg (p.cells v)) w
theorem Box.prob {w : World} {b : Nat} {p : Pb} {v : Value} (h : Box w b (p.cells v)) (hp : p.Ok) : PbIn w b p v where
  k := by rw [h.cell, hp.cellc v (by omega)]; rfl
  r := by rw [h.cell, hp.cellc v (by omega)]; rfl
  lev := by rw [h.cell, show 5 = 5 + 0 from rfl, hp.cellt v (by omega), Tb.cell0]
  l := by rw [h.cell, hp.cell38]
  win := by rw [h.cell, hp.cell39]
  code := h.load (by rw [hp.size]; omega) (hp.ext_code v)
  table := h.load (by rw [hp.size]; omega) (hp.ext_table v)
  all := h.load (by rw [hp.size]; omega) (Array.extract_eq_self_of_le (by rw [hp.size]; omega))
def Pb.badLen (p : Pb) : Bool := p.L < 1 || 1024 < p.L
def Pb.badWin (p : Pb) : Bool := (p.B.length : Int) != p.N * p.C.R
def Pb.badLevel (p : Pb) (x : Nat) : Bool := decide (p.T.lev ≤ (x : Int))
/-- What a check of a problem answers. -/
def probChk (p : Pb) : Int :=
  if codeChk p.C != 0 then codeChk p.C
  else if tabChk p.T != 0 then tabChk p.T
  else if p.badLen then 1
  else if p.badWin then 5
  else if p.B.any p.badLevel then 91
  else 0
theorem codeChk_ok {c : Cd} (h : codeChk c = 0) : 3 ≤ c.K ∧ c.K ≤ 32 ∧ (c.R = 2 ∨ c.R = 3) := by
  unfold codeChk at h
  cases hb : c.bad1
  · unfold Cd.bad1 at hb
    simp at hb
    omega
  · rw [hb] at h; simp at h
theorem tabChk_ok {t : Tb} (h : tabChk t = 0) : 2 ≤ t.lev ∧ t.lev ≤ 16 := by
  unfold tabChk at h
  cases hb : t.badLev
  · unfold Tb.badLev at hb
    simp at hb
    omega
  · rw [hb] at h; simp at h
end Go.Proofs.YtnjmplapjnnjdaaGreat
