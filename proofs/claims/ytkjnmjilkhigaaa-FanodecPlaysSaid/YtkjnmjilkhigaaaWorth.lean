import Derived.Test.YtkjnmjilkhigaaaCount
import Derived.RangeFuncNested
import Derived.RangeFuncBound
import Derived.RangeFuncCalls
import Derived.RangeFuncLeaves
import Derived.Shelf.Abstract
import Derived.Shelf.RegionOpen
import Derived.OwnWalkIn
import Derived.TacticsInMore
import Derived.LoopNIn
import Derived.LoopIn
set_option linter.unusedSimpArgs false
set_option linter.unusedVariables false
set_option linter.unnecessarySimpa false
/- A range over a function, where the iterator keeps cells and loops of its own: what each party holds is named. No program's text is named here. -/
namespace Go.Proofs.Ytkjnmjilkhigaaa
open Go.RowKit Go.Shelf

/-- From A to A' no block turns but those that H names. -/
structure Turn (H : Nat → Prop) (A A' : World) : Prop where
  os : A'.os = A.os
  tape : A'.tape = A.tape
  output : A'.output = A.output
  size : A.heap.size ≤ A'.heap.size
  block : ∀ k, k < A.heap.size → ¬H k → A'.heap[k]? = A.heap[k]?
theorem Turn.refl (H : Nat → Prop) (A : World) : Turn H A A := ⟨rfl, rfl, rfl, Nat.le_refl _, fun _ _ _ => rfl⟩
theorem Turn.trans {H : Nat → Prop} {A B C : World} (h : Turn H A B) (k : Turn H B C) : Turn H A C :=
  ⟨k.os.trans h.os, k.tape.trans h.tape, k.output.trans h.output, Nat.le_trans h.size k.size, fun i hi hn => (k.block i (Nat.lt_of_lt_of_le hi h.size) hn).trans (h.block i hi hn)⟩
theorem Turn.mono {H H' : Nat → Prop} {A B : World} (h : Turn H A B) (hh : ∀ k, k < A.heap.size → H k → H' k) : Turn H' A B := ⟨h.os, h.tape, h.output, h.size, fun k hk hn => h.block k hk fun hx => hn (hh k hk hx)⟩
theorem Turn.ofBelow {H : Nat → Prop} {A B : World} (h : Below A.heap.size A B) : Turn H A B := ⟨h.os, h.tape, h.output, h.size, fun k hk _ => h.block k hk⟩
theorem Turn.alloc {H : Nat → Prop} (A : World) (o : Obj) : Turn H A (A.alloc o) := Turn.ofBelow ((Below.refl _ A).alloc (Nat.le_refl _) o)
theorem Turn.putObj {H : Nat → Prop} (A : World) {l : Nat} (o : Obj) (h : H l) : Turn H A (A.putObj l o) :=
  ⟨rfl, rfl, rfl, by simp, fun k _ hk => World.putObj_heap_other fun e => hk (e ▸ h)⟩
theorem Turn.setCell {H : Nat → Prop} (A : World) (p : Addr) (v : Value) (h : H p.block) : Turn H A (A.setCell p v) :=
  ⟨rfl, rfl, rfl, by simp [World.setCell], fun k _ hk => Below.heap_setCell _ _ _ _ fun e => hk (e ▸ h)⟩
theorem Turn.below {H : Nat → Prop} {A B : World} (h : Turn H A B) {n : Nat} (hn : ∀ k, k < n → k < A.heap.size ∧ ¬H k) : Below n A B := ⟨h.os, h.tape, h.output, h.size, fun k hk => h.block k (hn k hk).1 (hn k hk).2⟩
theorem Turn.box {H : Nat → Prop} {A B : World} (h : Turn H A B) {b : Nat} {cs : Array Value} (hb : Box A b cs) (hn : ¬H b) : Box B b cs := by
  have hl := hb.lt
  obtain ⟨t, hb⟩ := hb
  exact ⟨t, (h.block b hl hn).trans hb⟩
/-- From A to A' the blocks that H names lie as they lay. -/
def Kept (H : Nat → Prop) (A A' : World) : Prop := Turn (fun k => ¬H k) A A'
theorem Kept.block {H : Nat → Prop} {A A' : World} (h : Kept H A A') {k : Nat} (hk : k < A.heap.size) (hH : H k) : A'.heap[k]? = A.heap[k]? := Turn.block h k hk fun hn => hn hH
theorem Kept.box {H : Nat → Prop} {A A' : World} (h : Kept H A A') {b : Nat} {cs : Array Value} (hb : Box A b cs) (hH : H b) : Box A' b cs := Turn.box h hb fun hn => hn hH

section
variable {α : Type} {P : Program}

/-- The iterator's word to the caller's invariant: it turns what it holds alone; what it holds it has laid itself. -/
def Abide (J : (Nat → Prop) → List α → World → Prop) : Prop :=
  ∀ (H H' : Nat → Prop) s A A', J H s A → Turn H A A' → (∀ k, H' k → (H k ∨ A.heap.size ≤ k) ∧ k < A'.heap.size) → J H' s A'
/-- AN ITERATOR's CONTRACT AT A WORLD: what comes is one of S; Rd: the blocks that it reads. -/
def SeqAt (n : Nat) (P : Program) (g : Nat) (lb : Array Value) (encs : α → Array Value) (S : List α → Prop) (N : Nat) (Rd : Nat → Prop) (W : World) : Prop :=
  ∀ (l : Nat) (J : (Nat → Prop) → List α → World → Prop), Abide J →
    (∀ H pre x W1, J H pre W1 → pre.length < N → (∀ k, H k → W.heap.size ≤ k) → YieldAt Fence.wide (n - 1) P l (encs x) W1 fun e W' => e = .returned (.bool true) ∧ J H (pre ++ [x]) W' ∧ Kept (fun k => Rd k ∨ H k) W1 W') →
    J (fun _ => False) [] W →
    CallsIn Fence.wide n P g (#[.func (.yield l) #[] #[]] ++ lb) W fun e W' => (∃ v, e = .returned v) ∧ ∃ xs H, S xs ∧ J H xs W' ∧ ∀ k, H k → W.heap.size ≤ k

/-- What a round's body owes. -/
def roundEnds (I : (Nat → Prop) → List α → World → Prop) (Rd H : Nat → Prop) (s : List α) (W : World) : Exit → Act → World → Prop
  | .normal, _, W' => Kept (fun k => Rd k ∨ H k) W W' ∧ I H s W'
  | _, _, _ => False

theorem wp_rangeSeq {n : Nat} {g : Operand} {ps : Array Tmp} {assign body : Code} {Q : Exit → Act → World → Prop} {a : Act} {w : World}
    {gf : Nat} {lb : Array Value} (hg : a.eval g = .func (.func gf) #[] lb) (eg : ∀ args w, (callFunc gf args).run P w = .ok (.enter gf args) w)
    {encs : α → Array Value} {S : List α → Prop} {N : Nat} {Rd : Nat → Prop} (hseq : ∀ W, Below w.heap.size w W → SeqAt (n - 1) P gf lb encs S N Rd W) (hRd : ∀ k, Rd k → k < w.heap.size) (hps : ∀ x, (encs x).size = ps.size)
    (I : (Nat → Prop) → List α → World → Prop)
    (hI : ∀ (H H' : Nat → Prop) s A A', I H s A → Turn H A A' → (∀ k, H k → w.heap.size ≤ k) → (∀ k, H' k → (H k ∨ A.heap.size ≤ k) ∧ k < A'.heap.size) → I H' s A') (h0 : I (fun _ => False) [] w)
    (hround : ∀ (l : Nat) (H : Nat → Prop) (pre : List α) (x : α) (W : World), I H pre W → pre.length < N → (∀ k, H k → w.heap.size ≤ k ∧ k < W.heap.size) → H l →
      assign.wpIn (Fence.wide.inRound l) (n - 1 - 1) P (Exit.then (fun a₁ W1 => Kept (fun k => Rd k ∨ H k) W W1 ∧ ∀ W2, Turn (fun k => k = l) W1 W2 → body.wpIn (Fence.wide.inRound l) (n - 1 - 1) P (roundEnds I Rd H (pre ++ [x]) W2) a₁ W2) (fun _ _ _ => False))
        { tmps := (ps.zip (encs x)).foldl (fun t (p, v) => t.setIfInBounds p v) a.tmps, defers := [] } W)
    (hdone : ∀ (H : Nat → Prop) (xs : List α) (W : World), S xs → I H xs W → (∀ k, H k → w.heap.size ≤ k ∧ k < W.heap.size) → H w.heap.size → W.heap[w.heap.size]? = some (.deferred (some [])) → Q .normal { a with defers := { target := .collected w.heap.size, args := #[] } :: a.defers } W) :
    (Code.rangeFunc g ps assign body).wpIn Fence.wide n P Q a w := by
  refine wpIn_rangeFunc ?_
  intro fn hfn
  obtain ⟨rec, hrec⟩ : ∃ rec : LoopState → Loop, rec = fun st => { state := st, pending := none, fn, tmps := a.tmps, params := ps, assign, body, defers := w.heap.size } := ⟨_, rfl⟩
  obtain ⟨W1, hW1⟩ : ∃ W1, (w.alloc (.deferred (some []))).alloc (.loop (rec .ready)) = W1 := ⟨_, rfl⟩
  have hs1 : W1.heap.size = w.heap.size + 2 := by rw [← hW1]; simp
  have hL1 : W1.heap[w.heap.size + 1]? = some (.loop (rec .ready)) := by
    rw [← hW1]; have := World.alloc_heap_new (w.alloc (.deferred (some []))) (.loop (rec .ready)); rwa [World.size_alloc] at this
  have hK1 : W1.heap[w.heap.size]? = some (.deferred (some [])) := by
    rw [← hW1]; exact (Below.heap_alloc _ _ _ (by simp)).trans (World.alloc_heap_new w _)
  have hb1 : Below w.heap.size w W1 := by
    rw [← hW1]; exact (((Below.refl _ w).alloc (Nat.le_refl _) _).alloc (by simp) _)
  -- what a round sees as held: the iterator's blocks and the loop's own two
  obtain ⟨U, hU⟩ : ∃ U : (Nat → Prop) → Nat → Prop, U = fun H k => H k ∨ k = w.heap.size ∨ k = w.heap.size + 1 := ⟨_, rfl⟩
  have hU1 : ∀ H k, U H k → H k ∨ k = w.heap.size ∨ k = w.heap.size + 1 := fun H k h => by rw [hU] at h; exact h
  have hU2 : ∀ H k, H k ∨ k = w.heap.size ∨ k = w.heap.size + 1 → U H k := fun H k h => by rw [hU]; exact h
  refine ⟨w.heap.size + 1, [{ target := .collected w.heap.size, args := #[] }], W1, { target := .fn (.func gf) lb, args := #[.func (.yield (w.heap.size + 1)) #[] #[]] }, W1, gf,
    #[.func (.yield (w.heap.size + 1)) #[] #[]] ++ lb, W1, ?_, ?_, fun _ _ => trivial, ?_, fun h => absurd h (by decide), ?_⟩
  · rw [← hW1, hrec]; exact run_enterLoop_outer _ _ _ _ _
  · simp only [resolve, hg]
    simp [go_sem]
  · simp [invoke, go_sem, eg]
  · refine (hseq W1 hb1 (w.heap.size + 1)
      (fun H pre W => (∀ k, H k → W1.heap.size ≤ k ∧ k < W.heap.size) ∧ I (U H) pre W ∧ W.heap[w.heap.size + 1]? = some (.loop (rec .ready)) ∧ W.heap[w.heap.size]? = some (.deferred (some [])) ∧ W1.heap.size ≤ W.heap.size)
      ?_ ?_ ⟨fun _ h => h.elim, hI _ _ _ _ _ h0 (Turn.ofBelow hb1) (fun _ h => h.elim) (fun k h => ?_), hL1, hK1, Nat.le_refl _⟩).mono ?_
    · -- the iterator's steps
      rintro H H' s A A' ⟨j1, j2, j3, j4, j5⟩ hT hH'
      have n0 : ¬H w.heap.size := fun h => by have := (j1 _ h).1; omega
      have n1 : ¬H (w.heap.size + 1) := fun h => by have := (j1 _ h).1; omega
      refine ⟨fun k h => ⟨?_, (hH' k h).2⟩, hI _ _ _ _ _ j2 (hT.mono fun k _ h => hU2 _ _ (.inl h)) (fun k h => ?_) (fun k h => ?_), (hT.block _ (by omega) n1).trans j3, (hT.block _ (by omega) n0).trans j4, Nat.le_trans j5 hT.size⟩
      · rcases (hH' k h).1 with h | h
        · exact (j1 k h).1
        · omega
      · rcases hU1 _ _ h with h | h | h
        · have := (j1 k h).1; omega
        · omega
        · omega
      · have hsz := hT.size
        rcases hU1 _ _ h with h | h | h
        · refine ⟨?_, (hH' k h).2⟩
          rcases (hH' k h).1 with h | h
          · exact .inl (hU2 _ _ (.inl h))
          · exact .inr h
        · exact ⟨.inl (hU2 _ _ (.inr (.inl h))), by omega⟩
        · exact ⟨.inl (hU2 _ _ (.inr (.inr h))), by omega⟩
    · -- one round
      rintro H pre x W ⟨j1, j2, j3, j4, j5⟩ hlen hHW
      have hlt : w.heap.size + 1 < W.heap.size := by omega
      have hy := run_yield (P := P) (args := encs x) j3 (by rw [hrec]; exact hps x)
      rw [hrec] at hy
      have hUb : ∀ k, U H k → w.heap.size ≤ k ∧ k < W.heap.size := fun k h => by
        rcases hU1 _ _ h with h | h | h
        · have := j1 k h; omega
        · omega
        · omega
      have hUl : U H (w.heap.size + 1) := hU2 _ _ (.inr (.inr rfl))
      have hUd : U H w.heap.size := hU2 _ _ (.inr (.inl rfl))
      refine ⟨fn, _, assign, body, hy, roundIn_of_wpIn hfn (wpIn_mono (hround _ (U H) pre x W j2 hlen hUb hUl) ?_)⟩
      rintro e a₁ W2 hp
      cases e with
      | normal =>
        obtain ⟨hk, hbody⟩ := hp
        have hl2 := (hk.block (by omega) (.inr hUl)).trans j3
        have hd2 := (hk.block (by omega) (.inr hUd)).trans j4
        refine ⟨_, run_beginRound hl2 (by rw [hrec]), wpIn_mono (hbody _ (Turn.putObj _ _ rfl)) ?_⟩
        rintro e a3 W3 hp
        cases e with
        | normal =>
          obtain ⟨hk3, hi3⟩ := hp
          have hsz2 : W.heap.size ≤ W2.heap.size := hk.size
          have hl3 : W3.heap[w.heap.size + 1]? = some (.loop { rec .ready with state := .busy }) := (hk3.block (by simp; omega) (.inr hUl)).trans (World.putObj_heap_same (by omega))
          have hd3 : W3.heap[w.heap.size]? = some (.deferred (some [])) := (hk3.block (by simp; omega) (.inr hUd)).trans ((World.putObj_heap_other (by omega)).trans hd2)
          have hr := run_endRound (P := P) none hl3
          rw [hrec] at hr
          have hsz3 : W2.heap.size ≤ W3.heap.size := by have := hk3.size; simpa using this
          have hT3 : Turn (U H) W3 (W3.putObj (w.heap.size + 1) (.loop (rec .ready))) := Turn.putObj _ _ hUl
          refine ⟨_, _, hr, rfl, ⟨fun k h => ⟨(j1 k h).1, by have := (j1 k h).2; simp; omega⟩, ?_, ?_, ?_, by simp; omega⟩, ?_⟩
          · have := hI _ _ _ _ _ hi3 hT3 (fun k h => (hUb k h).1) (fun k h => ⟨.inl h, by have := (hUb k h).2; simp; omega⟩)
            rw [hrec] at this
            exact this
          · rw [hrec]; exact World.putObj_heap_same (by omega)
          · exact (World.putObj_heap_other (by omega)).trans hd3
          · have hkk : ∀ {A B : World}, Kept (fun k => Rd k ∨ U H k) A B → Kept (fun k => Rd k ∨ H k) A B := fun h => Turn.mono h fun k _ hn hx => hn (hx.imp id fun hx => hU2 _ _ (.inl hx))
            have hnl : ∀ (A : World) (o : Obj), Kept (fun k => Rd k ∨ H k) A (A.putObj (w.heap.size + 1) o) := fun A o => Turn.putObj _ _ fun h => by
              rcases h with h | h
              · have := hRd _ h; omega
              · have := (j1 _ h).1; omega
            exact ((hkk hk).trans (hnl _ _)).trans ((hkk hk3).trans (hnl _ _))
        | _ => exact hp.elim
      | _ => exact hp.elim
    · rcases hU1 _ _ h with h | h | h
      · exact h.elim
      · exact ⟨.inr (by omega), by omega⟩
      · exact ⟨.inr (by omega), by omega⟩
    · -- behind the iterator
      rintro e W2 ⟨⟨v, rfl⟩, xs, H, hS, ⟨j1, j2, j3, j4, j5⟩, hH⟩
      have hr := run_endLoop (P := P) j3 (by rw [hrec]; simp)
      rw [hrec] at hr
      have hUb : ∀ k, U H k → w.heap.size ≤ k := fun k h => by
        rcases hU1 _ _ h with h | h | h
        · have := (j1 k h).1; omega
        · omega
        · omega
      have hUs : ∀ k, U H k → k < W2.heap.size := fun k h => by
        rcases hU1 _ _ h with h | h | h
        · exact (j1 k h).2
        · omega
        · omega
      refine ⟨none, _, hr, hdone (U H) xs _ hS (hI _ _ _ _ _ j2 (Turn.putObj _ _ (hU2 _ _ (.inr (.inr rfl)))) hUb (fun k h => ⟨.inl h, by simpa using hUs k h⟩)) (fun k h => ⟨hUb k h, by simpa using hUs k h⟩) (hU2 _ _ (.inr (.inl rfl))) ((World.putObj_heap_other (by omega)).trans j4)⟩
end
end Go.Proofs.Ytkjnmjilkhigaaa

/- Arms for operations in a fence that lets all in, in a round or not. No program's text is named here. -/
namespace Go.Proofs.Ytkjnmjilkhigaaa
open Go.RowKit Go.Shelf

section
variable {P : Program} {ops : Array Oper} {rest : List Oper} {Q : Exit → Act → World → Prop} {w w' : World} {a : Act} {o : Oper} {F : Fence} {n : Nat}

theorem semAt_exec {r : Option Nat} (ρ : Operand → Value) (hnd : ∀ c, o.op ≠ .defer c) : o.semAt r ρ = execOp ρ o := by
  cases r with
  | none => rfl
  | some l => exact Oper.semAt_some l ρ o hnd
theorem in_value (hF : ∀ f, F.fn f) (hnd : ∀ c, o.op ≠ .defer c) (hw : Region.wanted o (yielded ops a.tmps) = true) {v : Value} (hr : (execOp a.eval o).run P w = .ok (.value v) w') (h : wpListIn F n P ops Q rest (a.put o.dst v) w') : wpListIn F n P ops Q (o :: rest) a w := by
  unfold wpListIn
  rw [if_pos hw]
  refine ⟨fun f _ => hF f, ?_⟩
  rw [semAt_exec _ hnd, hr]
  exact h
theorem in_skip (hF : ∀ f, F.fn f) (hnd : ∀ c, o.op ≠ .defer c) (hw : Region.wanted o (yielded ops a.tmps) = true) (hr : (execOp a.eval o).run P w = .ok .skip w') (h : wpListIn F n P ops Q rest (a.put o.dst undef) w') : wpListIn F n P ops Q (o :: rest) a w := by
  unfold wpListIn
  rw [if_pos hw]
  refine ⟨fun f _ => hF f, ?_⟩
  rw [semAt_exec _ hnd, hr]
  exact h
/-- THE ARM for a load of a whole struct or array. -/
theorem ldIn {l l' : List Value} {ds : List Deferred} {t m b off d : Nat} {x : Operand} {v : Value} {ty : TypeId} {ps : String} {af : Array Edge} (hF : ∀ f, F.fn f)
    (hx : (Act.mk l.toArray ds).eval x = .pointer (some ⟨b, off, none⟩)) [T : AggTy P t m] (hl : loadAgg w b off m = .ok v w) (hs : l.set d v = l') (h : wpListIn F n P ops Q rest ⟨l'.toArray, ds⟩ w) :
    wpListIn F n P ops Q (⟨some d, .load t x, ty, ps, af, none⟩ :: rest) ⟨l.toArray, ds⟩ w := by
  obtain ⟨_, h1, h2, h3⟩ := T.out
  have := run_loadVar_agg (P := P) (w := w) (b := b) (off := off) h1 h2 h3 (by rw [hl]; rfl)
  refine in_value (v := v) (w' := w) hF (fun c h => by cases h) rfl ?_ (by rw [put_list, hs]; exact h)
  unfold execOp
  simp only [hx, Instr.loadAt, Instr.sureAddr, Sem.run_bind, Sem.run_pure, Result.andThen_ok, this, hl]
/-- THE ARM for a store of a whole struct or array into a variable of its own block. -/
theorem stIn {l : List Value} {ds : List Deferred} {t m b : Nat} {x y : Operand} {cs old : Array Value} {ty : TypeId} {ps : String} {af : Array Edge} (hF : ∀ f, F.fn f)
    (hx : (Act.mk l.toArray ds).eval x = .pointer (some ⟨b, 0, none⟩)) [T : AggTy P t m] (hy : (Act.mk l.toArray ds).eval y = .agg cs) (hb : Box w b old) (ho : old.size = m) (hn : cs.size = m) (hf : Flat cs)
    (h : ∀ w', Box w' b cs → Below b w w' → (∀ k, k ≠ b → w'.heap[k]? = w.heap[k]?) → w'.heap.size = w.heap.size → wpListIn F n P ops Q rest ⟨l.toArray, ds⟩ w') : wpListIn F n P ops Q (⟨none, .store t x y, ty, ps, af, none⟩ :: rest) ⟨l.toArray, ds⟩ w := by
  obtain ⟨d, h1, h2, h3⟩ := T.out
  obtain ⟨tb, hb⟩ := hb
  obtain ⟨w', hr, hh, hB, hs, hoth⟩ := run_storeCells_box (P := P) cs.toList 0 w b [] old.toList tb hf (by simpa using hb) rfl (by simp [hn, ho])
  refine in_skip (w' := w') hF (fun c h => by cases h) rfl ?_ (by simpa [Act.put] using h w' ⟨tb, by simpa using hh⟩ hB hoth hs)
  unfold execOp
  cases hq : P.info? t with
  | none => simp [hq] at h3
  | some i =>
    have hsz : i.size = m := by simpa [hq] using h3
    simp only [hx, hy, Instr.storeAt, Instr.sureAddr, Sem.run_bind, Sem.run_pure, Result.andThen_ok, storeVar, sizeOf, typeInfo, program, Sem.run, hq, hsz, Value.cells, hn, ne_eq, not_true_eq_false, if_false, hr]
end
theorem fn_wide : ∀ f, Fence.wide.fn f := fun _ => trivial
theorem fn_round (l : Nat) : ∀ f, (Fence.wide.inRound l).fn f := fun _ => trivial
end Go.Proofs.Ytkjnmjilkhigaaa
/- A region that draws its order, in the round of a range over a function: fixed values first, then a forced order. No program's text is named here. -/
namespace Go.Proofs.Ytkjnmjilkhigaaa
open Go.RowKit Go.Shelf

section
variable {P : Program} {ops : Array Oper} {md : Region.Mode} {w0 : World} {F : Fence} {n : Nat}

theorem wpAnyIn_of_seq {Q' : Exit → Act → World → Prop} : ∀ (l : List Oper) (k : Nat) (listed : Array Bool) (a : Act) (w : World), (∀ j, l[j]? = ops[k + j]?) →
    Region.seqB md ops l.length k listed = true → wpListIn F n P ops Q' l a w → wpAnyIn F n P md ops Q' l.length listed a w
  | [], _, _, _, _, _, hB, h => ⟨by simpa [Region.seqB] using hB, h⟩
  | o :: l, k, listed, a, w, hl, hB, h => by
    have h0 : ops[k]? = some o := by simpa using (hl 0).symm
    simp only [List.length_cons, Region.seqB, Bool.and_eq_true, decide_eq_true_eq] at hB
    refine ⟨fun h1 => (by rw [hB.1] at h1; cases h1), fun i hi => ?_⟩
    rw [hB.1] at hi
    have hik : i = k := by simpa using hi
    subst hik
    have hw : wpOpIn F n P ops Q' i (wpListIn F n P ops Q' l) a w := by unfold wpOpIn; simp only [h0]; exact h
    exact wpOpIn_mono (fun a' w' h' => wpAnyIn_of_seq l (i + 1) _ a' w' (fun j => by have := hl (j + 1); simpa [Nat.add_assoc, Nat.add_comm 1 j] using this) hB.2 h') hw
theorem wpOpIn_of_knOp {lp i : Nat} {a : Act} {S : World → Prop} {K : Act → (World → Prop) → Prop} {K' : Act → World → Prop} {Q' : Exit → Act → World → Prop} {w : World} (hnd : ∀ (j : Nat) (o : Oper), ops[j]? = some o → ∀ c, o.op ≠ .defer c) (hw : Ext w0 w) (hS : S w) (hst : Stable S)
    (h : ∀ a S' w', Ext w0 w' → Stable S' → S' w' → K a S' → K' a w') (hh : knOp P ops w0 i K a S) : wpOpIn (Fence.wide.inRound lp) n P ops Q' i K' a w := by
  unfold knOp at hh
  unfold wpOpIn
  split
  · rename_i hi; rw [hi] at hh; exact h _ _ _ hw hst hS hh
  · rename_i o hi
    rw [hi] at hh
    simp only at hh
    split
    · rename_i hwt
      rw [if_pos hwt] at hh
      obtain ⟨R, hR, hn⟩ := hh
      refine ⟨fun _ _ => trivial, ?_⟩
      have h3 := hR.run w hw hS
      rw [semAt_exec _ (hnd i o hi)]
      generalize (execOp a.eval o).run P w = r at *
      have fin : ∀ v w', Ext w w' → R v w' → K' (a.put o.dst v) w' := fun v w' he hr =>
        h _ _ _ (ext_trans hw he) (fun x y hx hs => ⟨hst x y hx hs.1, hR.stable v x y hx hs.2⟩) ⟨hst _ _ he hS, hr⟩ (hn v ⟨w', hr⟩)
      cases r with
      | ok m w' =>
        cases m <;> simp only [freeUpon] at h3 <;> simp only [Oper.uponIn]
        case value u => exact fin _ _ h3.1 h3.2
        case skip => exact fin _ _ h3.1 h3.2
        case enter f args =>
          refine ⟨fun h => (by cases h), CallsIn.inRound lp (callsIn_wide.2 ?_)⟩
          exact h3.2.2.mono fun e w'' ⟨⟨v, he, hr⟩, hx⟩ => by subst he; exact fin _ _ (ext_trans h3.2.1 hx) hr
      | halt x w' => simp only [freeUpon] at h3
    · rename_i hwt; rw [if_neg hwt] at hh; exact ⟨fun _ _ => trivial, h _ _ _ hw hst hS hh⟩
theorem anyIn_of_headKn {lp m g : Nat} {L : Array Bool → Act → (World → Prop) → Prop} {Q' : Exit → Act → World → Prop} (hnd : ∀ (j : Nat) (o : Oper), ops[j]? = some o → ∀ c, o.op ≠ .defer c) (hL : ∀ done a S w, Ext w0 w → Stable S → S w → L done a S → wpAnyIn (Fence.wide.inRound lp) n P md ops Q' g done a w) (f : Nat) :
    ∀ (done : Array Bool) (a : Act) (S : World → Prop) (w : World), Ext w0 w → Stable S → S w → headKn P md ops w0 m L f done a S → wpAnyIn (Fence.wide.inRound lp) n P md ops Q' (f + g) done a w := by
  induction f with
  | zero => intro done a S w hw hst hS h; rw [Nat.zero_add]; exact hL _ _ _ _ hw hst hS h
  | succ f ih =>
    intro done a S w hw hst hS h
    rw [show f + 1 + g = (f + g) + 1 by omega]
    refine ⟨fun h0 => absurd h0 h.1, fun i hi => ?_⟩
    exact wpOpIn_of_knOp hnd hw hS hst (fun a' S' w' hw' hst' hS' h' => ih _ a' S' w' hw' hst' hS' h') (h.2 i hi).2
theorem wpDet_mono {K K' : Act → Prop} (hk : ∀ a, K a → K' a) : ∀ (l : List Oper) (a : Act), wpDet P ops w0 K l a → wpDet P ops w0 K' l a
  | [], a, h => hk a h
  | o :: l, a, h => by
    unfold wpDet at h ⊢
    split
    · rename_i hw
      rw [if_pos hw] at h
      obtain ⟨v, hv, hn⟩ := h
      exact ⟨v, hv, wpDet_mono hk l _ hn⟩
    · rename_i hw
      rw [if_neg hw] at h
      exact wpDet_mono hk l _ h
theorem seqB_marked {g : Nat} : ∀ (f k : Nat) (d : Array Bool), Region.lexHead md ops g f k d = true → Region.seqB md ops g (k + f) (marked k f d) = true
  | 0, k, d, h => h
  | f + 1, k, d, h => by
    simp only [Region.lexHead, Bool.and_eq_true] at h
    have := seqB_marked f (k + 1) _ h.2
    rw [show k + (f + 1) = k + 1 + f by omega]
    exact this
/-- THE LAW: n operations of fixed values, then a forced order. -/
theorem wpIn_region_det_tail {lp id : Nat} {Q : Exit → Act → World → Prop} {a : Act} {w : World} {l : List Oper} (m : Nat) (hm : P.follows .mixedOrders = true) (hB : Region.lexTailB .any l.toArray m = true) (hnd : (l.all fun o => match o.op with | .defer _ => false | _ => true) = true)
    (h : wpDet P l.toArray w (fun a' => ∀ w', Ext w w' → wpListIn (Fence.wide.inRound lp) n P l.toArray Q (l.drop m) a' w') (l.take m) a) : (Code.region id l.toArray true).wpIn (Fence.wide.inRound lp) n P Q a w := by
  have hnd' : ∀ (j : Nat) (o : Oper), l.toArray[j]? = some o → ∀ c, o.op ≠ .defer c := fun j o hj c hc => by
    have ho : o ∈ l := List.mem_of_getElem? (by simpa using hj)
    have := List.all_eq_true.1 hnd o ho
    rw [hc] at this
    cases this
  simp only [Region.lexTailB, Bool.and_eq_true, decide_eq_true_eq] at hB
  obtain ⟨⟨⟨⟨hsel, hn⟩, hs⟩, hc⟩, hlex⟩ := hB
  have hn' : m < l.length := by simpa using hn
  have htl : (l.take m).length = m := by simp; omega
  have hdl : (l.drop m).length = l.toArray.size - m := by simp
  have inv0 : HeadInv .any l.toArray m (Array.replicate l.toArray.size false) :=
    ⟨by simp, fun j oj _ hl => (by rw [getD_replicate_false] at hl; cases hl), fun t _ ht => getD_in (by simpa using ht) (getD_replicate_false _ _)⟩
  have hQ : Anti (fun a'' S => ∀ w', Ext w w' → S w' → wpListIn (Fence.wide.inRound lp) n P l.toArray Q (l.drop m) a'' w') := fun _ _ _ hS hh w' hw hs => hh w' hw (hS w' hs)
  have H := headKn_lex1 (P := P) (md := .any) (g := l.toArray.size - m) (S := fun _ => True) (w0 := w) hQ hsel hs hc hn (post := []) (l.take m) 0 (Array.replicate l.toArray.size false) a (fun j hj => by
      rw [List.append_nil] at hj ⊢
      rw [htl] at hj
      simp [hj]) (by rw [List.append_nil]; simpa using htl) inv0 (by rw [List.append_nil, htl]; exact hlex) ?_
  · rw [List.append_nil] at H
    refine wpIn_region_any hm ?_
    have fin := anyIn_of_headKn (Q' := Q) (n := n) (lp := lp) (g := l.toArray.size - m) hnd' (fun d a' S' w' hw' _ hS' hL => by
      have := wpAnyIn_of_seq (F := Fence.wide.inRound lp) (n := n) (md := .any) (Q' := Q) (l.drop m) m d a' w' (fun j => by simp [List.getElem?_drop]) (by rw [hdl]; exact hL.1) (hL.2 w' hw' hS')
      rwa [hdl] at this) _ _ _ _ _ ((Below.refl _ w).drew) (fun _ _ _ _ => trivial) trivial H
    rw [htl, show m + (l.toArray.size - m) = l.toArray.size by omega] at fin
    exact fin
  · refine wpDet_mono (fun a' ha => ?_) _ _ h
    have hsq := seqB_marked (md := .any) (ops := l.toArray) m 0 _ hlex
    rw [Nat.zero_add] at hsq
    show headKn _ _ _ _ _ _ 0 _ _ _
    refine ⟨?_, fun w' hx _ => ha w' hx⟩
    rw [htl]
    exact hsq
end
end Go.Proofs.Ytkjnmjilkhigaaa

/- The iterator over the steps of a path: the program's. -/
namespace Go.Proofs.Ytkjnmjilkhigaaa
open Go.RowKit Go.Shelf
attribute [local go_sem] Oper.semAt_some

/-- The bit of a step: behind the information it is 0. -/
def Pb.bit (p : Pb) (bs : List Nat) (k : Nat) : Nat := if (k : Int) < p.L then bs.getD k 0 else 0
/-- The state ahead of a step. -/
def Pb.st (p : Pb) (bs : List Nat) : Nat → Int
  | 0 => 0
  | k + 1 => (2 * p.st bs k + p.bit bs k) % 2 ^ (p.C.K.toNat - 1)
/-- What the code's register holds at a step. -/
def Pb.reg (p : Pb) (bs : List Nat) (k : Nat) : Nat := (2 * p.st bs k + p.bit bs k).toNat
/-- A path. -/
structure Pb.Path (p : Pb) (bs : List Nat) : Prop where
  len : (bs.length : Int) = p.L
  lt : ∀ x ∈ bs, x < 2
theorem Pb.st_in (p : Pb) (bs : List Nat) : ∀ k, 0 ≤ p.st bs k ∧ p.st bs k < 2 ^ (p.C.K.toNat - 1)
  | 0 => ⟨Int.le_refl _, Int.pow_pos (by decide)⟩
  | k + 1 => ⟨Int.emod_nonneg _ (by have : (0 : Int) < 2 ^ (p.C.K.toNat - 1) := Int.pow_pos (by decide); omega), Int.emod_lt_of_pos _ (Int.pow_pos (by decide))⟩
theorem Pb.bit_lt {p : Pb} {bs : List Nat} (h : p.Path bs) (k : Nat) : p.bit bs k < 2 := by
  unfold Pb.bit
  split
  · by_cases hk : k < bs.length
    · rw [List.getD_eq_getElem?_getD, List.getElem?_eq_getElem hk]
      exact h.lt _ (List.getElem_mem hk)
    · rw [List.getD_eq_getElem?_getD, List.getElem?_eq_none (by omega)]
      decide
  · decide
/-- What comes of a step: its number, and what the register holds. -/
abbrev Pb.Elem (p : Pb) := { x : Nat × Nat // x.1 < p.N.toNat }
def Pb.pathL (p : Pb) (bs : List Nat) : List p.Elem := List.ofFn fun k : Fin p.N.toNat => ⟨(k.1, p.reg bs k.1), k.2⟩
theorem Pb.pathL_len (p : Pb) (bs : List Nat) : (p.pathL bs).length = p.N.toNat := by simp [Pb.pathL]
def Pb.enc (p : Pb) (x : p.Elem) : Array Value := #[.int .i64 (x.1.1 : Int), .agg (ya (p.C.y x.1.2))]
theorem Pb.pathL_take {p : Pb} {bs : List Nat} {k : Nat} (h : k < p.N.toNat) : (p.pathL bs).take (k + 1) = (p.pathL bs).take k ++ [⟨(k, p.reg bs k), h⟩] := by
  rw [List.take_succ_eq_append_getElem (by rw [p.pathL_len]; exact h)]
  simp [Pb.pathL]

set_option maxRecDepth 5000 in
set_option maxHeartbeats 1000000 in
theorem path_seq (p : Pb) (hp : p.Ok) (h : probChk p = 0) (bs : List Nat) (hbs : p.Path bs) (v : Value) (ab : Option Addr) (cb b1 b2 : Nat) (Rd : Nat → Prop) (W : World) (n : Nat)
    (x1 : Box W b1 (p.cells v)) (x2 : Box W b2 #[.slice ab bs.length cb]) (hby : Bytes W ab bs) (r1 : Rd b1) (r2 : Rd b2) (r3 : ∀ b o s, ab = some ⟨b, o, s⟩ → Rd b) :
    SeqAt n Try.prog 98 #[.pointer (some ⟨b1, 0, none⟩), .pointer (some ⟨b2, 0, none⟩)] p.enc (fun xs => xs = p.pathL bs) p.N.toNat Rd W := by
  intro l J hJ hY h0
  obtain ⟨⟨k1, k2⟩, l1, l2, cr, hwin, ⟨v1, v2⟩, hlev, hcc, htt⟩ := probChk_ok h
  clear hwin cr
  refine callsIn_wide.2 ?_
  go_enter Try.func98, Try.ntmps98
  obtain ⟨fk, fr, flev, fl, fwin, fcode, ftable, fall⟩ := x1.prob hp
  clear fk fr flev fl fwin fcode ftable
  go_wp2_with ((with_reducible apply ld); rfl; (with_reducible assumption); (simp only [List.set_cons_zero, List.set_cons_succ]; rfl))
  refine (score_steps p v hp l1 l2 k1 k2 _).mono ?_
  rintro e w1 ⟨rfl, B1⟩
  clear fall
  have K1 : Kept Rd W w1 := Turn.ofBelow B1
  have J1 : J (fun _ => False) [] w1 := hJ _ _ _ _ _ h0 (Turn.ofBelow B1) (fun _ h => h.elim)
  have hN : p.N ≤ 1055 := by unfold Pb.N; omega
  have hN0 : 0 ≤ p.N := by unfold Pb.N; omega
  go_wp2_with fail
  go_loopw [4, 12] (fun s i wr => ∃ k : Nat, k ≤ p.N.toNat ∧ i = .int .i64 k ∧ s = .int .u32 (p.st bs k) ∧ J (fun _ => False) ((p.pathL bs).take k) wr ∧ Kept Rd W wr) (fun _ i _ => p.N.toNat - (intOf i).toNat)
  case atStart => exact ⟨0, by omega, rfl, rfl, by simpa using J1, K1⟩
  case round =>
    obtain ⟨k, hk, rfl, rfl, Jk, Kk⟩ := hrel
    have x1k := Kk.box x1 r1
    have x2k := Kk.box x2 r2
    obtain ⟨fk, fr, flev, fl, fwin, fcode, ftable, fall⟩ := x1k.prob hp
    clear fk fr flev fwin ftable fall
    have c2 := x2k.cell 0
    simp only [List.getElem?_toArray, List.getElem?_cons_zero] at c2
    by_cases hkl : k < p.N.toNat
    · have hk2 : decide ((k : Int) < p.N) = true := by simp; omega
      have hst := p.st_in bs k
      have hbt := Pb.bit_lt hbs k
      by_cases hkL : (k : Int) < p.L
      · have hk3 : decide ((k : Int) < p.L) = true := by simpa using hkL
        have hkb : k < bs.length := by have := hbs.len; omega
        have hkb2 : (k : Int) < bs.length := by omega
        obtain ⟨b, o, rfl, hcell⟩ := hby.cell k hkb
        have hcell' := (World.cell?_of_block (Kk.block (lt_of_cell hcell) (r3 _ _ _ rfl))).trans hcell
        have hbv : bs[k] = p.bit bs k := by
          unfold Pb.bit
          rw [if_pos hkL, List.getD_eq_getElem?_getD, List.getElem?_eq_getElem hkb]
          rfl
        rw [hbv] at hcell'
        clear hcell hkL hbv
        go_wp2_with ((with_reducible apply ld); rfl; (with_reducible assumption); (simp only [List.set_cons_zero, List.set_cons_succ]; rfl))
        refine (trellis_Step p.C hp.c hcc (p.st bs k) (p.bit bs k) hst.1 hst.2 (by omega) (by omega) _).mono ?_
        rintro e w2 ⟨rfl, B2⟩
        obtain ⟨rg, hrg⟩ : ∃ rg : Nat, rg = (2 * p.st bs k + (p.bit bs k : Int)).toNat := ⟨_, rfl⟩
        obtain ⟨sn, hsn⟩ : ∃ sn, sn = (2 * p.st bs k + (p.bit bs k : Int)) % 2 ^ (p.C.K.toNat - 1) := ⟨_, rfl⟩
        rw [← hrg, ← hsn]
        have HR : Hid (p.reg bs k = rg) := hrg.symm
        have HS : Hid (p.st bs (k + 1) = sn) := hsn.symm
        clear hrg hsn
        have hsz : (p.C.yv rg).size = 3 := rfl
        have hfl := p.C.ys_flat rg p.C.R.toNat
        have hbz := Box.new w2 #[.int .u8 0, .int .u8 0, .int .u8 0] 129
        clear fl fcode c2
        go_upto_region 8 with ((with_reducible apply stO); rfl; rfl; exact hbz; rfl; exact hsz; exact hfl; intro w3 b8 B3 ho3 hs3)
        have B32 : Below w2.heap.size w2 w3 := ((Below.refl _ w2).alloc (Nat.le_refl _) _).trans B3
        have B3r := bOn B2 B32
        have K3 : Kept Rd W w3 := Kk.trans (Turn.ofBelow B3r)
        have J3 : J (fun _ => False) ((p.pathL bs).take k) w3 := hJ _ _ _ _ _ Jk (Turn.ofBelow B3r) (fun _ h => h.elim)
        clear ho3 hs3 hbz
        have gY := b8.load (off := 0) (n := 3) (cs' := p.C.yv rg) (by rw [hsz]; omega) (Array.extract_eq_self_of_le (by rw [hsz]; omega))
        obtain ⟨fn, tmps, assign, body, hy, hRd⟩ := hY _ _ ⟨(k, p.reg bs k), hkl⟩ w3 J3 (by rw [List.length_take, p.pathL_len]; omega) (fun _ h => h.elim)
        simp only [Pb.enc, HR.out] at hy
        refine (wpIn_wide (n := n)).1 (wpIn_region_lit ?_)
        rw [← p.C.yv_ya] at hy
        gi_wp2_with ((with_reducible apply ldIn); exact fn_wide; rfl; (with_reducible assumption); (simp only [List.set_cons_zero, List.set_cons_succ]; rfl))
        refine ⟨fun h => absurd h (by decide), hRd.mono ?_⟩
        rintro e w4 ⟨rfl, J4, K4⟩
        gi_wp2
        have K4' : Kept Rd w3 w4 := Turn.mono K4 fun k _ hn hx => hn (.inl hx)
        go_wp2
        go_roundw
        case measure => simp only [intOf]; omega
        case rel => exact ⟨k + 1, by omega, by go_num, by rw [HS.out], by rw [Pb.pathL_take hkl]; exact J4, K3.trans K4'⟩
      · have hk3 : decide ((k : Int) < p.L) = false := by simpa using hkL
        have hbv : (0 : Nat) = p.bit bs k := by unfold Pb.bit; rw [if_neg hkL]
        have HBV := Lib.hid hbv
        clear hkL hbv
        go_wp2_with ((with_reducible apply ld); rfl; (with_reducible assumption); (simp only [List.set_cons_zero, List.set_cons_succ]; rfl))
        refine (show Calls _ _ #[_, _, .int .u8 ((p.bit bs k : Nat) : Int)] _ _ from ?_ ) |> (fun h => (by rw [← HBV.out] at h; exact h))
        refine (trellis_Step p.C hp.c hcc (p.st bs k) (p.bit bs k) hst.1 hst.2 (by omega) (by omega) _).mono ?_
        rintro e w2 ⟨rfl, B2⟩
        obtain ⟨rg, hrg⟩ : ∃ rg : Nat, rg = (2 * p.st bs k + (p.bit bs k : Int)).toNat := ⟨_, rfl⟩
        obtain ⟨sn, hsn⟩ : ∃ sn, sn = (2 * p.st bs k + (p.bit bs k : Int)) % 2 ^ (p.C.K.toNat - 1) := ⟨_, rfl⟩
        rw [← hrg, ← hsn]
        have HR : Hid (p.reg bs k = rg) := hrg.symm
        have HS : Hid (p.st bs (k + 1) = sn) := hsn.symm
        clear hrg hsn
        have hsz : (p.C.yv rg).size = 3 := rfl
        have hfl := p.C.ys_flat rg p.C.R.toNat
        have hbz := Box.new w2 #[.int .u8 0, .int .u8 0, .int .u8 0] 129
        clear fl fcode c2
        go_upto_region 8 with ((with_reducible apply stO); rfl; rfl; exact hbz; rfl; exact hsz; exact hfl; intro w3 b8 B3 ho3 hs3)
        have B32 : Below w2.heap.size w2 w3 := ((Below.refl _ w2).alloc (Nat.le_refl _) _).trans B3
        have B3r := bOn B2 B32
        have K3 : Kept Rd W w3 := Kk.trans (Turn.ofBelow B3r)
        have J3 : J (fun _ => False) ((p.pathL bs).take k) w3 := hJ _ _ _ _ _ Jk (Turn.ofBelow B3r) (fun _ h => h.elim)
        clear ho3 hs3 hbz
        have gY := b8.load (off := 0) (n := 3) (cs' := p.C.yv rg) (by rw [hsz]; omega) (Array.extract_eq_self_of_le (by rw [hsz]; omega))
        obtain ⟨fn, tmps, assign, body, hy, hRd⟩ := hY _ _ ⟨(k, p.reg bs k), hkl⟩ w3 J3 (by rw [List.length_take, p.pathL_len]; omega) (fun _ h => h.elim)
        simp only [Pb.enc, HR.out] at hy
        refine (wpIn_wide (n := n)).1 (wpIn_region_lit ?_)
        rw [← p.C.yv_ya] at hy
        gi_wp2_with ((with_reducible apply ldIn); exact fn_wide; rfl; (with_reducible assumption); (simp only [List.set_cons_zero, List.set_cons_succ]; rfl))
        refine ⟨fun h => absurd h (by decide), hRd.mono ?_⟩
        rintro e w4 ⟨rfl, J4, K4⟩
        gi_wp2
        have K4' : Kept Rd w3 w4 := Turn.mono K4 fun k _ hn hx => hn (.inl hx)
        go_wp2
        go_roundw
        case measure => simp only [intOf]; omega
        case rel => exact ⟨k + 1, by omega, by go_num, by rw [HS.out], by rw [Pb.pathL_take hkl]; exact J4, K3.trans K4'⟩
    · obtain rfl : k = p.N.toNat := by omega
      have hk2 : decide ((p.N.toNat : Int) < p.N) = false := by simp; omega
      rw [List.take_of_length_le (by rw [p.pathL_len]; omega)] at Jk
      clear fl fcode c2
      go_wp2
      refine bodyPost_end (results_nil rfl) rfl ?_
      exact ⟨⟨_, rfl⟩, _, _, rfl, Jk, fun _ h => h.elim⟩
end Go.Proofs.Ytkjnmjilkhigaaa

/- The walk of the metric of a step, as the prefixes' closure reckons it. -/
namespace Go.Proofs.Ytkjnmjilkhigaaa
open Go.RowKit

set_option maxRecDepth 5000 in
set_option maxHeartbeats 1000000 in
theorem score_worth (p : Pb) (hp : p.Ok) (h : probChk p = 0) (g o c b1 br : Nat) (hcap : p.B.length ≤ c) (d : Nat) (hd : (d : Int) < p.N) (v : Nat) (w : World)
    (x1 : Box w b1 (p.cells (.slice (some ⟨g, o, none⟩) p.B.length c))) (x2 : Box w br #[.int .i64 p.C.R]) (hw : Bytes w (some ⟨g, o, none⟩) p.B) :
    Pure Try.prog 81 #[.int .i64 d, .agg (ya (p.C.y v)), .pointer (some ⟨b1, 0, none⟩), .pointer (some ⟨br, 0, none⟩)] w (.int .i64 (p.br d v)) := by
  obtain ⟨⟨k1, k2⟩, l1, l2, cr, hwin, ⟨v1, v2⟩, hlev, hcc, htt⟩ := probChk_ok h
  have hlen := Pb.lv_len h hd
  have HWIN := Lib.hid hwin; clear hwin
  have HCR := Lib.hid cr
  have HLEN := Lib.hid hlen; clear hlen
  have hNb : p.N ≤ 1055 := by unfold Pb.N; omega
  go_enter Try.func81, Try.ntmps81
  go_upto_region 1 with (fail)
  refine name1 ?_
  intro w0 b8 B0
  have x10 := x1.kept B0
  have x20 := x2.kept B0
  have hw0 := hw.kept B0
  obtain ⟨fk, fr, flev, fl, fwin, fcode, ftable, fall⟩ := x10.prob hp
  clear fk fr flev fl fcode fall
  have r0 := x20.cell 0
  simp only [List.getElem?_toArray, List.getElem?_cons_zero] at r0
  have gY := b8.load (off := 0) (n := 3) (cs' := ya (p.C.y v)) (by rw [ya_size]; omega) (Array.extract_eq_self_of_le (by rw [ya_size]; omega))
  obtain ⟨r, hr⟩ : ∃ r : Nat, p.C.R = r := ⟨p.C.R.toNat, by omega⟩
  have hrn : p.C.R.toNat = r := by omega
  obtain ⟨N, hN⟩ : ∃ N : Nat, p.N = N := ⟨p.N.toNat, by unfold Pb.N; omega⟩
  have hw1 := HWIN.out
  rw [hr, hN] at hw1
  have hBl : p.B.length = N * r := by exact_mod_cast hw1
  have hle : (d + 1) * r ≤ N * r := Nat.mul_le_mul_right _ (by omega)
  have hr3 : r ≤ 3 := by omega
  have hr2 : 2 ≤ r := by omega
  have hdr : (d + 1) * r = d * r + r := by rw [Nat.add_mul, Nat.one_mul]
  have hd3 : d * r ≤ 3165 := by
    have : d * r ≤ 1055 * 3 := Nat.mul_le_mul (by omega) hr3
    omega
  have hlv : p.lv d = (p.B.drop (d * r)).take r := by unfold Pb.lv; rw [hrn]
  have hbr : p.br d v = brS p.T (p.C.y v) (p.lv d) (p.lv d).length := by unfold Pb.br; rw [HLEN.out]
  have hlr : (p.lv d).length = r := by rw [HLEN.out, hrn]
  obtain ⟨i, hi⟩ : ∃ i : Nat, d * r = i := ⟨_, rfl⟩
  have e1 : (d : Int) * p.C.R = (i : Int) := by rw [hr, ← hi]; push_cast; rfl
  have e2 : ((d : Int) + 1) * p.C.R = ((i + r : Nat) : Int) := by rw [hr, ← hi]; push_cast; rw [Int.add_mul, Int.one_mul]
  have hi4 : (i : Int) ≤ 4000 := by omega
  obtain ⟨j, hj⟩ : ∃ j : Nat, i + r = j := ⟨_, rfl⟩
  rw [hj] at e2
  have hj4 : (j : Int) ≤ 4003 := by omega
  have hji : j - i = r := by omega
  have hlt : i < j := by omega
  have hjc : j ≤ c := by omega
  have hbytes : Bytes w0 (some ⟨g, o + i, none⟩) (p.lv d) := by rw [hlv, hi]; exact hw0.part i r
  have HBY := Lib.hid hbytes; clear hbytes
  have HLV := Lib.hid hlv; clear hlv
  have HBR := Lib.hid hbr; clear hbr
  have HLR := Lib.hid hlr; clear hlr
  have HJI := Lib.hid hji; clear hji
  have HR := Lib.hid hr; clear hr
  have HN := Lib.hid hN; clear hN
  clear hrn hBl hdr hi hw1
  have hd4 : (d : Int) ≤ 2000 := by omega
  refine wp_region_kept (by kernel_rfl) (by kernel_rfl) ?_
  have q39 := KeptW.cell fwin
  have qr := KeptW.cell r0
  clear fwin r0
  repeat first
    | ((with_reducible apply q_ld); rfl; (with_reducible assumption); (simp only [List.set_cons_zero, List.set_cons_succ]; rfl))
    | ((with_reducible apply q_sl); rfl; rfl; rfl; exact hlt; exact hjc; exact HJI.out.trans HLR.out.symm; rfl; (simp only [List.set_cons_zero, List.set_cons_succ]; rfl))
    | go_big_quiet_step (exact Calls.kept (metric_Branch p.T hp.t htt p.C.R HCR.out (p.lv d) (some ⟨g, o + i, none⟩) (c - i) (p.C.y v) (p.C.y_lt v) (by rw [HLR.out, HR.out]) (fun x hx => hlev x (List.mem_of_mem_drop (List.mem_of_mem_take (HLV.out ▸ hx)))) _ (HBY.out.kept (Subtype.property _))))
  refine wpQuiet_nil ?_
  intro w3 B3
  rw [← HBR.out]
  go_wp2
  go_ret
  exact ⟨rfl, bOn B0 B3⟩
end Go.Proofs.Ytkjnmjilkhigaaa
