import Derived.Test.YtnjmplapjnnjdaaGreatNoTree
import Derived.RangeFuncNested
import Derived.RangeFuncBound
import Derived.RangeFuncCalls
import Derived.RangeFuncLeaves
import Derived.Shelf.Abstract
import Derived.Shelf.RegionOpen
import Derived.OwnWalkIn
import Derived.TacticsInMore
import Derived.LoopNIn
import Derived.LoopIn
set_option linter.unusedSimpArgs false
set_option linter.unusedVariables false
set_option linter.unnecessarySimpa false
/- The walk of a tree's Count: the program's. -/
namespace Go.Proofs.YtnjmplapjnnjdaaGreat
open Go.RowKit

/-- What lay there is as it was, but for one block. -/
structure But (b : Nat) (w w' : World) : Prop where
  os : w'.os = w.os
  tape : w'.tape = w.tape
  output : w'.output = w.output
  size : w.heap.size ≤ w'.heap.size
  block : ∀ k, k < w.heap.size → k ≠ b → w'.heap[k]? = w.heap[k]?
theorem But.refl (b : Nat) (w : World) : But b w w := ⟨rfl, rfl, rfl, Nat.le_refl _, fun _ _ _ => rfl⟩
theorem But.ofBelow {b : Nat} {w w' : World} (h : Below w.heap.size w w') : But b w w' := ⟨h.os, h.tape, h.output, h.size, fun k hk _ => h.block k hk⟩
theorem But.trans {b : Nat} {x y z : World} (h : But b x y) (k : But b y z) : But b x z :=
  ⟨k.os.trans h.os, k.tape.trans h.tape, k.output.trans h.output, Nat.le_trans h.size k.size, fun i hi hb => (k.block i (Nat.lt_of_lt_of_le hi h.size) hb).trans (h.block i hi hb)⟩
theorem But.on {b : Nat} {x y z : World} (h : But b x y) (k : Below y.heap.size y z) : But b x z := h.trans (But.ofBelow k)
theorem But.below {b : Nat} {w w' : World} (h : But b w w') (B : Nat) (hB : B ≤ b) (hw : B ≤ w.heap.size) : Below B w w' := ⟨h.os, h.tape, h.output, h.size, fun k hk => h.block k (by omega) (by omega)⟩
theorem But.setCell (w : World) (p : Addr) (v : Value) : But p.block w (w.setCell p v) := ⟨rfl, rfl, rfl, by simp [World.setCell], fun _ _ hb => Below.heap_setCell _ _ _ _ hb⟩
theorem But.box {b : Nat} {w w' : World} (h : But b w w') {k : Nat} {cs : Array Value} (hk : Box w k cs) (hb : k ≠ b) : Box w' k cs := by
  have hl := hk.lt
  obtain ⟨t, hk⟩ := hk
  exact ⟨t, (h.block k hl hb).trans hk⟩
theorem results_nil {P : Program} {fn : Func} {tmps : Array Value} {w : World} (h : fn.results = #[]) : (results fn tmps).run P w = .ok (.tuple #[]) w := by
  simp [results, h]
/-- How many ways there are, from a node on. -/
def Pb.look (p : Pb) (dip most : Int) : Nat → Nd → Int → Int
  | 0, x, v => if most ≤ v ∨ x.m < dip then v else v + 1
  | f + 1, x, v => if most ≤ v ∨ x.m < dip then v else (p.kids x).foldl (fun c k => p.look dip most f k c) (v + 1)
/-- A node of the tree, f steps ahead of its end. -/
structure Pb.At (p : Pb) (x : Nd) (f : Nat) : Prop where
  s0 : 0 ≤ x.s
  s1 : x.s < 2 ^ (p.C.K.toNat - 1)
  d0 : 0 ≤ x.d
  d1 : x.d + f = p.N
theorem Pb.At.kid {p : Pb} {x : Nd} {f : Nat} (h : p.At x (f + 1)) (b : Int) : p.At (p.kid x b) f where
  s0 := Int.emod_nonneg _ (by have : (0 : Int) < 2 ^ (p.C.K.toNat - 1) := Int.pow_pos (by decide); omega)
  s1 := Int.emod_lt_of_pos _ (Int.pow_pos (by decide))
  d0 := by have := h.d0; show 0 ≤ x.d + 1; omega
  d1 := by have := h.d1; show x.d + 1 + f = p.N; omega
theorem Pb.At.kids {p : Pb} {x : Nd} {f : Nat} (h : p.At x (f + 1)) : ∀ k ∈ p.kids x, p.At k f := by
  intro k hk
  unfold Pb.kids at hk
  split at hk
  · obtain rfl : k = p.kid x 0 := by simpa using hk
    exact h.kid 0
  · unfold Pb.twoK at hk
    split at hk
    all_goals
      rcases (by simpa using hk : k = _ ∨ k = _) with rfl | rfl
      all_goals exact h.kid _
def KidsAny (l : List Nd) (w : World) (e : Ending) (w' : World) : Prop := (∃ a c bv, e = .returned (.tuple #[.slice a l.length c, bv]) ∧ Nodes w' a l ∧ ∀ b o s, a = some ⟨b, o, s⟩ → w.heap.size ≤ b ∧ s = none) ∧ Below w.heap.size w w'

theorem KidsPost.any {l : List Nd} {bs : List Nat} {w w' : World} {e : Ending} (h : KidsPost l bs w e w') : KidsAny l w e w' := by
  obtain ⟨⟨nb, bb, rfl, x1, x2, x3, x4, x5⟩, B⟩ := h
  exact ⟨⟨_, _, _, rfl, Nodes.ofBox x1, fun b o s h => by obtain ⟨rfl, rfl, rfl⟩ : nb = b ∧ 0 = o ∧ none = s := by simpa using h
                                                          exact ⟨x4, rfl⟩⟩, B⟩
theorem Pb.kids_len (p : Pb) (n : Nd) : (p.kids n).length ≤ 2 := by
  unfold Pb.kids
  split
  · simp
  · unfold Pb.twoK
    split <;> simp
theorem TreeIn.glt {w : World} {p : Pb} {tb pb rb g c : Nat} (hT : TreeIn w p tb pb rb g c) (h : probChk p = 0) : g < w.heap.size := by
  obtain ⟨⟨k1, k2⟩, l1, l2, cr, hwin, _⟩ := probChk_ok h
  have hne : 0 < p.B.length := by
    have h1 : 3 ≤ p.N := by unfold Pb.N; omega
    rcases cr with h | h <;> rw [h] at hwin <;> omega
  obtain ⟨b, o, ha, hc⟩ := hT.win.cell 0 hne
  obtain ⟨rfl, rfl⟩ : g = b ∧ 0 = o := by simpa using ha
  exact lt_of_cell hc
end Go.Proofs.YtnjmplapjnnjdaaGreat

/- A range over a function, where the iterator keeps cells and loops of its own: what each party holds is named. No program's text is named here. -/
namespace Go.Proofs.YtnjmplapjnnjdaaGreat
open Go.RowKit Go.Shelf

/-- From A to A' no block turns but those that H names. -/
structure Turn (H : Nat → Prop) (A A' : World) : Prop where
  os : A'.os = A.os
  tape : A'.tape = A.tape
  output : A'.output = A.output
  size : A.heap.size ≤ A'.heap.size
  block : ∀ k, k < A.heap.size → ¬H k → A'.heap[k]? = A.heap[k]?
theorem Turn.refl (H : Nat → Prop) (A : World) : Turn H A A := ⟨rfl, rfl, rfl, Nat.le_refl _, fun _ _ _ => rfl⟩
theorem Turn.trans {H : Nat → Prop} {A B C : World} (h : Turn H A B) (k : Turn H B C) : Turn H A C :=
  ⟨k.os.trans h.os, k.tape.trans h.tape, k.output.trans h.output, Nat.le_trans h.size k.size, fun i hi hn => (k.block i (Nat.lt_of_lt_of_le hi h.size) hn).trans (h.block i hi hn)⟩
theorem Turn.mono {H H' : Nat → Prop} {A B : World} (h : Turn H A B) (hh : ∀ k, k < A.heap.size → H k → H' k) : Turn H' A B := ⟨h.os, h.tape, h.output, h.size, fun k hk hn => h.block k hk fun hx => hn (hh k hk hx)⟩
theorem Turn.ofBelow {H : Nat → Prop} {A B : World} (h : Below A.heap.size A B) : Turn H A B := ⟨h.os, h.tape, h.output, h.size, fun k hk _ => h.block k hk⟩
theorem Turn.alloc {H : Nat → Prop} (A : World) (o : Obj) : Turn H A (A.alloc o) := Turn.ofBelow ((Below.refl _ A).alloc (Nat.le_refl _) o)
theorem Turn.putObj {H : Nat → Prop} (A : World) {l : Nat} (o : Obj) (h : H l) : Turn H A (A.putObj l o) :=
  ⟨rfl, rfl, rfl, by simp, fun k _ hk => World.putObj_heap_other fun e => hk (e ▸ h)⟩
theorem Turn.setCell {H : Nat → Prop} (A : World) (p : Addr) (v : Value) (h : H p.block) : Turn H A (A.setCell p v) :=
  ⟨rfl, rfl, rfl, by simp [World.setCell], fun k _ hk => Below.heap_setCell _ _ _ _ fun e => hk (e ▸ h)⟩
theorem Turn.below {H : Nat → Prop} {A B : World} (h : Turn H A B) {n : Nat} (hn : ∀ k, k < n → k < A.heap.size ∧ ¬H k) : Below n A B := ⟨h.os, h.tape, h.output, h.size, fun k hk => h.block k (hn k hk).1 (hn k hk).2⟩
theorem Turn.box {H : Nat → Prop} {A B : World} (h : Turn H A B) {b : Nat} {cs : Array Value} (hb : Box A b cs) (hn : ¬H b) : Box B b cs := by
  have hl := hb.lt
  obtain ⟨t, hb⟩ := hb
  exact ⟨t, (h.block b hl hn).trans hb⟩
/-- From A to A' the blocks that H names lie as they lay. -/
def Kept (H : Nat → Prop) (A A' : World) : Prop := Turn (fun k => ¬H k) A A'
theorem Kept.block {H : Nat → Prop} {A A' : World} (h : Kept H A A') {k : Nat} (hk : k < A.heap.size) (hH : H k) : A'.heap[k]? = A.heap[k]? := Turn.block h k hk fun hn => hn hH
theorem Kept.box {H : Nat → Prop} {A A' : World} (h : Kept H A A') {b : Nat} {cs : Array Value} (hb : Box A b cs) (hH : H b) : Box A' b cs := Turn.box h hb fun hn => hn hH

section
variable {α : Type} {P : Program}

/-- The iterator's word to the caller's invariant: it turns what it holds alone; what it holds it has laid itself. -/
def Abide (J : (Nat → Prop) → List α → World → Prop) : Prop :=
  ∀ (H H' : Nat → Prop) s A A', J H s A → Turn H A A' → (∀ k, H' k → (H k ∨ A.heap.size ≤ k) ∧ k < A'.heap.size) → J H' s A'
/-- AN ITERATOR's CONTRACT AT A WORLD: what comes is one of S; Rd: the blocks that it reads. -/
def SeqAt (n : Nat) (P : Program) (g : Nat) (lb : Array Value) (encs : α → Array Value) (S : List α → Prop) (N : Nat) (Rd : Nat → Prop) (W : World) : Prop :=
  ∀ (l : Nat) (J : (Nat → Prop) → List α → World → Prop), Abide J →
    (∀ H pre x W1, J H pre W1 → pre.length < N → (∀ k, H k → W.heap.size ≤ k) → YieldAt Fence.wide (n - 1) P l (encs x) W1 fun e W' => e = .returned (.bool true) ∧ J H (pre ++ [x]) W' ∧ Kept (fun k => Rd k ∨ H k) W1 W') →
    J (fun _ => False) [] W →
    CallsIn Fence.wide n P g (#[.func (.yield l) #[] #[]] ++ lb) W fun e W' => (∃ v, e = .returned v) ∧ ∃ xs H, S xs ∧ J H xs W' ∧ ∀ k, H k → W.heap.size ≤ k

/-- What a round's body owes. -/
def roundEnds (I : (Nat → Prop) → List α → World → Prop) (Rd H : Nat → Prop) (s : List α) (W : World) : Exit → Act → World → Prop
  | .normal, _, W' => Kept (fun k => Rd k ∨ H k) W W' ∧ I H s W'
  | _, _, _ => False

theorem wp_rangeSeq {n : Nat} {g : Operand} {ps : Array Tmp} {assign body : Code} {Q : Exit → Act → World → Prop} {a : Act} {w : World}
    {gf : Nat} {lb : Array Value} (hg : a.eval g = .func (.func gf) #[] lb) (eg : ∀ args w, (callFunc gf args).run P w = .ok (.enter gf args) w)
    {encs : α → Array Value} {S : List α → Prop} {N : Nat} {Rd : Nat → Prop} (hseq : ∀ W, Below w.heap.size w W → SeqAt (n - 1) P gf lb encs S N Rd W) (hRd : ∀ k, Rd k → k < w.heap.size) (hps : ∀ x, (encs x).size = ps.size)
    (I : (Nat → Prop) → List α → World → Prop)
    (hI : ∀ (H H' : Nat → Prop) s A A', I H s A → Turn H A A' → (∀ k, H k → w.heap.size ≤ k) → (∀ k, H' k → (H k ∨ A.heap.size ≤ k) ∧ k < A'.heap.size) → I H' s A') (h0 : I (fun _ => False) [] w)
    (hround : ∀ (l : Nat) (H : Nat → Prop) (pre : List α) (x : α) (W : World), I H pre W → pre.length < N → (∀ k, H k → w.heap.size ≤ k ∧ k < W.heap.size) → H l →
      assign.wpIn (Fence.wide.inRound l) (n - 1 - 1) P (Exit.then (fun a₁ W1 => Kept (fun k => Rd k ∨ H k) W W1 ∧ ∀ W2, Turn (fun k => k = l) W1 W2 → body.wpIn (Fence.wide.inRound l) (n - 1 - 1) P (roundEnds I Rd H (pre ++ [x]) W2) a₁ W2) (fun _ _ _ => False))
        { tmps := (ps.zip (encs x)).foldl (fun t (p, v) => t.setIfInBounds p v) a.tmps, defers := [] } W)
    (hdone : ∀ (H : Nat → Prop) (xs : List α) (W : World), S xs → I H xs W → (∀ k, H k → w.heap.size ≤ k ∧ k < W.heap.size) → H w.heap.size → W.heap[w.heap.size]? = some (.deferred (some [])) → Q .normal { a with defers := { target := .collected w.heap.size, args := #[] } :: a.defers } W) :
    (Code.rangeFunc g ps assign body).wpIn Fence.wide n P Q a w := by
  refine wpIn_rangeFunc ?_
  intro fn hfn
  obtain ⟨rec, hrec⟩ : ∃ rec : LoopState → Loop, rec = fun st => { state := st, pending := none, fn, tmps := a.tmps, params := ps, assign, body, defers := w.heap.size } := ⟨_, rfl⟩
  obtain ⟨W1, hW1⟩ : ∃ W1, (w.alloc (.deferred (some []))).alloc (.loop (rec .ready)) = W1 := ⟨_, rfl⟩
  have hs1 : W1.heap.size = w.heap.size + 2 := by rw [← hW1]; simp
  have hL1 : W1.heap[w.heap.size + 1]? = some (.loop (rec .ready)) := by
    rw [← hW1]; have := World.alloc_heap_new (w.alloc (.deferred (some []))) (.loop (rec .ready)); rwa [World.size_alloc] at this
  have hK1 : W1.heap[w.heap.size]? = some (.deferred (some [])) := by
    rw [← hW1]; exact (Below.heap_alloc _ _ _ (by simp)).trans (World.alloc_heap_new w _)
  have hb1 : Below w.heap.size w W1 := by
    rw [← hW1]; exact (((Below.refl _ w).alloc (Nat.le_refl _) _).alloc (by simp) _)
  -- what a round sees as held: the iterator's blocks and the loop's own two
  obtain ⟨U, hU⟩ : ∃ U : (Nat → Prop) → Nat → Prop, U = fun H k => H k ∨ k = w.heap.size ∨ k = w.heap.size + 1 := ⟨_, rfl⟩
  have hU1 : ∀ H k, U H k → H k ∨ k = w.heap.size ∨ k = w.heap.size + 1 := fun H k h => by rw [hU] at h; exact h
  have hU2 : ∀ H k, H k ∨ k = w.heap.size ∨ k = w.heap.size + 1 → U H k := fun H k h => by rw [hU]; exact h
  refine ⟨w.heap.size + 1, [{ target := .collected w.heap.size, args := #[] }], W1, { target := .fn (.func gf) lb, args := #[.func (.yield (w.heap.size + 1)) #[] #[]] }, W1, gf,
    #[.func (.yield (w.heap.size + 1)) #[] #[]] ++ lb, W1, ?_, ?_, fun _ _ => trivial, ?_, fun h => absurd h (by decide), ?_⟩
  · rw [← hW1, hrec]; exact run_enterLoop_outer _ _ _ _ _
  · simp only [resolve, hg]
    simp [go_sem]
  · simp [invoke, go_sem, eg]
  · refine (hseq W1 hb1 (w.heap.size + 1)
      (fun H pre W => (∀ k, H k → W1.heap.size ≤ k ∧ k < W.heap.size) ∧ I (U H) pre W ∧ W.heap[w.heap.size + 1]? = some (.loop (rec .ready)) ∧ W.heap[w.heap.size]? = some (.deferred (some [])) ∧ W1.heap.size ≤ W.heap.size)
      ?_ ?_ ⟨fun _ h => h.elim, hI _ _ _ _ _ h0 (Turn.ofBelow hb1) (fun _ h => h.elim) (fun k h => ?_), hL1, hK1, Nat.le_refl _⟩).mono ?_
    · -- the iterator's steps
      rintro H H' s A A' ⟨j1, j2, j3, j4, j5⟩ hT hH'
      have n0 : ¬H w.heap.size := fun h => by have := (j1 _ h).1; omega
      have n1 : ¬H (w.heap.size + 1) := fun h => by have := (j1 _ h).1; omega
      refine ⟨fun k h => ⟨?_, (hH' k h).2⟩, hI _ _ _ _ _ j2 (hT.mono fun k _ h => hU2 _ _ (.inl h)) (fun k h => ?_) (fun k h => ?_), (hT.block _ (by omega) n1).trans j3, (hT.block _ (by omega) n0).trans j4, Nat.le_trans j5 hT.size⟩
      · rcases (hH' k h).1 with h | h
        · exact (j1 k h).1
        · omega
      · rcases hU1 _ _ h with h | h | h
        · have := (j1 k h).1; omega
        · omega
        · omega
      · have hsz := hT.size
        rcases hU1 _ _ h with h | h | h
        · refine ⟨?_, (hH' k h).2⟩
          rcases (hH' k h).1 with h | h
          · exact .inl (hU2 _ _ (.inl h))
          · exact .inr h
        · exact ⟨.inl (hU2 _ _ (.inr (.inl h))), by omega⟩
        · exact ⟨.inl (hU2 _ _ (.inr (.inr h))), by omega⟩
    · -- one round
      rintro H pre x W ⟨j1, j2, j3, j4, j5⟩ hlen hHW
      have hlt : w.heap.size + 1 < W.heap.size := by omega
      have hy := run_yield (P := P) (args := encs x) j3 (by rw [hrec]; exact hps x)
      rw [hrec] at hy
      have hUb : ∀ k, U H k → w.heap.size ≤ k ∧ k < W.heap.size := fun k h => by
        rcases hU1 _ _ h with h | h | h
        · have := j1 k h; omega
        · omega
        · omega
      have hUl : U H (w.heap.size + 1) := hU2 _ _ (.inr (.inr rfl))
      have hUd : U H w.heap.size := hU2 _ _ (.inr (.inl rfl))
      refine ⟨fn, _, assign, body, hy, roundIn_of_wpIn hfn (wpIn_mono (hround _ (U H) pre x W j2 hlen hUb hUl) ?_)⟩
      rintro e a₁ W2 hp
      cases e with
      | normal =>
        obtain ⟨hk, hbody⟩ := hp
        have hl2 := (hk.block (by omega) (.inr hUl)).trans j3
        have hd2 := (hk.block (by omega) (.inr hUd)).trans j4
        refine ⟨_, run_beginRound hl2 (by rw [hrec]), wpIn_mono (hbody _ (Turn.putObj _ _ rfl)) ?_⟩
        rintro e a3 W3 hp
        cases e with
        | normal =>
          obtain ⟨hk3, hi3⟩ := hp
          have hsz2 : W.heap.size ≤ W2.heap.size := hk.size
          have hl3 : W3.heap[w.heap.size + 1]? = some (.loop { rec .ready with state := .busy }) := (hk3.block (by simp; omega) (.inr hUl)).trans (World.putObj_heap_same (by omega))
          have hd3 : W3.heap[w.heap.size]? = some (.deferred (some [])) := (hk3.block (by simp; omega) (.inr hUd)).trans ((World.putObj_heap_other (by omega)).trans hd2)
          have hr := run_endRound (P := P) none hl3
          rw [hrec] at hr
          have hsz3 : W2.heap.size ≤ W3.heap.size := by have := hk3.size; simpa using this
          have hT3 : Turn (U H) W3 (W3.putObj (w.heap.size + 1) (.loop (rec .ready))) := Turn.putObj _ _ hUl
          refine ⟨_, _, hr, rfl, ⟨fun k h => ⟨(j1 k h).1, by have := (j1 k h).2; simp; omega⟩, ?_, ?_, ?_, by simp; omega⟩, ?_⟩
          · have := hI _ _ _ _ _ hi3 hT3 (fun k h => (hUb k h).1) (fun k h => ⟨.inl h, by have := (hUb k h).2; simp; omega⟩)
            rw [hrec] at this
            exact this
          · rw [hrec]; exact World.putObj_heap_same (by omega)
          · exact (World.putObj_heap_other (by omega)).trans hd3
          · have hkk : ∀ {A B : World}, Kept (fun k => Rd k ∨ U H k) A B → Kept (fun k => Rd k ∨ H k) A B := fun h => Turn.mono h fun k _ hn hx => hn (hx.imp id fun hx => hU2 _ _ (.inl hx))
            have hnl : ∀ (A : World) (o : Obj), Kept (fun k => Rd k ∨ H k) A (A.putObj (w.heap.size + 1) o) := fun A o => Turn.putObj _ _ fun h => by
              rcases h with h | h
              · have := hRd _ h; omega
              · have := (j1 _ h).1; omega
            exact ((hkk hk).trans (hnl _ _)).trans ((hkk hk3).trans (hnl _ _))
        | _ => exact hp.elim
      | _ => exact hp.elim
    · rcases hU1 _ _ h with h | h | h
      · exact h.elim
      · exact ⟨.inr (by omega), by omega⟩
      · exact ⟨.inr (by omega), by omega⟩
    · -- behind the iterator
      rintro e W2 ⟨⟨v, rfl⟩, xs, H, hS, ⟨j1, j2, j3, j4, j5⟩, hH⟩
      have hr := run_endLoop (P := P) j3 (by rw [hrec]; simp)
      rw [hrec] at hr
      have hUb : ∀ k, U H k → w.heap.size ≤ k := fun k h => by
        rcases hU1 _ _ h with h | h | h
        · have := (j1 k h).1; omega
        · omega
        · omega
      have hUs : ∀ k, U H k → k < W2.heap.size := fun k h => by
        rcases hU1 _ _ h with h | h | h
        · exact (j1 k h).2
        · omega
        · omega
      refine ⟨none, _, hr, hdone (U H) xs _ hS (hI _ _ _ _ _ j2 (Turn.putObj _ _ (hU2 _ _ (.inr (.inr rfl)))) hUb (fun k h => ⟨.inl h, by simpa using hUs k h⟩)) (fun k h => ⟨hUb k h, by simpa using hUs k h⟩) (hU2 _ _ (.inr (.inl rfl))) ((World.putObj_heap_other (by omega)).trans j4)⟩
end
end Go.Proofs.YtnjmplapjnnjdaaGreat
