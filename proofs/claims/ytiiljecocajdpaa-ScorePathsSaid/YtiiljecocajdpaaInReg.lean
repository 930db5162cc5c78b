import Derived.Test.YtiiljecocajdpaaSeq
/- Arms for operations in a fence that lets all in, in a round or not. No program's text is named here. -/
namespace Go.Proofs.Ytiiljecocajdpaa
open Go.RowKit Go.Shelf

section
variable {P : Program} {ops : Array Oper} {rest : List Oper} {Q : Exit → Act → World → Prop} {w w' : World} {a : Act} {o : Oper} {F : Fence} {n : Nat}

theorem semAt_exec {r : Option Nat} (ρ : Operand → Value) (hnd : ∀ c, o.op ≠ .defer c) : o.semAt r ρ = execOp ρ o := by
  cases r with
  | none => rfl
  | some l => exact Oper.semAt_some l ρ o hnd
theorem in_value (hF : ∀ f, F.fn f) (hnd : ∀ c, o.op ≠ .defer c) (hw : Region.wanted o (yielded ops a.tmps) = true) {v : Value} (hr : (execOp a.eval o).run P w = .ok (.value v) w') (h : wpListIn F n P ops Q rest (a.put o.dst v) w') : wpListIn F n P ops Q (o :: rest) a w := by
  unfold wpListIn
  rw [if_pos hw]
  refine ⟨fun f _ => hF f, ?_⟩
  rw [semAt_exec _ hnd, hr]
  exact h
theorem in_skip (hF : ∀ f, F.fn f) (hnd : ∀ c, o.op ≠ .defer c) (hw : Region.wanted o (yielded ops a.tmps) = true) (hr : (execOp a.eval o).run P w = .ok .skip w') (h : wpListIn F n P ops Q rest (a.put o.dst undef) w') : wpListIn F n P ops Q (o :: rest) a w := by
  unfold wpListIn
  rw [if_pos hw]
  refine ⟨fun f _ => hF f, ?_⟩
  rw [semAt_exec _ hnd, hr]
  exact h
/-- THE ARM for a load of a whole struct or array. -/
theorem ldIn {l l' : List Value} {ds : List Deferred} {t m b off d : Nat} {x : Operand} {v : Value} {ty : TypeId} {ps : String} {af : Array Edge} (hF : ∀ f, F.fn f)
    (hx : (Act.mk l.toArray ds).eval x = .pointer (some ⟨b, off, none⟩)) [T : AggTy P t m] (hl : loadAgg w b off m = .ok v w) (hs : l.set d v = l') (h : wpListIn F n P ops Q rest ⟨l'.toArray, ds⟩ w) :
    wpListIn F n P ops Q (⟨some d, .load t x, ty, ps, af, none⟩ :: rest) ⟨l.toArray, ds⟩ w := by
  obtain ⟨_, h1, h2, h3⟩ := T.out
  have := run_loadVar_agg (P := P) (w := w) (b := b) (off := off) h1 h2 h3 (by rw [hl]; rfl)
  refine in_value (v := v) (w' := w) hF (fun c h => by cases h) rfl ?_ (by rw [put_list, hs]; exact h)
  unfold execOp
  simp only [hx, Instr.loadAt, Instr.sureAddr, Sem.run_bind, Sem.run_pure, Result.andThen_ok, this, hl]
/-- THE ARM for a store of a whole struct or array into a variable of its own block. -/
theorem stIn {l : List Value} {ds : List Deferred} {t m b : Nat} {x y : Operand} {cs old : Array Value} {ty : TypeId} {ps : String} {af : Array Edge} (hF : ∀ f, F.fn f)
    (hx : (Act.mk l.toArray ds).eval x = .pointer (some ⟨b, 0, none⟩)) [T : AggTy P t m] (hy : (Act.mk l.toArray ds).eval y = .agg cs) (hb : Box w b old) (ho : old.size = m) (hn : cs.size = m) (hf : Flat cs)
    (h : ∀ w', Box w' b cs → Below b w w' → (∀ k, k ≠ b → w'.heap[k]? = w.heap[k]?) → w'.heap.size = w.heap.size → wpListIn F n P ops Q rest ⟨l.toArray, ds⟩ w') : wpListIn F n P ops Q (⟨none, .store t x y, ty, ps, af, none⟩ :: rest) ⟨l.toArray, ds⟩ w := by
  obtain ⟨d, h1, h2, h3⟩ := T.out
  obtain ⟨tb, hb⟩ := hb
  obtain ⟨w', hr, hh, hB, hs, hoth⟩ := run_storeCells_box (P := P) cs.toList 0 w b [] old.toList tb hf (by simpa using hb) rfl (by simp [hn, ho])
  refine in_skip (w' := w') hF (fun c h => by cases h) rfl ?_ (by simpa [Act.put] using h w' ⟨tb, by simpa using hh⟩ hB hoth hs)
  unfold execOp
  cases hq : P.info? t with
  | none => simp [hq] at h3
  | some i =>
    have hsz : i.size = m := by simpa [hq] using h3
    simp only [hx, hy, Instr.storeAt, Instr.sureAddr, Sem.run_bind, Sem.run_pure, Result.andThen_ok, storeVar, sizeOf, typeInfo, program, Sem.run, hq, hsz, Value.cells, hn, ne_eq, not_true_eq_false, if_false, hr]
end
theorem fn_wide : ∀ f, Fence.wide.fn f := fun _ => trivial
theorem fn_round (l : Nat) : ∀ f, (Fence.wide.inRound l).fn f := fun _ => trivial
end Go.Proofs.Ytiiljecocajdpaa
/- A region that draws its order, in the round of a range over a function: fixed values first, then a forced order. No program's text is named here. -/
namespace Go.Proofs.Ytiiljecocajdpaa
open Go.RowKit Go.Shelf

section
variable {P : Program} {ops : Array Oper} {md : Region.Mode} {w0 : World} {F : Fence} {n : Nat}

theorem wpAnyIn_of_seq {Q' : Exit → Act → World → Prop} : ∀ (l : List Oper) (k : Nat) (listed : Array Bool) (a : Act) (w : World), (∀ j, l[j]? = ops[k + j]?) →
    Region.seqB md ops l.length k listed = true → wpListIn F n P ops Q' l a w → wpAnyIn F n P md ops Q' l.length listed a w
  | [], _, _, _, _, _, hB, h => ⟨by simpa [Region.seqB] using hB, h⟩
  | o :: l, k, listed, a, w, hl, hB, h => by
    have h0 : ops[k]? = some o := by simpa using (hl 0).symm
    simp only [List.length_cons, Region.seqB, Bool.and_eq_true, decide_eq_true_eq] at hB
    refine ⟨fun h1 => (by rw [hB.1] at h1; cases h1), fun i hi => ?_⟩
    rw [hB.1] at hi
    have hik : i = k := by simpa using hi
    subst hik
    have hw : wpOpIn F n P ops Q' i (wpListIn F n P ops Q' l) a w := by unfold wpOpIn; simp only [h0]; exact h
    exact wpOpIn_mono (fun a' w' h' => wpAnyIn_of_seq l (i + 1) _ a' w' (fun j => by have := hl (j + 1); simpa [Nat.add_assoc, Nat.add_comm 1 j] using this) hB.2 h') hw
theorem wpOpIn_of_knOp {lp i : Nat} {a : Act} {S : World → Prop} {K : Act → (World → Prop) → Prop} {K' : Act → World → Prop} {Q' : Exit → Act → World → Prop} {w : World} (hnd : ∀ (j : Nat) (o : Oper), ops[j]? = some o → ∀ c, o.op ≠ .defer c) (hw : Ext w0 w) (hS : S w) (hst : Stable S)
    (h : ∀ a S' w', Ext w0 w' → Stable S' → S' w' → K a S' → K' a w') (hh : knOp P ops w0 i K a S) : wpOpIn (Fence.wide.inRound lp) n P ops Q' i K' a w := by
  unfold knOp at hh
  unfold wpOpIn
  split
  · rename_i hi; rw [hi] at hh; exact h _ _ _ hw hst hS hh
  · rename_i o hi
    rw [hi] at hh
    simp only at hh
    split
    · rename_i hwt
      rw [if_pos hwt] at hh
      obtain ⟨R, hR, hn⟩ := hh
      refine ⟨fun _ _ => trivial, ?_⟩
      have h3 := hR.run w hw hS
      rw [semAt_exec _ (hnd i o hi)]
      generalize (execOp a.eval o).run P w = r at *
      have fin : ∀ v w', Ext w w' → R v w' → K' (a.put o.dst v) w' := fun v w' he hr =>
        h _ _ _ (ext_trans hw he) (fun x y hx hs => ⟨hst x y hx hs.1, hR.stable v x y hx hs.2⟩) ⟨hst _ _ he hS, hr⟩ (hn v ⟨w', hr⟩)
      cases r with
      | ok m w' =>
        cases m <;> simp only [freeUpon] at h3 <;> simp only [Oper.uponIn]
        case value u => exact fin _ _ h3.1 h3.2
        case skip => exact fin _ _ h3.1 h3.2
        case enter f args =>
          refine ⟨fun h => (by cases h), CallsIn.inRound lp (callsIn_wide.2 ?_)⟩
          exact h3.2.2.mono fun e w'' ⟨⟨v, he, hr⟩, hx⟩ => by subst he; exact fin _ _ (ext_trans h3.2.1 hx) hr
      | halt x w' => simp only [freeUpon] at h3
    · rename_i hwt; rw [if_neg hwt] at hh; exact ⟨fun _ _ => trivial, h _ _ _ hw hst hS hh⟩
theorem anyIn_of_headKn {lp m g : Nat} {L : Array Bool → Act → (World → Prop) → Prop} {Q' : Exit → Act → World → Prop} (hnd : ∀ (j : Nat) (o : Oper), ops[j]? = some o → ∀ c, o.op ≠ .defer c) (hL : ∀ done a S w, Ext w0 w → Stable S → S w → L done a S → wpAnyIn (Fence.wide.inRound lp) n P md ops Q' g done a w) (f : Nat) :
    ∀ (done : Array Bool) (a : Act) (S : World → Prop) (w : World), Ext w0 w → Stable S → S w → headKn P md ops w0 m L f done a S → wpAnyIn (Fence.wide.inRound lp) n P md ops Q' (f + g) done a w := by
  induction f with
  | zero => intro done a S w hw hst hS h; rw [Nat.zero_add]; exact hL _ _ _ _ hw hst hS h
  | succ f ih =>
    intro done a S w hw hst hS h
    rw [show f + 1 + g = (f + g) + 1 by omega]
    refine ⟨fun h0 => absurd h0 h.1, fun i hi => ?_⟩
    exact wpOpIn_of_knOp hnd hw hS hst (fun a' S' w' hw' hst' hS' h' => ih _ a' S' w' hw' hst' hS' h') (h.2 i hi).2
theorem wpDet_mono {K K' : Act → Prop} (hk : ∀ a, K a → K' a) : ∀ (l : List Oper) (a : Act), wpDet P ops w0 K l a → wpDet P ops w0 K' l a
  | [], a, h => hk a h
  | o :: l, a, h => by
    unfold wpDet at h ⊢
    split
    · rename_i hw
      rw [if_pos hw] at h
      obtain ⟨v, hv, hn⟩ := h
      exact ⟨v, hv, wpDet_mono hk l _ hn⟩
    · rename_i hw
      rw [if_neg hw] at h
      exact wpDet_mono hk l _ h
theorem seqB_marked {g : Nat} : ∀ (f k : Nat) (d : Array Bool), Region.lexHead md ops g f k d = true → Region.seqB md ops g (k + f) (marked k f d) = true
  | 0, k, d, h => h
  | f + 1, k, d, h => by
    simp only [Region.lexHead, Bool.and_eq_true] at h
    have := seqB_marked f (k + 1) _ h.2
    rw [show k + (f + 1) = k + 1 + f by omega]
    exact this
/-- THE LAW: n operations of fixed values, then a forced order. -/
theorem wpIn_region_det_tail {lp id : Nat} {Q : Exit → Act → World → Prop} {a : Act} {w : World} {l : List Oper} (m : Nat) (hm : P.follows .mixedOrders = true) (hB : Region.lexTailB .any l.toArray m = true) (hnd : (l.all fun o => match o.op with | .defer _ => false | _ => true) = true)
    (h : wpDet P l.toArray w (fun a' => ∀ w', Ext w w' → wpListIn (Fence.wide.inRound lp) n P l.toArray Q (l.drop m) a' w') (l.take m) a) : (Code.region id l.toArray true).wpIn (Fence.wide.inRound lp) n P Q a w := by
  have hnd' : ∀ (j : Nat) (o : Oper), l.toArray[j]? = some o → ∀ c, o.op ≠ .defer c := fun j o hj c hc => by
    have ho : o ∈ l := List.mem_of_getElem? (by simpa using hj)
    have := List.all_eq_true.1 hnd o ho
    rw [hc] at this
    cases this
  simp only [Region.lexTailB, Bool.and_eq_true, decide_eq_true_eq] at hB
  obtain ⟨⟨⟨⟨hsel, hn⟩, hs⟩, hc⟩, hlex⟩ := hB
  have hn' : m < l.length := by simpa using hn
  have htl : (l.take m).length = m := by simp; omega
  have hdl : (l.drop m).length = l.toArray.size - m := by simp
  have inv0 : HeadInv .any l.toArray m (Array.replicate l.toArray.size false) :=
    ⟨by simp, fun j oj _ hl => (by rw [getD_replicate_false] at hl; cases hl), fun t _ ht => getD_in (by simpa using ht) (getD_replicate_false _ _)⟩
  have hQ : Anti (fun a'' S => ∀ w', Ext w w' → S w' → wpListIn (Fence.wide.inRound lp) n P l.toArray Q (l.drop m) a'' w') := fun _ _ _ hS hh w' hw hs => hh w' hw (hS w' hs)
  have H := headKn_lex1 (P := P) (md := .any) (g := l.toArray.size - m) (S := fun _ => True) (w0 := w) hQ hsel hs hc hn (post := []) (l.take m) 0 (Array.replicate l.toArray.size false) a (fun j hj => by
      rw [List.append_nil] at hj ⊢
      rw [htl] at hj
      simp [hj]) (by rw [List.append_nil]; simpa using htl) inv0 (by rw [List.append_nil, htl]; exact hlex) ?_
  · rw [List.append_nil] at H
    refine wpIn_region_any hm ?_
    have fin := anyIn_of_headKn (Q' := Q) (n := n) (lp := lp) (g := l.toArray.size - m) hnd' (fun d a' S' w' hw' _ hS' hL => by
      have := wpAnyIn_of_seq (F := Fence.wide.inRound lp) (n := n) (md := .any) (Q' := Q) (l.drop m) m d a' w' (fun j => by simp [List.getElem?_drop]) (by rw [hdl]; exact hL.1) (hL.2 w' hw' hS')
      rwa [hdl] at this) _ _ _ _ _ ((Below.refl _ w).drew) (fun _ _ _ _ => trivial) trivial H
    rw [htl, show m + (l.toArray.size - m) = l.toArray.size by omega] at fin
    exact fin
  · refine wpDet_mono (fun a' ha => ?_) _ _ h
    have hsq := seqB_marked (md := .any) (ops := l.toArray) m 0 _ hlex
    rw [Nat.zero_add] at hsq
    show headKn _ _ _ _ _ _ 0 _ _ _
    refine ⟨?_, fun w' hx _ => ha w' hx⟩
    rw [htl]
    exact hsq
end
end Go.Proofs.Ytiiljecocajdpaa
