import Derived.Test.YtkjnmjilkhigaaaCallR
set_option linter.unusedSimpArgs false
set_option linter.unusedVariables false
set_option linter.unnecessarySimpa false
/- A region that draws its order, whose first operation is a bare move that nothing but the last ones wait for: it may be taken first. No program's text is named here. -/
namespace Go.Proofs.Ytkjnmjilkhigaaa
open Go.RowKit

section
variable {P : Program} {ops ops' : Array Oper} {md : Region.Mode} {Q Q' : Exit → Act → World → Prop}
theorem upon_Q {o : Oper} {a : Act} {K : Act → World → Prop} (hQ : ∀ e a w, Q e a w → Q' e a w) (r : Result Next) (h : o.upon P a K Q r) : o.upon P a K Q' r := by
  cases r with
  | ok n w' =>
    cases n <;> simp only [Oper.upon] at h ⊢ <;> first
      | exact h
      | exact Calls.mono h (fun e w'' he => by
          cases e with
          | returned v => exact he
          | panicked c => exact hQ _ _ _ he
          | outgrown => obtain ⟨a, w, h⟩ := he; exact ⟨a, w, hQ _ _ _ h⟩)
  | halt x w' => cases x <;> simp only [Oper.upon] at h ⊢ <;> first | exact h | exact hQ _ _ _ h
theorem wpOp_Q {i : Nat} {K : Act → World → Prop} {a : Act} {w : World} (hQ : ∀ e a w, Q e a w → Q' e a w) (h : wpOp P ops Q i K a w) : wpOp P ops Q' i K a w := by
  unfold wpOp at *
  split
  · rename_i hk; rw [hk] at h; exact h
  · rename_i o hk
    rw [hk] at h
    simp only at h
    split
    · rename_i hw
      rw [if_pos hw] at h
      exact h.imp (upon_Q hQ _) (fun ⟨h1, a, w, h2⟩ => ⟨h1, a, w, hQ _ _ _ h2⟩)
    · rename_i hw; rw [if_neg hw] at h; exact h
theorem wpAny_Q (hQ : ∀ e a w, Q e a w → Q' e a w) : ∀ (f : Nat) (listed : Array Bool) (a : Act) (w : World), wpAny P md ops Q f listed a w → wpAny P md ops Q' f listed a w
  | 0, _, _, _, h => ⟨h.1, hQ _ _ _ h.2⟩
  | f + 1, _, _, _, h => ⟨fun hr => hQ _ _ _ (h.1 hr), fun i hi => wpOp_mono (fun a w h' => wpAny_Q hQ f _ a w h') (wpOp_Q hQ (h.2 i hi))⟩
/-- Another operation, where the move has come first. -/
theorem wpOp_put {j d : Nat} {oj : Oper} {x : Operand} {v : Value} {K : Act → World → Prop} {a : Act} {w : World} (hj : ops[j]? = some oj) (hsel : ∀ cs b, oj.op ≠ .select cs b) (p1 : d ∉ oj.looksAt ops) (p2 : oj.dst ≠ some d) (p3 : ∀ e, oj.dst = some e → x ≠ .tmp e)
    (hQ : ∀ e a w, Q e a w → e = .normal) (h : wpOp P ops Q j K (a.put (some d) v) w) : wpOp P ops Q j (fun a' w' => a'.eval x = a.eval x ∧ K (a'.put (some d) v) w') a w := by
  have c1 : execOp (a.put (some d) v).eval oj = execOp a.eval oj := execOp_put oj hsel a (some d) v (fun e he => by obtain rfl := Option.some.inj he; exact p1)
  have c2 : Region.wanted oj (yielded ops (a.put (some d) v).tmps) = Region.wanted oj (yielded ops a.tmps) := wanted_put oj a (some d) v (fun e he => by obtain rfl := Option.some.inj he; exact p1)
  have lets : ¬LetsOut Q := fun ⟨a, w, h⟩ => by cases hQ _ _ _ h
  have key : ∀ u w', K ((a.put (some d) v).put oj.dst u) w' → (a.put oj.dst u).eval x = a.eval x ∧ K ((a.put oj.dst u).put (some d) v) w' := fun u w' hk =>
    ⟨Act.eval_put p3, by rw [Act.put_comm a u v (x := oj.dst) (y := some d) (fun e he he' => p2 (he.trans he'.symm))]; exact hk⟩
  unfold wpOp at *
  rw [hj] at h ⊢
  simp only at h ⊢
  rw [c2] at h
  split
  · rename_i hw
    rw [if_pos hw] at h
    rcases h with h | h
    · refine .inl ?_
      unfold Oper.wp at h ⊢
      rw [c1] at h
      generalize (execOp a.eval oj).run P w = r at h ⊢
      cases r with
      | ok n w' =>
        cases n <;> simp only [Oper.upon] at h ⊢
        case value u => exact key _ _ h
        case skip => exact key _ _ h
        case defer df =>
          refine ⟨Act.eval_put p3, ?_⟩
          rw [Act.put_defers] at h
          have e1 : ({ a.put (some d) v with defers := df :: (a.put (some d) v).defers } : Act).put oj.dst undef = (({ a with defers := df :: a.defers } : Act).put oj.dst undef).put (some d) v := by
            rw [Act.put_defers a (some d) v df, Act.put_comm _ v undef (x := some d) (y := oj.dst) (fun e he he' => p2 (he'.trans he.symm))]
          first
            | (rw [← e1]; rw [Act.put_defers a (some d) v df]; exact h)
            | (rw [← e1]; exact h)
        case enter f args =>
          exact Calls.mono h fun e w'' he => by
            cases e with
            | returned u => exact key _ _ he
            | panicked c => cases hQ _ _ _ he
            | outgrown => exact he
        case row rw_ args => exact Rows.mono h fun u w'' he => key _ _ he
        all_goals exact h
      | halt y w' =>
        cases y <;> simp only [Oper.upon] at h ⊢
        case panic c => cases hQ _ _ _ h
        all_goals exact h
    · exact absurd h.2 lets
  · rename_i hw
    rw [if_neg hw] at h
    exact key _ _ h
theorem wpAny_move {d : Nat} {x : Operand} {ty : TypeId} {ps : String} {af : Array Edge} (h0 : ops[0]? = some ⟨some d, .move x, ty, ps, af, none⟩) (hsel : Region.noSelect ops = true) (hQ : ∀ e a w, Q e a w → e = .normal) : ∀ (f : Nat) (listed : Array Bool) (a : Act) (w : World),
    (∀ j oj, ops[j]? = some oj → j ≠ 0 → listed.getD j true = false → (∀ e ∈ oj.after, Region.binds md e = true → e.on ≠ 0) → Oper.apart ops ⟨some d, .move x, ty, ps, af, none⟩ oj = true) → 0 ∈ Region.ready md ops listed →
    wpAny P md ops Q f (listed.setIfInBounds 0 true) (a.put (some d) (a.eval x)) w → wpAny P md ops Q (f + 1) listed a w := by
  have op0 : ∀ (K : Act → World → Prop) (a : Act) (w : World), K (a.put (some d) (a.eval x)) w → wpOp P ops Q 0 K a w := fun K a w hK => by
    unfold wpOp
    rw [h0]
    simp only
    rw [if_pos (want_none rfl)]
    refine .inl ?_
    unfold Oper.wp execOp
    simp only [Sem.run_pure]
    exact hK
  intro f
  induction f with
  | zero =>
    intro listed a w _ hr H
    refine ⟨fun hh => (by rw [hh] at hr; cases hr), fun j hj => ?_⟩
    by_cases hj0 : j = 0
    · subst hj0; exact op0 _ _ _ H
    · have := ready_mono hj hj0
      rw [H.1] at this
      cases this
  | succ f ih =>
    intro listed a w hfree hr H
    refine ⟨fun hh => (by rw [hh] at hr; cases hr), fun j hj => ?_⟩
    by_cases hj0 : j = 0
    · subst hj0; exact op0 _ _ _ H
    obtain ⟨hjun, oj, hoj, hall⟩ := mem_ready.1 hj
    have hnot : ∀ e ∈ oj.after, Region.binds md e = true → e.on ≠ 0 := fun e he hb heq => by
      have h1 := hall e he hb
      have h2 := (mem_ready.1 hr).1
      rw [heq, getD_both h2] at h1
      cases h1
    have hap := hfree j oj hoj hj0 hjun hnot
    obtain ⟨p1, p2, p3⟩ := Oper.apart_spec hap
    have hx : ∀ e, oj.dst = some e → x ≠ .tmp e := fun e he hxe => p3 e he (by subst hxe; simp [Oper.looksAt, Op.operands])
    have step := wpOp_put hoj (Region.noSelect_spec hsel j oj · · hoj) (p1 d rfl) (fun hh => p2 d rfl hh) hx hQ (H.2 j (ready_mono hj hj0))
    refine wpOp_mono (fun a' w' ⟨e1, hk⟩ => ?_) step
    refine ih (listed.setIfInBounds j true) a' w' (fun k ok hk2 hk0 hun hno => ?_) (ready_mono hr (Ne.symm hj0)) ?_
    · refine hfree k ok hk2 hk0 ?_ hno
      by_cases hjk : j = k
      · subst hjk; exact hjun
      · rwa [getD_set_ne true hjk] at hun
    · rw [e1, Array.setIfInBounds_comm _ _ hj0]
      exact hk
/-- ops' is ops with more edges, all of them on operation 0. -/
structure Linked (ops ops' : Array Oper) : Prop where
  size : ops'.size = ops.size
  op : ∀ (i : Nat) (o' : Oper), ops'[i]? = some o' → ∃ o : Oper, ops[i]? = some o ∧ o' = { o with after := o'.after } ∧ (∀ e : Edge, e ∈ o.after → e ∈ o'.after) ∧ ∀ e : Edge, e ∈ o'.after → e ∈ o.after ∨ e.on = 0
theorem Linked.yielded (h : Linked ops ops') (t : Array Value) : Go.yielded ops' t = Go.yielded ops t := by
  funext j
  unfold Go.yielded
  have e : (ops'[j]?).bind (·.dst) = (ops[j]?).bind (·.dst) := by
    cases hj : ops'[j]? with
    | none =>
      have h1 : ops.size ≤ j := by rw [← h.size]; exact Array.getElem?_eq_none_iff.1 hj
      rw [Array.getElem?_eq_none h1]
    | some o' =>
      obtain ⟨o, h1, h2, _⟩ := h.op j o' hj
      rw [h1, h2]
      rfl
  rw [e]
theorem Linked.wpOp (h : Linked ops ops') {i : Nat} {K : Act → World → Prop} {a : Act} {w : World} (hh : Go.wpOp P ops' Q i K a w) : Go.wpOp P ops Q i K a w := by
  unfold Go.wpOp at *
  cases hj : ops'[i]? with
  | none =>
    have h1 : ops.size ≤ i := by rw [← h.size]; exact Array.getElem?_eq_none_iff.1 hj
    rw [Array.getElem?_eq_none h1]
    rw [hj] at hh
    exact hh
  | some o' =>
    obtain ⟨o, h1, h2, _⟩ := h.op i o' hj
    rw [hj] at hh
    rw [h1]
    simp only at hh ⊢
    rw [h.yielded] at hh
    rw [h2] at hh
    exact hh
theorem Linked.ready (h : Linked ops ops') {listed : Array Bool} (h0 : listed.getD 0 false = true) : Region.ready md ops' listed = Region.ready md ops listed := by
  unfold Region.ready
  rw [h.size]
  refine List.filter_congr fun i hi => ?_
  rw [List.mem_range] at hi
  congr 1
  have hi' : i < ops'.size := by rw [h.size]; exact hi
  obtain ⟨o, h1, h2, h3, h4⟩ := h.op i _ (Array.getElem?_eq_getElem hi')
  rw [Array.getElem?_eq_getElem hi', h1]
  simp only [Option.map_some, Option.getD_some]
  rw [Bool.eq_iff_iff, Array.all_eq_true_iff_forall_mem, Array.all_eq_true_iff_forall_mem]
  constructor
  · exact fun hh e he => hh e (h3 e he)
  · intro hh e he
    rcases h4 e he with h5 | h5
    · exact hh e h5
    · rw [h5, h0]; simp
theorem Linked.any (h : Linked ops ops') : ∀ (f : Nat) (listed : Array Bool) (a : Act) (w : World), listed.getD 0 false = true → wpAny P md ops' Q f listed a w → wpAny P md ops Q f listed a w
  | 0, listed, a, w, h0, hh => ⟨(h.ready h0).symm.trans hh.1, hh.2⟩
  | f + 1, listed, a, w, h0, hh => ⟨fun hr => hh.1 ((h.ready h0).trans hr), fun i hi => by
      refine wpOp_mono (fun a w h' => h.any f _ a w ?_ h') (h.wpOp (hh.2 i (by rw [h.ready h0]; exact hi)))
      by_cases hi0 : 0 = i
      · subst hi0
        have : 0 < listed.size := by
          rcases Nat.lt_or_ge 0 listed.size with h | h
          · exact h
          · simp [Array.getElem?_eq_none h] at h0
        simp [this]
      · have : (listed.setIfInBounds i true).getD 0 false = listed.getD 0 false := by simp [Array.getElem?_setIfInBounds_ne (Ne.symm hi0)]
        rw [this]; exact h0⟩
/-- The list with one edge more: operation n waits for operation 0. -/
def linkAt (n : Nat) (l : List Oper) : List Oper := l.modify n fun o => { o with after := o.after.push ⟨0, .data⟩ }
theorem linked_at (n : Nat) (l : List Oper) : Linked l.toArray (linkAt n l).toArray := by
  refine ⟨by simp [linkAt], fun i o' hi => ?_⟩
  simp only [linkAt, List.getElem?_toArray, List.getElem?_modify] at hi
  cases hl : l[i]? with
  | none => rw [hl] at hi; simp at hi
  | some o =>
    rw [hl] at hi
    refine ⟨o, by simpa using hl, ?_⟩
    by_cases hn : n = i
    · simp only [if_pos hn, Option.map_eq_map, Option.map_some] at hi
      obtain rfl := (Option.some.inj hi)
      exact ⟨rfl, fun e he => Array.mem_push_of_mem _ he, fun e he => by
        rcases Array.mem_push.1 he with h | h
        · exact .inl h
        · exact .inr (by rw [h])⟩
    · simp only [if_neg hn, Option.map_eq_map, Option.map_some] at hi
      obtain rfl := (Option.some.inj hi)
      exact ⟨rfl, fun e he => he, fun e he => .inl he⟩
def OnlyNormal (Q : Exit → Act → World → Prop) : Exit → Act → World → Prop := fun e a w => e = .normal ∧ Q e a w
theorem wpAny_free_tail {a : Act} {w : World} {l : List Oper} (n m : Nat) (hB : Region.lexTailB .any l.toArray (n + m) = true)
    (h : wpDet P l.toArray w (fun a' => wpFree P false l.toArray w (fun a'' S => ∀ w', Ext w w' → S w' → wpList P l.toArray Q (l.drop (n + m)) a'' w') ((l.drop n).take m) a' (fun _ => True)) (l.take n) a) :
    wpAny P .any l.toArray Q l.toArray.size (Array.replicate l.toArray.size false) a { w with drawn := w.drawn + 1 } := by
  simp only [Region.lexTailB, Bool.and_eq_true, decide_eq_true_eq] at hB
  obtain ⟨⟨⟨⟨hsel, hn⟩, hs⟩, hc⟩, hlex⟩ := hB
  have hn' : n + m < l.length := by simpa using hn
  have hap : l.take n ++ (l.drop n).take m = l.take (n + m) := by rw [List.take_add]
  have htl : (l.take (n + m)).length = n + m := by simp; omega
  have hdl : (l.drop (n + m)).length = l.toArray.size - (n + m) := by simp
  have inv0 : HeadInv .any l.toArray (n + m) (Array.replicate l.toArray.size false) :=
    ⟨by simp, fun j oj _ hl => (by rw [getD_replicate_false] at hl; cases hl), fun t _ ht => getD_in (by simpa using ht) (getD_replicate_false _ _)⟩
  have hQ : Anti (fun a'' S => ∀ w', Ext w w' → S w' → wpList P l.toArray Q (l.drop (n + m)) a'' w') := anti_list
  have H := headFr_lex1 (md := .any) (g := l.toArray.size - (n + m)) (S := fun _ => True) (w0 := w) hQ hsel hs hc hn (post := (l.drop n).take m) (l.take n) 0 (Array.replicate l.toArray.size false) a (fun j hj => by
      rw [hap] at hj ⊢
      rw [htl] at hj
      simp [hj]) (by rw [hap]; simpa using htl) inv0 (by rw [hap, htl]; exact hlex)
    (fun k' done' a' S' hl' hk' inv' hB' hK => headFr_anti (fun d a S S' hS h => ⟨h.1, hQ _ _ _ hS h.2⟩) _ _ _ _ _ (fun _ _ => trivial) (headFr_more _ _ _ _ (headFr_lex2 hQ hsel hs hc hn ((l.drop n).take m) k' done' a' (fun _ => True) hl' hk' inv' hB' hK))) h
  rw [hap] at H
  have fin := any_of_headFr (Q' := Q) (g := l.toArray.size - (n + m)) (fun d a' S' w' hw' _ hS' hL => by
    have := wpAny_of_seq (md := .any) (Q' := Q) (l.drop (n + m)) (n + m) d a' w' (fun j => by simp [List.getElem?_drop]) (by rw [hdl]; exact hL.1) (hL.2 w' hw' hS')
    rwa [hdl] at this) _ _ _ _ _ ((Below.refl _ w).drew) (fun _ _ _ _ => trivial) trivial H
  rw [htl, show (n + m) + (l.toArray.size - (n + m)) = l.toArray.size by omega] at fin
  exact fin
/-- THE LAW: a bare move first; n fixed values (the move among them), m operations that make memory, then the rest in a forced order, the first of which need not wait for the move. -/
theorem wp_region_link {id : Nat} {a : Act} {w : World} {l : List Oper} {d : Nat} {x : Operand} {ty : TypeId} {ps : String} {af : Array Edge} (n m : Nat) (hm : P.follows .mixedOrders = true) (hl0 : l[0]? = some ⟨some d, .move x, ty, ps, af, none⟩) (hn : n + m ≠ 0)
    (hB : Region.lexTailB .any (linkAt (n + m) l).toArray (n + m) = true) (hr : (Region.ready .any l.toArray (Array.replicate l.toArray.size false)).contains 0 = true) (hsel : Region.noSelect l.toArray = true) (hf : Region.free .any l.toArray (Array.replicate l.toArray.size false) 0 = true)
    (h : wpDet P (linkAt (n + m) l).toArray w (fun a' => wpFree P false (linkAt (n + m) l).toArray w (fun a'' S => ∀ w', Ext w w' → S w' → wpList P (linkAt (n + m) l).toArray (OnlyNormal Q) ((linkAt (n + m) l).drop (n + m)) a'' w') (((linkAt (n + m) l).drop n).take m) a' (fun _ => True)) ((linkAt (n + m) l).take n) a) : (Code.region id l.toArray true).wp P Q a w := by
  refine wp_region_any hm ?_
  have H := wpAny_free_tail (Q := OnlyNormal Q) n m hB h
  have L := linked_at (n + m) l
  have hsz : (linkAt (n + m) l).toArray.size = l.toArray.size := L.size
  have hpos : 0 < l.toArray.size := by
    have : (0 : Nat) < l.length := by
      rcases Nat.lt_or_ge 0 l.length with h | h
      · exact h
      · rw [List.getElem?_eq_none h] at hl0; cases hl0
    simpa using this
  rw [hsz] at H
  obtain ⟨f, hfz⟩ : ∃ f, l.toArray.size = f + 1 := ⟨l.toArray.size - 1, by omega⟩
  have h0 : l.toArray[0]? = some ⟨some d, .move x, ty, ps, af, none⟩ := by simpa using hl0
  have hr0 : 0 ∈ Region.ready .any l.toArray (Array.replicate l.toArray.size false) := by simpa using hr
  refine wpAny_Q (Q := OnlyNormal Q) (fun _ _ _ h => h.2) _ _ _ _ ?_
  rw [hfz] at H hr0 hf ⊢
  refine wpAny_move h0 hsel (fun _ _ _ h => h.1) f _ _ _ (Region.free_spec h0 hf) hr0 ?_
  have h0' : (linkAt (n + m) l).toArray[0]? = some ⟨some d, .move x, ty, ps, af, none⟩ := by
    simp only [linkAt, List.getElem?_toArray, List.getElem?_modify, if_neg hn, hl0]
    rfl
  have hr1 : 0 ∈ Region.ready .any (linkAt (n + m) l).toArray (Array.replicate (f + 1) false) := by
    obtain ⟨g1, o, g2, g3⟩ := mem_ready.1 hr0
    rw [h0] at g2
    obtain rfl := Option.some.inj g2
    exact mem_ready.2 ⟨g1, _, h0', g3⟩
  have step := H.2 0 hr1
  unfold wpOp at step
  rw [h0'] at step
  simp only at step
  rw [if_pos (want_none rfl)] at step
  refine L.any f _ _ _ (by simp) ?_
  rcases step with h1 | h1
  · unfold Oper.wp execOp at h1
    simp only [Sem.run_pure] at h1
    exact h1
  · obtain ⟨_, _, _, h2⟩ := h1
    cases h2.1
end
end Go.Proofs.Ytkjnmjilkhigaaa

/- The walk of one look of Fano's machine: the program's. -/
namespace Go.Proofs.Ytkjnmjilkhigaaa
open Go.RowKit

def FLookPost (p : Pb) (D : Int) (s' : Fm) (A : FA) (w : World) (e : Ending) (w' : World) : Prop :=
  e = .returned (.tuple #[]) ∧ (∃ g c, FanoIn w' p D s' { A with way := g, cap := c } ∧ (g = A.way ∨ w.heap.size ≤ g)) ∧ Turn A.wr w w'
def thrAt (w : World) (mb : Nat) : Int := match w.cell? ⟨mb, 43, none⟩ with
  | some (.int _ n) => n
  | _ => 0
theorem FanoIn.thrAt {w : World} {p : Pb} (hp : p.Ok) {D : Int} {s : Fm} {A : FA} (h : FanoIn w p D s A) : thrAt w A.mb = s.thr := by unfold Proofs.Ytkjnmjilkhigaaa.thrAt; rw [(h.at_ hp).c43]
theorem raise_uniq {D thr m t : Int} (hD : 1 ≤ D) {i : Int} (h1 : t = thr + D * i) (h2 : t ≤ m) (h3 : m < t + D) : t = raise D thr m := by
  unfold raise
  have e : (m - thr) / D = i := by
    have h4 : m - thr = (m - t) + D * i := by omega
    rw [h4, Int.add_mul_ediv_left _ _ (by omega), Int.ediv_eq_zero_of_lt (by omega) (by omega), Int.zero_add]
  rw [e, h1]
theorem nd_cell {w : World} {nb : Nat} {l : List Nd} (h : Box w nb (ndCells l)) {k : Nat} {n : Nd} (hk : l[k]? = some n) : loadAgg w nb (k * 3) 3 = .ok (.agg n.cells) w ∧ w.cell? ⟨nb, k * 3 + 2, none⟩ = some (.int .i64 n.m) := by
  have hlt : k < l.length := by
    rcases Nat.lt_or_ge k l.length with h | h
    · exact h
    · rw [List.getElem?_eq_none h] at hk; cases hk
  obtain ⟨b, o, hb, hl⟩ := Nodes.ofBox h k hlt
  obtain ⟨rfl, rfl⟩ : nb = b ∧ 0 = o := by simpa using hb
  rw [Nat.zero_add] at hl
  have e : l[k] = n := by rw [List.getElem?_eq_getElem hlt] at hk; exact Option.some.inj hk
  rw [e] at hl
  refine ⟨hl, ?_⟩
  unfold loadAgg at hl
  split at hl
  · rename_i cs t fr hb
    split at hl
    · rename_i hn
      rw [block_cell hb]
      have h1 : cs.extract (k * 3) (k * 3 + 3) = n.cells := by simpa using hl
      have h2 := congrArg (·[2]?) h1
      simp only [Array.getElem?_extract, Nd.cells, nodeCells] at h2
      simp at h2
      exact h2.2
    · cases hl
  · cases hl
theorem bit_cell {w : World} {bb : Nat} {l : List Nat} (h : Box w bb (u8s l).toArray) {k b : Nat} (hk : l[k]? = some b) : w.cell? ⟨bb, k, none⟩ = some (.int .u8 b) := by
  rw [h.cell k]
  simp [u8s, hk]
theorem Box.turn {H : Nat → Prop} {w w' : World} {b : Nat} {cs : Array Value} (h : Box w b cs) (hT : Turn H w w') (hb : ¬H b) : Box w' b cs := by
  have hl := h.lt
  exact h.imp fun _ e => (hT.block b hl hb).trans e
theorem build_places (n : Nd) (b : Nat) (w : World) : (Instr.buildSlice 90 1 #[(0, .agg #[.int .u32 n.s, .int .i64 n.d, .int .i64 n.m, .int .u8 b, .int .i64 0])]).run Try.prog w = .ok (.slice (some ⟨w.heap.size, 0, none⟩) 1 1) (w.alloc (.cells #[.int .u32 n.s, .int .i64 n.d, .int .i64 n.m, .int .u8 b, .int .i64 0] 108)) := by
  go_simp
  try rfl
/-- THE ARM, in a region that draws, for a struct that is built. -/
theorem q_build {P : Program} {ops : Array Oper} {rest : List Oper} {l l' : List Value} {ds : List Deferred} {C : World → Prop} {Q : Act → Prop} {d : Nat} {t : TypeId} {parts : Array (Nat × Operand)} {cs : Array Value} {ty : TypeId} {ps : String} {af : Array Edge}
    (hr : ∀ w, (Instr.build t (parts.map fun (i, x) => (i, (Act.mk l.toArray ds).eval x))).run P w = .ok (.agg cs) w) (hs : l.set d (.agg cs) = l')
    (h : wpQuiet P ops C Q rest ⟨l'.toArray, ds⟩) : wpQuiet P ops C Q (⟨some d, .build t parts, ty, ps, af, none⟩ :: rest) ⟨l.toArray, ds⟩ := by
  refine BigFrame.wpQuiet_want rfl fun K hK => ⟨_, fun w' _ => ?_, hK _ (by rw [put_list, hs]; exact h)⟩
  unfold Oper.quietAt execOp
  simp only [Sem.run_bind, hr w', Result.andThen_ok, Sem.run_pure]
  exact ⟨rfl, rfl⟩
/-- The way has grown by one. -/
theorem FanoIn.push {w w' : World} {p : Pb} (hp : p.Ok) {D : Int} {s : Fm} {A : FA} {z : Spot} {v' : Value} (h : FanoIn w p D s A) (hO : w'.ownsRow 0 108 5 v' (s.up.length + 1 + 1) (wayRow s.top s.up ++ z.row))
    (hg : (∃ g c, Value.slice (some ⟨A.way, 0, none⟩) (s.up.length + 1) A.cap = .slice (some ⟨g, 0, none⟩) (s.up.length + 1) c ∧ v' = .slice (some ⟨g, 0, none⟩) (s.up.length + 1 + 1) c ∧ w.grownBy w' (some g)) ∨ (v'.ownBlock = some w.heap.size ∧ w.grownBy w' none)) :
    ∃ g c, v' = .slice (some ⟨g, 0, none⟩) (s.up.length + 1 + 1) c ∧ FanoIn (w'.setCell ⟨A.mb, 42, none⟩ v') p D { s with top := z, up := s.top :: s.up } { A with way := g, cap := c } ∧ (g = A.way ∨ w.heap.size ≤ g) ∧ Turn A.wr w (w'.setCell ⟨A.mb, 42, none⟩ v') ∧ Box w' A.mb (fanoCells p D s A) := by
  have key : ∃ g c, v' = .slice (some ⟨g, 0, none⟩) (s.up.length + 1 + 1) c ∧ (g = A.way ∨ w.heap.size ≤ g) ∧ w.heap.size ≤ w'.heap.size ∧ w'.os = w.os ∧ w'.tape = w.tape ∧ w'.output = w.output ∧ ∀ k, k < w.heap.size → k ≠ A.way → w'.heap[k]? = w.heap[k]? := by
    rcases hg with ⟨g, c, e1, e2, hg⟩ | ⟨e1, hg⟩
    · obtain ⟨rfl, rfl⟩ : A.way = g ∧ A.cap = c := by simpa using e1
      exact ⟨_, _, e2, .inl rfl, hg.size, hg.os, hg.tape, hg.output, fun k hk hn => hg.block k hk (fun e => hn (Option.some.inj e))⟩
    · rcases hO.2 with ⟨_, h0⟩ | ⟨g, c, cur, e2, _⟩
      · omega
      · refine ⟨g, c, e2, .inr ?_, hg.size, hg.os, hg.tape, hg.output, fun k hk hn => hg.block k hk (by simp)⟩
        rw [e2] at e1
        have : g = w.heap.size := by simpa [Value.ownBlock] using e1
        omega
  obtain ⟨g, c, rfl, hgw, hsz, ho, ht, hou, hblk⟩ := key
  obtain ⟨n1, n2, n3⟩ := h.ne
  have hlt := fun k (hk : A.has k) => h.lt hk
  have hm : Box w' A.mb (fanoCells p D s A) := h.mach.imp fun _ e => (hblk _ h.mach.lt n1).trans e
  have hne : ∀ k, A.has k → k ≠ A.way → k ≠ g := fun k hk hn e => by
    have := hlt k hk
    rcases hgw with h1 | h1
    · exact hn (e.trans h1)
    · omega
  have hT := h.tree.same (w' := w') fun k hk => hblk k (hlt k (by unfold FA.has; rcases hk with h | h | h | h <;> simp [h])) (by rcases hk with rfl | rfl | rfl | rfl; exact Ne.symm n3.1; exact Ne.symm n3.2.1; exact Ne.symm n3.2.2.1; exact Ne.symm n3.2.2.2.1)
  have hW := h.win.block (w' := w') (hblk _ h.wlt (Ne.symm n3.2.2.2.2))
  have a1 : g ≠ A.mb := Ne.symm (hne _ (.inl rfl) n1)
  have hO' := hO
  rw [wayRow_push] at hO'
  refine ⟨g, c, rfl, ⟨?_, hT.setOther (q := ⟨A.mb, 42, none⟩) ⟨n2.1, n2.2.1, n2.2.2.1, n2.2.2.2.1⟩ _, hW.block (Below.heap_setCell _ _ _ _ (Ne.symm n2.2.2.2.2)), h.wcap, ownsN_block hO' fun k hk => Below.heap_setCell _ _ _ _ (by rw [← Option.some.inj hk]; exact a1), ⟨Ne.symm a1, n2, ?_⟩, by have := h.wlt; simp; omega, by have := h.tlt; simp; omega⟩, hgw, ?_, hm⟩
  · have hb := hm.setCell (i := 40 + 2) (.slice (some ⟨g, 0, none⟩) (s.up.length + 1 + 1) c)
    have e2 : (fanoCells p D s A).setIfInBounds (40 + 2) (.slice (some ⟨g, 0, none⟩) (s.up.length + 1 + 1) c) = fanoCells p D { s with top := z, up := s.top :: s.up } { A with way := g, cap := c } := by
      unfold fanoCells
      rw [Array.setIfInBounds_append_right (by rw [hp.size]; omega), hp.size, Nat.add_sub_cancel_left]
      rfl
    rw [e2] at hb
    exact hb
  · have hs : ∀ k, A.has k → k ≠ A.way → g ≠ k := fun k hk hn => Ne.symm (hne k hk hn)
    exact ⟨hs _ (by simp [FA.has]) (Ne.symm n3.1), hs _ (by simp [FA.has]) (Ne.symm n3.2.1), hs _ (by simp [FA.has]) (Ne.symm n3.2.2.1), hs _ (by simp [FA.has]) (Ne.symm n3.2.2.2.1), hs _ (by simp [FA.has]) (Ne.symm n3.2.2.2.2)⟩
  · refine Turn.set ⟨ho, ht, hou, hsz, fun k hk hn => hblk k hk fun e => hn (.inr e)⟩ (.inl rfl) _
set_option maxRecDepth 5000 in
theorem fano_look (p : Pb) (hp : p.Ok) (hc : probChk p = 0) (D : Int) (hD : 1 ≤ D) (hD2 : D ≤ 65536) (s : Fm) (hs : s.Ok p D) (hn : s.done = false) (A : FA) (w : World) (h : FanoIn w p D s A) :
    Calls Try.prog 51 #[.pointer (some ⟨A.mb, 0, none⟩)] w (FLookPost p D (p.flook D s) A w) := by
  have hwl := (hs.way.facts hc).2.1
  have hNb := Pb.N_le hc
  have hdl : s.top.n.d < p.N := by
    have h1 := hs.dn
    rw [hn] at h1
    have h2 : s.top.n.d ≠ p.N := by simpa using h1.symm
    have h4 := hs.way.depth hc
    omega
  have hin := hs.way.in_ hc hdl
  have ht := hs.tries hn
  have hbd1 := hs.way.bd hc
  have htb := hs.thr_bd
  have htl := hs.thr_le
  have hkl := p.kids_pos s.top.n
  obtain ⟨g1, g2⟩ := Pb.kidAt_get ht
  have hkbd := (hs.way.push ht hdl).bd hc
  have hhere := fano_here p hp D s (by omega) A w h
  obtain ⟨J, hJ⟩ : ∃ J, J = s.up.length := ⟨_, rfl⟩
  rw [← hJ] at hhere hwl
  have HJ := Lib.hid hJ; clear hJ
  go_enter Try.func51, Try.ntmps51
  go_wp2_with fail
  refine hhere.mono ?_
  rintro e w1 ⟨rfl, B1⟩
  have h1 := h.kept B1
  have T1 : Turn A.wr w w1 := Turn.ofBelow B1
  clear hhere
  go_upto_region 1 with fail
  have c40 := (h1.at_ hp).c40
  have gx : loadAgg w1 A.way (J * 5) 3 = .ok (.agg s.top.n.cells) w1 := HJ.out ▸ h1.top.1
  (refine wp_region_call 8 (by kernel_rfl) (by kernel_rfl) rfl rfl (by kernel_rfl) rfl ?_; simp only [List.take_succ_cons, List.take_zero])
  have q40 := KeptW.cell c40
  repeat first
    | ((refine det_plain rfl ?_); ((with_reducible apply q_ld); rfl; (with_reducible assumption); (simp only [List.set_cons_zero, List.set_cons_succ]; rfl)); (refine wpQuiet_nil ?_))
    | ((with_reducible apply det_nilG); rfl; rfl; (simp only [List.set_cons_zero, List.set_cons_succ]; rfl))
    | ((refine det_plain rfl ?_); (go_big_quiet_step (fail)); (refine wpQuiet_nil ?_))
  refine wpDet_nil ?_
  refine fr_call (fun v w' => ∃ nb bb, v = .tuple #[.slice (some ⟨nb, 0, none⟩) (p.kids s.top.n).length (p.kids s.top.n).length, .slice (some ⟨bb, 0, none⟩) (p.kidBits s.top.n).length (p.kidBits s.top.n).length] ∧ Box w' nb (ndCells (p.kids s.top.n)) ∧ Box w' bb (u8s (p.kidBits s.top.n)).toArray ∧ w1.heap.size ≤ nb ∧ w1.heap.size ≤ bb) rfl inferInstance rfl ?_ ?_ ?_
  · exact fun v x y hx ⟨nb, bb, e1, e2, e3, e4, e5⟩ => ⟨nb, bb, e1, e2.kept hx, e3.kept hx, e4, e5⟩
  · intro w2 B2
    refine (tree_Kids p hp hc s.top.n hin _ (h1.kept B2).tree).mono ?_
    rintro e w3 ⟨⟨nb, bb, rfl, x1, x2, x3, x4, x5⟩, B3⟩
    exact ⟨⟨_, rfl, nb, bb, rfl, x1, x2, Nat.le_trans B2.size x4, Nat.le_trans B2.size x5⟩, B3⟩
  rintro v ⟨_, _, nb, bb, rfl, _, _, x4, x5⟩
  simp only [List.set_cons_zero, List.set_cons_succ]
  repeat first
    | ((refine det_plain rfl ?_); (go_big_quiet_step (fail)); (refine wpQuiet_nil ?_))
  refine wpDet_nil ?_
  rintro w3 B3 ⟨_, nb', bb', hv, x1, x2, _, _⟩
  obtain ⟨rfl, rfl⟩ : nb = nb' ∧ bb = bb' := by simpa using hv
  have h3 := h1.kept B3
  have T3 := T1.on B3
  have hfar : ∀ k, A.has k → k ≠ nb ∧ k ≠ bb := fun k hk => by have := h1.lt hk; omega
  have hsz1 := B1.size
  have hsz3 := B3.size
  clear q40 gx c40 h1 T1 B1 B3 h hv
  obtain ⟨K, hK⟩ : ∃ K, K = (p.kids s.top.n).length - (s.top.t + 1) := ⟨_, rfl⟩
  have hKl : K < (p.kids s.top.n).length := by omega
  have hKb : K < (p.kidBits s.top.n).length := by rw [p.kbits_len]; exact hKl
  rw [← hK] at g1 g2
  have hkix : ((p.kids s.top.n).length : Int) - 1 - (s.top.t : Int) = (K : Int) := by omega
  have t4 : w3.cell? ⟨A.way, J * 5 + 4, none⟩ = some (.int .i64 s.top.t) := HJ.out ▸ h3.top.2.2.2
  have tz := h3.frz (J * 5 + 4)
  have h4 : FanoIn (w3.setCell ⟨A.way, J * 5 + 4, none⟩ (.int .i64 ((s.top.t : Int) + 1))) p D { s with top := ⟨s.top.n, s.top.b, s.top.t + 1⟩ } A := HJ.out ▸ h3.tried (s.top.t + 1)
  have T4 := T3.set (q := ⟨A.way, J * 5 + 4, none⟩) (.inr rfl) (.int .i64 ((s.top.t : Int) + 1))
  have x14 := x1.setOther (p := ⟨A.way, J * 5 + 4, none⟩) (hfar _ (.inr (.inl rfl))).1 (.int .i64 ((s.top.t : Int) + 1))
  have x24 := x2.setOther (p := ⟨A.way, J * 5 + 4, none⟩) (hfar _ (.inr (.inl rfl))).2 (.int .i64 ((s.top.t : Int) + 1))
  clear h3 T3 x1 x2 hK
  go_upto_region 4 with fail
  refine nameAny (fun W => FanoIn W p D { s with top := ⟨s.top.n, s.top.b, s.top.t + 1⟩ } A ∧ Turn A.wr w W ∧ Box W nb (ndCells (p.kids s.top.n)) ∧ Box W bb (u8s (p.kidBits s.top.n)).toArray ∧ w1.heap.size ≤ W.heap.size) ⟨h4, T4, x14, x24, by simpa using hsz3⟩ ?_
  clear t4 tz h4 T4 x14 x24 hkix hsz3
  rintro w4 ⟨h4, T4, x1, x2, hsz4⟩
  obtain ⟨kd, hkd⟩ : ∃ kd, kd = p.kidAt s.top := ⟨_, rfl⟩
  rw [← hkd] at g1 g2 hkbd
  have HKD := Lib.hid hkd
  clear hkd
  have hkm := (nd_cell x1 g1).2
  have c43 : w4.cell? ⟨A.mb, 43, none⟩ = some (.int .i64 s.thr) := (h4.at_ hp).c43
  refine wp_region_kept (by kernel_rfl) (by kernel_rfl) ?_
  have qk := KeptW.cell hkm
  have q43 := KeptW.cell c43
  repeat first
    | go_big_quiet_step (fail)
  refine wpQuiet_nil ?_
  intro w5 B5
  have h5 := h4.kept B5
  have T5 := T4.on B5
  have x15 := x1.kept B5
  have x25 := x2.kept B5
  have hsz5 := Nat.le_trans hsz4 B5.size
  clear qk q43 hkm c43 h4 T4 x1 x2 B5 hsz4
  by_cases hk : kd.n.m < s.thr
  · have hk1 : decide (kd.n.m < s.thr) = true := by simpa using hk
    go_upto_region 5 with fail
    go_wp2_with fail
    refine (fano_back p hp hc D hD hD2 { s with top := ⟨s.top.n, s.top.b, s.top.t + 1⟩ } (by show _ ≤ s.thr; omega) (by show s.thr ≤ _; omega) (hs.way.tried _) A _ h5).mono ?_
    rintro e w6 ⟨rfl, h6, T6⟩
    go_wp2_with fail
    refine bodyPost_end (results_nil rfl) rfl ?_
    have e : p.flook D s = p.fall D { s with top := ⟨s.top.n, s.top.b, s.top.t + 1⟩ } := if_pos (by rw [← HKD.out]; exact hk)
    rw [e]
    exact (show FLookPost _ _ _ _ _ _ _ from ⟨rfl, ⟨A.way, A.cap, h6, .inl rfl⟩, T5.trans T6⟩)
  · have hk1 : decide (kd.n.m < s.thr) = false := by simpa using hk
    go_upto_region 6 with fail
    have a5 := h5.at_ hp
    have c43 : w5.cell? ⟨A.mb, 43, none⟩ = some (.int .i64 s.thr) := a5.c43
    have c41 : w5.cell? ⟨A.mb, 41, none⟩ = some (.int .i64 D) := a5.c41
    have cm : w5.cell? ⟨A.way, J * 5 + 2, none⟩ = some (.int .i64 s.top.n.m) := HJ.out ▸ h5.top.2.1
    clear a5
    (refine wp_region_kept_tail 15 (by kernel_rfl) (by kernel_rfl) ?_; simp only [List.take_succ_cons, List.take_zero, List.drop_succ_cons, List.drop_zero])
    have q43 := KeptW.cell c43
    have q41 := KeptW.cell c41
    have qm := KeptW.cell cm
    repeat first
      | go_big_quiet_step (fail)
    refine wpQuiet_nil ?_
    intro w6 B6
    have h6 := h5.kept B6
    have T6 := T5.on B6
    have x16 := x15.kept B6
    have x26 := x25.kept B6
    have hsz6 := Nat.le_trans hsz5 B6.size
    clear q43 q41 qm c43 c41 cm h5 T5 x15 x25 B6 hsz5
    go_upto_region 7 with fail
    obtain ⟨fst, hfst⟩ : ∃ b, b = decide (s.top.n.m < s.thr + D) := ⟨_, rfl⟩
    rw [← hfst]
    have HF := Lib.hid hfst
    clear hfst
    have c42 : w6.cell? ⟨A.mb, 42, none⟩ = some (.slice (some ⟨A.way, 0, none⟩) (J + 1) A.cap) := HJ.out ▸ (h6.at_ hp).c42
    have gk := (nd_cell x16 g1).1
    have gb := bit_cell x26 g2
    (refine wp_region_link 14 1 (by kernel_rfl) rfl (by decide) (by kernel_rfl) (by kernel_rfl) (by kernel_rfl) (by kernel_rfl) ?_; simp only [linkAt, Nat.reduceAdd, List.modify_succ_cons, List.modify_zero_cons, List.push_toArray, List.cons_append, List.nil_append, List.take_succ_cons, List.take_zero, List.drop_succ_cons, List.drop_zero])
    have q42 := KeptW.cell c42
    have qb := KeptW.cell gb
    repeat first
      | ((refine det_plain rfl ?_); ((with_reducible apply q_ld); rfl; (with_reducible assumption); (simp only [List.set_cons_zero, List.set_cons_succ]; rfl)); (refine wpQuiet_nil ?_))
      | ((with_reducible apply det_nilG); rfl; rfl; (simp only [List.set_cons_zero, List.set_cons_succ]; rfl))
      | ((refine det_plain rfl ?_); ((with_reducible apply q_build (d := 76) (cs := #[.int .u32 kd.n.s, .int .i64 kd.n.d, .int .i64 kd.n.m, .int .u8 kd.b, .int .i64 0])); ((simp only [List.map_toArray, List.map_cons, List.map_nil]); exact build_place2 kd.n kd.b); (simp only [List.set_cons_zero, List.set_cons_succ]; rfl)); (refine wpQuiet_nil ?_))
      | ((refine det_plain rfl ?_); (go_big_quiet_step (fail)); (refine wpQuiet_nil ?_))
    refine wpDet_nil ?_
    refine free_slice anti_list (cs := #[.int .u32 kd.n.s, .int .i64 kd.n.d, .int .i64 kd.n.m, .int .u8 kd.b, .int .i64 0]) (e := 108) (by intro w1; simp only [List.map_toArray, List.map_cons, List.map_nil]; exact build_places kd.n kd.b w1) ?_
    intro b9 h9
    simp only [List.set_cons_zero, List.set_cons_succ]
    intro w7 B7 hS
    obtain ⟨_, x9⟩ := hS
    have h7 := h6.kept B7
    have T7 := T6.on B7
    have x17 := x16.kept B7
    have hsz7 := Nat.le_trans hsz6 B7.size
    have hO7 : w7.ownsRow 0 108 5 (.slice (some ⟨A.way, 0, none⟩) (J + 1) A.cap) (J + 1) (wayRow ⟨s.top.n, s.top.b, s.top.t + 1⟩ s.up) := HJ.out ▸ h7.way
    have e63 : J + 1 + 1 ≤ 9223372036854775807 / 65536 := by omega
    have ebt : (J + 1 + 1) * 40 ≤ 140737488355328 := by omega
    clear q42 qb c42 gk gb h6 T6 x16 x26 B7 hsz6
    have hpush := fun v2 w8 => FanoIn.push (w' := w8) (v' := v2) (z := ⟨kd.n, kd.b, 0⟩) hp h7
    have hrow : wayRow ⟨s.top.n, s.top.b, s.top.t + 1⟩ s.up ++ [.int .u32 kd.n.s, .int .i64 kd.n.d, .int .i64 kd.n.m, .int .u8 kd.b, .int .i64 0] = wayRow ⟨s.top.n, s.top.b, s.top.t + 1⟩ s.up ++ Spot.row ⟨kd.n, kd.b, 0⟩ := rfl
    go_wp2_with (at_builtin; refine apQ (b := b9) (us := [.int .u32 kd.n.s, .int .i64 kd.n.d, .int .i64 kd.n.m, .int .u8 kd.b, .int .i64 0]) (m := 1) hO7 (by decide) (by decide) rfl rfl x9 rfl (by intro u hu; simp at hu; rcases hu with rfl | rfl | rfl | rfl | rfl <;> rfl) e63 ebt (Nat.zero_le _) ?_; intro v2 w8 hO8 hg8; obtain ⟨g, c, rfl, hP, hgw, TP, hm8⟩ := hpush v2 w8 (HJ.out ▸ hO8) (HJ.out ▸ hg8); have f42 := hm8.frozen 42; have e42 : w8.cell? ⟨A.mb, 42, none⟩ = some (.slice (some ⟨A.way, 0, none⟩) (s.up.length + 1) A.cap) := (hm8.cell (40 + 2)).trans (fano_cell hp))
    refine ⟨rfl, ?_⟩
    have x18 := x17.turn TP (fun hh => by rcases hh with hh | hh; exact (hfar _ (.inl rfl)).1 hh.symm; exact (hfar _ (.inr (.inl rfl))).1 hh.symm)
    go_wp2_with fail
    refine nameAny (fun W => FanoIn W p D { s with top := ⟨kd.n, kd.b, 0⟩, up := ⟨s.top.n, s.top.b, s.top.t + 1⟩ :: s.up } { A with way := g, cap := c } ∧ Turn A.wr w W ∧ Box W nb (ndCells (p.kids s.top.n))) ⟨hP, T7.trans TP, x18⟩ ?_
    clear hP TP x18 f42 e42 hm8 hO8 hg8 hpush hrow x17 T7 h7 x9 hO7 e63 ebt
    rintro w9 ⟨h9, T9, x9⟩
    have hgw2 : g = A.way ∨ w.heap.size ≤ g := by rcases hgw with h | h; exact .inl h; exact .inr (by omega)
    clear hgw hsz1 hsz7
    go_loopw [] (fun wr => ∃ t i : Int, t = s.thr + D * i ∧ s.thr ≤ t ∧ t ≤ kd.n.m ∧ (fst = false → t = s.thr) ∧ FanoIn wr p D { s with top := ⟨kd.n, kd.b, 0⟩, up := ⟨s.top.n, s.top.b, s.top.t + 1⟩ :: s.up, thr := t } { A with way := g, cap := c } ∧ Turn A.wr w wr ∧ Box wr nb (ndCells (p.kids s.top.n))) (fun wr => (kd.n.m - thrAt wr A.mb).toNat)
    case atStart => exact ⟨s.thr, 0, by simp, Int.le_refl _, by omega, fun _ => rfl, h9, T9, x9⟩
    case round =>
      obtain ⟨t, i, ht, ht1, ht2, ht3, hR, TR, xR⟩ := hrel
      have HT := Lib.hid ht
      have HT3 := Lib.hid ht3
      clear ht ht3 h9 T9 x9
      have hkm := (nd_cell xR g1).2
      have a9 := hR.at_ hp
      have c43 : wr.cell? ⟨A.mb, 43, none⟩ = some (.int .i64 t) := a9.c43
      have c41 : wr.cell? ⟨A.mb, 41, none⟩ = some (.int .i64 D) := a9.c41
      clear a9
      go_upto_region 8 with fail
      cases fst with
      | false =>
        have hF : ¬ s.top.n.m < s.thr + D := by simpa using HF.out.symm
        have HTHR : (if s.top.n.m < s.thr + D then raise D s.thr kd.n.m else s.thr) = t := by rw [if_neg hF]; exact (HT3.out rfl).symm
        · have qk : True := trivial
          have q43 : True := trivial
          have q41 : True := trivial
          refine wp_region_kept (by kernel_rfl) (by kernel_rfl) ?_
          repeat first
            | go_big_quiet_skip
            | go_big_quiet_step (fail)
          have hX : p.flook D s = { s with top := ⟨kd.n, kd.b, 0⟩, up := ⟨s.top.n, s.top.b, s.top.t + 1⟩ :: s.up, thr := t, done := kd.n.d == p.N } := by
            unfold Pb.flook
            rw [← HKD.out, if_neg (by omega)]
            have e1 : (if s.top.n.m < s.thr + D then raise D s.thr kd.n.m else s.thr) = t := HTHR
            rw [e1]
            have e2 : kd = ⟨kd.n, kd.b, 0⟩ := by rw [HKD.out]; rfl
            rw [← e2]
          have HX := Lib.hid hX
          clear hX HTHR
          refine wpQuiet_nil ?_
          intro w10 B10
          have h10 := hR.kept B10
          have T10 := TR.on B10
          have x10 := xR.kept B10
          clear qk q43 q41 hkm c43 c41 hR TR xR B10
          go_upto_region 10 with fail
          have c40 : w10.cell? ⟨A.mb, 40, none⟩ = some (.pointer (some ⟨A.tb, 0, none⟩)) := (h10.at_ hp).c40
          have gk := (nd_cell x10 g1).1
          have htree := h10.tree
          (refine wp_region_kept_tail 12 (by kernel_rfl) (by kernel_rfl) ?_; simp only [List.take_succ_cons, List.take_zero, List.drop_succ_cons, List.drop_zero])
          have q40 := KeptW.cell c40
          repeat first
            | ((with_reducible apply q_ld); rfl; (with_reducible assumption); (simp only [List.set_cons_zero, List.set_cons_succ]; rfl))
            | go_big_quiet_step (exact Calls.kept (tree_Leaf p kd.n _ (htree.kept (Subtype.property _))))
          refine wpQuiet_nil ?_
          intro w11 B11
          have h11 := h10.kept B11
          have T11 := T10.on B11
          have f46 : w11.frozen? ⟨A.mb, 46, none⟩ = false := (h11.at_ hp).fz 46
          have e46 : w11.cell? ⟨A.mb, 46, none⟩ = some (.bool s.done) := (h11.at_ hp).c46
          have h12 : FanoIn (w11.setCell ⟨A.mb, 46, none⟩ (.bool (kd.n.d == p.N))) p D { s with top := ⟨kd.n, kd.b, 0⟩, up := ⟨s.top.n, s.top.b, s.top.t + 1⟩ :: s.up, thr := t, done := kd.n.d == p.N } { A with way := g, cap := c } := h11.done hp (kd.n.d == p.N)
          have T12 := T11.set (q := ⟨A.mb, 46, none⟩) (.inl rfl) (.bool (kd.n.d == p.N))
          clear q40 c40 gk htree h10 T10 x10 h11 T11 B11
          go_wp2_with fail
          refine bodyPost_end (results_nil rfl) rfl ?_
          rw [HX.out]
          exact (show FLookPost _ _ _ _ _ _ _ from ⟨rfl, ⟨g, c, h12, hgw2⟩, T12⟩)
      | true =>
        have hF : s.top.n.m < s.thr + D := by simpa using HF.out.symm
        by_cases hgo : t + D ≤ kd.n.m
        · have hg1 : decide (t + D ≤ kd.n.m) = true := by simpa using hgo
          refine wp_region_kept (by kernel_rfl) (by kernel_rfl) ?_
          have qk := KeptW.cell hkm
          have q43 := KeptW.cell c43
          have q41 := KeptW.cell c41
          repeat first
            | go_big_quiet_skip
            | go_big_quiet_step (fail)
          refine wpQuiet_nil ?_
          intro w10 B10
          have h10 := hR.kept B10
          have T10 := TR.on B10
          have x10 := xR.kept B10
          have HA := Lib.hid (hR.thrAt hp)
          clear qk q43 q41 hkm c43 c41 hR TR xR B10
          go_upto_region 9 with fail
          have a10 := h10.at_ hp
          have c43 : w10.cell? ⟨A.mb, 43, none⟩ = some (.int .i64 t) := a10.c43
          have c41 : w10.cell? ⟨A.mb, 41, none⟩ = some (.int .i64 D) := a10.c41
          clear a10
          (refine wp_region_kept_tail 11 (by kernel_rfl) (by kernel_rfl) ?_; simp only [List.take_succ_cons, List.take_zero, List.drop_succ_cons, List.drop_zero])
          have q43 := KeptW.cell c43
          have q41 := KeptW.cell c41
          repeat first
            | go_big_quiet_step (fail)
          refine wpQuiet_nil ?_
          intro w11 B11
          have h11 := h10.kept B11
          have T11 := T10.on B11
          have x11 := x10.kept B11
          have f43 : w11.frozen? ⟨A.mb, 43, none⟩ = false := (h11.at_ hp).fz 43
          have e43 : w11.cell? ⟨A.mb, 43, none⟩ = some (.int .i64 t) := (h11.at_ hp).c43
          have h12 : FanoIn (w11.setCell ⟨A.mb, 43, none⟩ (.int .i64 (t + D))) p D { s with top := ⟨kd.n, kd.b, 0⟩, up := ⟨s.top.n, s.top.b, s.top.t + 1⟩ :: s.up, thr := t + D } { A with way := g, cap := c } := h11.thr hp (t + D)
          have T12 := T11.set (q := ⟨A.mb, 43, none⟩) (.inl rfl) (.int .i64 (t + D))
          have x12 := x11.setOther (p := ⟨A.mb, 43, none⟩) (hfar _ (.inl rfl)).1 (.int .i64 (t + D))
          have HB := Lib.hid (h12.thrAt hp)
          clear q43 q41 c43 c41 h10 T10 x10 h11 T11 x11 B11
          go_wp2_with fail
          go_roundw
          case measure =>
            have e1 : thrAt _ A.mb = t := HA.out
            have e2 : thrAt _ A.mb = t + D := HB.out
            show (kd.n.m - thrAt _ A.mb).toNat < (kd.n.m - thrAt _ A.mb).toNat
            rw [e1, e2]
            omega
          case rel => exact ⟨t + D, i + 1, by have := HT.out; rw [Int.mul_add, Int.mul_one]; omega, by omega, hgo, fun h => (by cases h), h12, T12, x12⟩
        · have hg1 : decide (t + D ≤ kd.n.m) = false := by simpa using hgo
          have HTHR : (if s.top.n.m < s.thr + D then raise D s.thr kd.n.m else s.thr) = t := by rw [if_pos hF]; exact (raise_uniq hD HT.out ht2 (by omega)).symm
          refine wp_region_kept (by kernel_rfl) (by kernel_rfl) ?_
          have qk := KeptW.cell hkm
          have q43 := KeptW.cell c43
          have q41 := KeptW.cell c41
          repeat first
            | go_big_quiet_skip
            | go_big_quiet_step (fail)
          have hX : p.flook D s = { s with top := ⟨kd.n, kd.b, 0⟩, up := ⟨s.top.n, s.top.b, s.top.t + 1⟩ :: s.up, thr := t, done := kd.n.d == p.N } := by
            unfold Pb.flook
            rw [← HKD.out, if_neg (by omega)]
            have e1 : (if s.top.n.m < s.thr + D then raise D s.thr kd.n.m else s.thr) = t := HTHR
            rw [e1]
            have e2 : kd = ⟨kd.n, kd.b, 0⟩ := by rw [HKD.out]; rfl
            rw [← e2]
          have HX := Lib.hid hX
          clear hX HTHR
          refine wpQuiet_nil ?_
          intro w10 B10
          have h10 := hR.kept B10
          have T10 := TR.on B10
          have x10 := xR.kept B10
          clear qk q43 q41 hkm c43 c41 hR TR xR B10
          go_upto_region 10 with fail
          have c40 : w10.cell? ⟨A.mb, 40, none⟩ = some (.pointer (some ⟨A.tb, 0, none⟩)) := (h10.at_ hp).c40
          have gk := (nd_cell x10 g1).1
          have htree := h10.tree
          (refine wp_region_kept_tail 12 (by kernel_rfl) (by kernel_rfl) ?_; simp only [List.take_succ_cons, List.take_zero, List.drop_succ_cons, List.drop_zero])
          have q40 := KeptW.cell c40
          repeat first
            | ((with_reducible apply q_ld); rfl; (with_reducible assumption); (simp only [List.set_cons_zero, List.set_cons_succ]; rfl))
            | go_big_quiet_step (exact Calls.kept (tree_Leaf p kd.n _ (htree.kept (Subtype.property _))))
          refine wpQuiet_nil ?_
          intro w11 B11
          have h11 := h10.kept B11
          have T11 := T10.on B11
          have f46 : w11.frozen? ⟨A.mb, 46, none⟩ = false := (h11.at_ hp).fz 46
          have e46 : w11.cell? ⟨A.mb, 46, none⟩ = some (.bool s.done) := (h11.at_ hp).c46
          have h12 : FanoIn (w11.setCell ⟨A.mb, 46, none⟩ (.bool (kd.n.d == p.N))) p D { s with top := ⟨kd.n, kd.b, 0⟩, up := ⟨s.top.n, s.top.b, s.top.t + 1⟩ :: s.up, thr := t, done := kd.n.d == p.N } { A with way := g, cap := c } := h11.done hp (kd.n.d == p.N)
          have T12 := T11.set (q := ⟨A.mb, 46, none⟩) (.inl rfl) (.bool (kd.n.d == p.N))
          clear q40 c40 gk htree h10 T10 x10 h11 T11 B11
          go_wp2_with fail
          refine bodyPost_end (results_nil rfl) rfl ?_
          rw [HX.out]
          exact (show FLookPost _ _ _ _ _ _ _ from ⟨rfl, ⟨g, c, h12, hgw2⟩, T12⟩)
end Go.Proofs.Ytkjnmjilkhigaaa
