import Derived.Test.YtnjmplapjnnjdaaGreatLFloors
import Derived.Test.YtnjmplapjnnjdaaGreatFree3
set_option linter.unusedSimpArgs false
set_option linter.unusedVariables false
set_option linter.unnecessarySimpa false
/- Division, rounded down. No walk. -/
namespace Go.Proofs.YtnjmplapjnnjdaaGreat
open Go.RowKit

theorem flr_ediv {a d : Int} (hd : 1 ≤ d) : (if a.tmod d < 0 then a.tdiv d - 1 else a.tdiv d) = a / d := by
  have h1 := Int.tdiv_eq_ediv (a := a) (b := d)
  have h2 := Int.tmod_eq_emod (a := a) (b := d)
  have h3 := Int.emod_nonneg a (b := d) (by omega)
  have h4 := Int.emod_lt_of_pos a (b := d) (by omega)
  have h5 : d.sign = 1 := Int.sign_eq_one_of_pos (by omega)
  rw [h5] at h1
  by_cases h0 : 0 ≤ a ∨ d ∣ a
  · rw [if_pos h0] at h1 h2
    rw [if_neg (by omega)]; omega
  · have h7 : a % d ≠ 0 := fun e => h0 (.inr (Int.dvd_of_emod_eq_zero e))
    rw [if_neg h0] at h1 h2
    rw [if_pos (by omega)]; omega
theorem ediv_bd {a d : Int} (hd : 1 ≤ d) (a0 : -9223372036854775808 ≤ a) (a1 : a ≤ 9223372036854775807) : -9223372036854775808 ≤ a / d ∧ a / d ≤ 9223372036854775807 := by
  have h1 := Int.emod_add_mul_ediv a d
  have h3 := Int.emod_nonneg a (b := d) (by omega)
  have h4 := Int.emod_lt_of_pos a (b := d) (by omega)
  by_cases h : a < 0
  · have : a ≤ a / d := by
      refine (Int.le_ediv_iff_mul_le (by omega)).2 ?_
      have := Int.mul_le_mul_of_nonpos_left (show a ≤ 0 by omega) hd
      omega
    have : a / d < 0 := Int.ediv_neg_of_neg_of_pos h (by omega)
    omega
  · have : 0 ≤ a / d := Int.ediv_nonneg (by omega) (by omega)
    have : a / d ≤ a := Int.ediv_le_self _ (by omega)
    omega
theorem ref11_Down (a d : Int) (hd : 1 ≤ d) (a0 : -9223372036854775808 ≤ a) (a1 : a ≤ 9223372036854775807) (w : World) : Pure Tryz.prog 45 #[.int .i64 a, .int .i64 d] w (.int .i64 (a / d)) := by
  have hb := tdiv_bd a d hd a0 a1
  have hf := flr_ediv (a := a) hd
  have he := ediv_bd hd a0 a1
  have hd0 : d ≠ 0 := by omega
  by_cases h2 : a.tmod d < 0
  · rw [if_pos h2] at hf
    have hb2 : -9223372036854775808 ≤ a.tdiv d - 1 := by omega
    have HF := Lib.hid hf
    clear hf he
    go_enter Tryz.func45, Tryz.ntmps45
    go_wp2
    go_ret
    refine ⟨?_, Below.refl _ _⟩
    rw [← HF.out]
    first | done | rfl | (refine ret_int ?_; unfold wrap64; omega)
  · rw [if_neg h2] at hf
    have HF := Lib.hid hf
    clear hf he
    go_enter Tryz.func45, Tryz.ntmps45
    go_wp2
    go_ret
    refine ⟨?_, Below.refl _ _⟩
    rw [← HF.out]
    first | done | rfl
end Go.Proofs.YtnjmplapjnnjdaaGreat

/- A region that draws its order: fixed values, ONE call that makes memory, and fixed values again. No program's text is named here. -/
namespace Go.Proofs.YtnjmplapjnnjdaaGreat
open Go.RowKit

section
variable {P : Program} {ops : Array Oper} {md : Region.Mode} {w0 : World}
theorem anyFr_lexM {Q : Act → (World → Prop) → Prop} (hQ : Anti Q) (hs : Region.noSelect ops = true) {post : List Oper} {K : Act → Prop} (l : List Oper) :
    ∀ (k : Nat) (done : Array Bool) (a : Act) (S : World → Prop), (∀ j, (l ++ post)[j]? = ops[k + j]?) → Region.lexFrom md ops (l ++ post).length k done = true →
    (∀ a' S', (∀ w, S' w → S w) → (∀ j, post[j]? = ops[k + l.length + j]?) → Region.lexFrom md ops post.length (k + l.length) (marked k l.length done) = true → K a' → anyFr P true md ops w0 Q post.length (marked k l.length done) a' S') →
    wpDet P ops w0 K l a → anyFr P true md ops w0 Q (l ++ post).length done a S := by
  induction l with
  | nil => intro k done a S hl hB hp h; exact hp a S (fun _ h => h) (by simpa using hl) (by simpa [marked] using hB) h
  | cons o l ih =>
    intro k done a S hl hB hp h
    have h0 : ops[k]? = some o := by simpa using (hl 0).symm
    simp only [List.cons_append, List.length_cons, Region.lexFrom, Bool.and_eq_true] at hB
    have next : ∀ (a' : Act) (S' : World → Prop), (∀ w, S' w → S w) → wpDet P ops w0 K l a' → anyFr P true md ops w0 Q (l ++ post).length (done.setIfInBounds k true) a' S' := fun a' S' hS h' =>
      ih (k + 1) _ a' S' (fun j => by have := hl (j + 1); simpa [Nat.add_assoc, Nat.add_comm 1 j] using this) hB.2
        (fun a'' S'' hS' e1 e2 hK => by
          have := hp a'' S'' (fun w hw => hS w (hS' w hw)) (by simpa [Nat.add_assoc, Nat.add_comm 1 l.length] using e1) (by simpa [Nat.add_assoc, Nat.add_comm 1 l.length, marked] using e2) hK
          simpa [marked] using this) h'
    unfold wpDet at h
    by_cases hw : Region.wanted o (yielded ops a.tmps) = true
    · rw [if_pos hw] at h
      obtain ⟨v, hv, hn⟩ := h
      refine anyFr_first hQ h0 (Region.noSelect_spec hs) (R := fun u _ => u = v) (.inr ⟨v, fun u w h => h⟩) _ done a S (Region.free_spec h0 hB.1.2) (by simpa using hB.1.1) (.inl ⟨hw, fun _ _ _ _ h => h, fun w hx => ?_⟩) fun u hu => ?_
      · have := hv w hx
        generalize (execOp a.eval o).run P w = r at this
        cases r with
        | ok n w' =>
          cases n <;> simp only [detUpon] at this <;> simp only [freeUpon]
          case value u => obtain ⟨rfl, rfl⟩ := this; exact ⟨Below.refl _ _, rfl⟩
          case skip => obtain ⟨rfl, rfl⟩ := this; exact ⟨Below.refl _ _, rfl⟩
          case enter f args =>
            obtain ⟨rfl, hc⟩ := this
            exact ⟨trivial, Below.refl _ _, hc.mono fun e w'' ⟨he, hx⟩ => ⟨⟨v, he, rfl⟩, hx⟩⟩
        | halt x w' => simp only [detUpon] at this
      · obtain ⟨_, _, rfl⟩ := hu
        exact next _ _ (fun w hw => hw.1) hn
    · rw [if_neg hw] at h
      refine anyFr_first hQ h0 (Region.noSelect_spec hs) (R := fun u _ => u = undef) (.inr ⟨undef, fun u w h => h⟩) _ done a S (Region.free_spec h0 hB.1.2) (by simpa using hB.1.1) (.inr ⟨by simpa using hw, rfl⟩) fun u hu => ?_
      obtain ⟨_, _, rfl⟩ := hu
      exact next _ _ (fun w hw => hw.1) h

/-- THE LAW: n operations of fixed values, one call (the only one that is ready then), fixed values again. -/
theorem wp_region_call {id : Nat} {Q : Exit → Act → World → Prop} {a : Act} {w : World} {l rest : List Oper} {o : Oper} (n : Nat) (hm : P.follows .mixedOrders = true) (hB : Region.lexB .any l.toArray = true) (hl : l.drop n = o :: rest) (hg : o.guard = none)
    (hr : Region.ready .any l.toArray (marked 0 n (Array.replicate l.toArray.size false)) = [n]) (hln : (l.take n).length = n)
    (h : wpDet P l.toArray w (fun a' => isFree P true w o a' (fun a'' S => wpDet P l.toArray w (fun a3 => ∀ w', Ext w w' → S w' → Q .normal a3 w') rest a'') (fun _ => True)) (l.take n) a) : (Code.region id l.toArray true).wp P Q a w := by
  simp only [Region.lexB, Bool.and_eq_true] at hB
  have hQ : Anti (fun a'' S => ∀ w', Ext w w' → S w' → Q .normal a'' w') := anti_region
  have hsplit : l.take n ++ (o :: rest) = l := by rw [← hl, List.take_append_drop]
  have H : anyFr P true .any l.toArray w (fun a'' S => ∀ w', Ext w w' → S w' → Q .normal a'' w') (l.take n ++ (o :: rest)).length (Array.replicate l.toArray.size false) a (fun _ => True) := by
    refine anyFr_lexM hQ hB.1 (post := o :: rest) (l.take n) 0 _ a _ (fun j => by rw [hsplit]; simp) (by rw [hsplit]; simpa using hB.2) (fun a' S' _ e1 e2 hK => ?_) h
    rw [hln] at e1 e2 ⊢
    refine ⟨fun hh => (by rw [hr] at hh; cases hh), fun i hi => ?_⟩
    rw [hr] at hi
    obtain rfl := List.mem_singleton.1 hi
    have h0 : l.toArray[i]? = some o := by simpa using (e1 0).symm
    unfold frOp
    rw [h0]
    simp only
    rw [if_pos (want_none hg)]
    obtain ⟨R, hR, hn⟩ := hK
    refine ⟨R, hR, fun v hv => ?_⟩
    simp only [List.length_cons, Region.lexFrom, Bool.and_eq_true] at e2
    have := anyFr_lexM (md := .any) (w0 := w) (S := fun w => S' w ∧ R v w) hQ hB.1 (post := []) rest (i + 1) ((marked 0 i (Array.replicate l.toArray.size false)).setIfInBounds i true) (a'.put o.dst v)
      (fun j => by rw [List.append_nil]; have := e1 (j + 1); simpa [Nat.add_assoc, Nat.add_comm 1 j] using this) (by rw [List.append_nil]; simpa using e2.2)
      (K := fun a3 => ∀ w', Ext w w' → R v w' → Q .normal a3 w')
      (fun a3 S3 hS _ e4 hk => ⟨by simpa [Region.lexFrom] using e4, fun w' hx hs => hk w' hx (hS w' hs).2⟩) (by
        have h2 := hn v hv
        refine cast ?_ h2
        congr 1
        funext a3
        simp only [true_and])
    simpa using this
  rw [hsplit] at H
  refine wp_region_any hm ?_
  have := wpAny_of_fr (Q' := Q) (fun a'' S w' hw _ hS hq => hq w' hw hS) _ _ _ _ _ ((Below.refl _ w).drew) (fun _ _ _ _ => trivial) trivial H
  simpa using this
/-- the call, by its contract -/
theorem fr_call {K : Act → (World → Prop) → Prop} {l : List Value} {ds : List Deferred} {x : Operand} {xs : List Operand} {ts : Array TypeId} {d : Nat} {f : FuncId} {cap args : List Value} {ty : TypeId} {ps : String} {af : Array Edge} (R : Value → World → Prop)
    (hx : (Act.mk l.toArray ds).eval x = .func (.func f) #[] cap.toArray) (E : EnterF P f) (ha : xs.map (Act.mk l.toArray ds).eval ++ cap = args) (hst : ∀ v, Stable (R v))
    (hc : ∀ w, Ext w0 w → Calls P f args.toArray w (fun e w' => (∃ v, e = .returned v ∧ R v w') ∧ Ext w w'))
    (hn : ∀ v, (∃ w, Ext w0 w ∧ R v w) → K ⟨(l.set d v).toArray, ds⟩ (fun w => True ∧ R v w)) : isFree P true w0 ⟨some d, .call { callee := .value x, args := xs.toArray, argTypes := ts }, ty, ps, af, none⟩ ⟨l.toArray, ds⟩ K (fun _ => True) := by
  refine ⟨R, ⟨hst, fun w hw => ?_⟩, fun v hv => by rw [put_list]; exact hn v hv⟩
  have hr : (execOp (Act.mk l.toArray ds).eval ⟨some d, .call { callee := .value x, args := xs.toArray, argTypes := ts }, ty, ps, af, none⟩).run P w = .ok (.enter f args.toArray) w := by
    have hE := E.out args.toArray w
    rw [← ha] at hE ⊢
    unfold execOp
    simp only [resolve, hx, Deferred.ofValue, Sem.run_bind, Sem.run_pure, Result.andThen_ok, invoke]
    simpa using hE
  rw [hr]
  exact ⟨rfl, Below.refl _ _, hc w hw⟩
end
end Go.Proofs.YtnjmplapjnnjdaaGreat

/- A region that draws its order: fixed values in an order of one's own, ONE call that makes memory, fixed values again, then a forced order. No program's text is named here. -/
namespace Go.Proofs.YtnjmplapjnnjdaaGreat
open Go.RowKit

section
variable {P : Program} {ops : Array Oper} {md : Region.Mode} {w0 : World}
end
end Go.Proofs.YtnjmplapjnnjdaaGreat

/- A region that draws its order, whose first operation is a bare move that nothing but the last ones wait for: it may be taken first. No program's text is named here. -/
namespace Go.Proofs.YtnjmplapjnnjdaaGreat
open Go.RowKit

section
variable {P : Program} {ops ops' : Array Oper} {md : Region.Mode} {Q Q' : Exit → Act → World → Prop}
theorem upon_Q {o : Oper} {a : Act} {K : Act → World → Prop} (hQ : ∀ e a w, Q e a w → Q' e a w) (r : Result Next) (h : o.upon P a K Q r) : o.upon P a K Q' r := by
  cases r with
  | ok n w' =>
    cases n <;> simp only [Oper.upon] at h ⊢ <;> first
      | exact h
      | exact Calls.mono h (fun e w'' he => by
          cases e with
          | returned v => exact he
          | panicked c => exact hQ _ _ _ he
          | outgrown => obtain ⟨a, w, h⟩ := he; exact ⟨a, w, hQ _ _ _ h⟩)
  | halt x w' => cases x <;> simp only [Oper.upon] at h ⊢ <;> first | exact h | exact hQ _ _ _ h
theorem wpOp_Q {i : Nat} {K : Act → World → Prop} {a : Act} {w : World} (hQ : ∀ e a w, Q e a w → Q' e a w) (h : wpOp P ops Q i K a w) : wpOp P ops Q' i K a w := by
  unfold wpOp at *
  split
  · rename_i hk; rw [hk] at h; exact h
  · rename_i o hk
    rw [hk] at h
    simp only at h
    split
    · rename_i hw
      rw [if_pos hw] at h
      exact h.imp (upon_Q hQ _) (fun ⟨h1, a, w, h2⟩ => ⟨h1, a, w, hQ _ _ _ h2⟩)
    · rename_i hw; rw [if_neg hw] at h; exact h
theorem wpAny_Q (hQ : ∀ e a w, Q e a w → Q' e a w) : ∀ (f : Nat) (listed : Array Bool) (a : Act) (w : World), wpAny P md ops Q f listed a w → wpAny P md ops Q' f listed a w
  | 0, _, _, _, h => ⟨h.1, hQ _ _ _ h.2⟩
  | f + 1, _, _, _, h => ⟨fun hr => hQ _ _ _ (h.1 hr), fun i hi => wpOp_mono (fun a w h' => wpAny_Q hQ f _ a w h') (wpOp_Q hQ (h.2 i hi))⟩
/-- Another operation, where the move has come first. -/
theorem wpOp_put {j d : Nat} {oj : Oper} {x : Operand} {v : Value} {K : Act → World → Prop} {a : Act} {w : World} (hj : ops[j]? = some oj) (hsel : ∀ cs b, oj.op ≠ .select cs b) (p1 : d ∉ oj.looksAt ops) (p2 : oj.dst ≠ some d) (p3 : ∀ e, oj.dst = some e → x ≠ .tmp e)
    (hQ : ∀ e a w, Q e a w → e = .normal) (h : wpOp P ops Q j K (a.put (some d) v) w) : wpOp P ops Q j (fun a' w' => a'.eval x = a.eval x ∧ K (a'.put (some d) v) w') a w := by
  have c1 : execOp (a.put (some d) v).eval oj = execOp a.eval oj := execOp_put oj hsel a (some d) v (fun e he => by obtain rfl := Option.some.inj he; exact p1)
  have c2 : Region.wanted oj (yielded ops (a.put (some d) v).tmps) = Region.wanted oj (yielded ops a.tmps) := wanted_put oj a (some d) v (fun e he => by obtain rfl := Option.some.inj he; exact p1)
  have lets : ¬LetsOut Q := fun ⟨a, w, h⟩ => by cases hQ _ _ _ h
  have key : ∀ u w', K ((a.put (some d) v).put oj.dst u) w' → (a.put oj.dst u).eval x = a.eval x ∧ K ((a.put oj.dst u).put (some d) v) w' := fun u w' hk =>
    ⟨Act.eval_put p3, by rw [Act.put_comm a u v (x := oj.dst) (y := some d) (fun e he he' => p2 (he.trans he'.symm))]; exact hk⟩
  unfold wpOp at *
  rw [hj] at h ⊢
  simp only at h ⊢
  rw [c2] at h
  split
  · rename_i hw
    rw [if_pos hw] at h
    rcases h with h | h
    · refine .inl ?_
      unfold Oper.wp at h ⊢
      rw [c1] at h
      generalize (execOp a.eval oj).run P w = r at h ⊢
      cases r with
      | ok n w' =>
        cases n <;> simp only [Oper.upon] at h ⊢
        case value u => exact key _ _ h
        case skip => exact key _ _ h
        case defer df =>
          refine ⟨Act.eval_put p3, ?_⟩
          rw [Act.put_defers] at h
          have e1 : ({ a.put (some d) v with defers := df :: (a.put (some d) v).defers } : Act).put oj.dst undef = (({ a with defers := df :: a.defers } : Act).put oj.dst undef).put (some d) v := by
            rw [Act.put_defers a (some d) v df, Act.put_comm _ v undef (x := some d) (y := oj.dst) (fun e he he' => p2 (he'.trans he.symm))]
          first
            | (rw [← e1]; rw [Act.put_defers a (some d) v df]; exact h)
            | (rw [← e1]; exact h)
        case enter f args =>
          exact Calls.mono h fun e w'' he => by
            cases e with
            | returned u => exact key _ _ he
            | panicked c => cases hQ _ _ _ he
            | outgrown => exact he
        case row rw_ args => exact Rows.mono h fun u w'' he => key _ _ he
        all_goals exact h
      | halt y w' =>
        cases y <;> simp only [Oper.upon] at h ⊢
        case panic c => cases hQ _ _ _ h
        all_goals exact h
    · exact absurd h.2 lets
  · rename_i hw
    rw [if_neg hw] at h
    exact key _ _ h
theorem wpAny_move {d : Nat} {x : Operand} {ty : TypeId} {ps : String} {af : Array Edge} (h0 : ops[0]? = some ⟨some d, .move x, ty, ps, af, none⟩) (hsel : Region.noSelect ops = true) (hQ : ∀ e a w, Q e a w → e = .normal) : ∀ (f : Nat) (listed : Array Bool) (a : Act) (w : World),
    (∀ j oj, ops[j]? = some oj → j ≠ 0 → listed.getD j true = false → (∀ e ∈ oj.after, Region.binds md e = true → e.on ≠ 0) → Oper.apart ops ⟨some d, .move x, ty, ps, af, none⟩ oj = true) → 0 ∈ Region.ready md ops listed →
    wpAny P md ops Q f (listed.setIfInBounds 0 true) (a.put (some d) (a.eval x)) w → wpAny P md ops Q (f + 1) listed a w := by
  have op0 : ∀ (K : Act → World → Prop) (a : Act) (w : World), K (a.put (some d) (a.eval x)) w → wpOp P ops Q 0 K a w := fun K a w hK => by
    unfold wpOp
    rw [h0]
    simp only
    rw [if_pos (want_none rfl)]
    refine .inl ?_
    unfold Oper.wp execOp
    simp only [Sem.run_pure]
    exact hK
  intro f
  induction f with
  | zero =>
    intro listed a w _ hr H
    refine ⟨fun hh => (by rw [hh] at hr; cases hr), fun j hj => ?_⟩
    by_cases hj0 : j = 0
    · subst hj0; exact op0 _ _ _ H
    · have := ready_mono hj hj0
      rw [H.1] at this
      cases this
  | succ f ih =>
    intro listed a w hfree hr H
    refine ⟨fun hh => (by rw [hh] at hr; cases hr), fun j hj => ?_⟩
    by_cases hj0 : j = 0
    · subst hj0; exact op0 _ _ _ H
    obtain ⟨hjun, oj, hoj, hall⟩ := mem_ready.1 hj
    have hnot : ∀ e ∈ oj.after, Region.binds md e = true → e.on ≠ 0 := fun e he hb heq => by
      have h1 := hall e he hb
      have h2 := (mem_ready.1 hr).1
      rw [heq, getD_both h2] at h1
      cases h1
    have hap := hfree j oj hoj hj0 hjun hnot
    obtain ⟨p1, p2, p3⟩ := Oper.apart_spec hap
    have hx : ∀ e, oj.dst = some e → x ≠ .tmp e := fun e he hxe => p3 e he (by subst hxe; simp [Oper.looksAt, Op.operands])
    have step := wpOp_put hoj (Region.noSelect_spec hsel j oj · · hoj) (p1 d rfl) (fun hh => p2 d rfl hh) hx hQ (H.2 j (ready_mono hj hj0))
    refine wpOp_mono (fun a' w' ⟨e1, hk⟩ => ?_) step
    refine ih (listed.setIfInBounds j true) a' w' (fun k ok hk2 hk0 hun hno => ?_) (ready_mono hr (Ne.symm hj0)) ?_
    · refine hfree k ok hk2 hk0 ?_ hno
      by_cases hjk : j = k
      · subst hjk; exact hjun
      · rwa [getD_set_ne true hjk] at hun
    · rw [e1, Array.setIfInBounds_comm _ _ hj0]
      exact hk
/-- ops' is ops with more edges, all of them on operation 0. -/
structure Linked (ops ops' : Array Oper) : Prop where
  size : ops'.size = ops.size
  op : ∀ (i : Nat) (o' : Oper), ops'[i]? = some o' → ∃ o : Oper, ops[i]? = some o ∧ o' = { o with after := o'.after } ∧ (∀ e : Edge, e ∈ o.after → e ∈ o'.after) ∧ ∀ e : Edge, e ∈ o'.after → e ∈ o.after ∨ e.on = 0
theorem Linked.yielded (h : Linked ops ops') (t : Array Value) : Go.yielded ops' t = Go.yielded ops t := by
  funext j
  unfold Go.yielded
  have e : (ops'[j]?).bind (·.dst) = (ops[j]?).bind (·.dst) := by
    cases hj : ops'[j]? with
    | none =>
      have h1 : ops.size ≤ j := by rw [← h.size]; exact Array.getElem?_eq_none_iff.1 hj
      rw [Array.getElem?_eq_none h1]
    | some o' =>
      obtain ⟨o, h1, h2, _⟩ := h.op j o' hj
      rw [h1, h2]
      rfl
  rw [e]
theorem Linked.wpOp (h : Linked ops ops') {i : Nat} {K : Act → World → Prop} {a : Act} {w : World} (hh : Go.wpOp P ops' Q i K a w) : Go.wpOp P ops Q i K a w := by
  unfold Go.wpOp at *
  cases hj : ops'[i]? with
  | none =>
    have h1 : ops.size ≤ i := by rw [← h.size]; exact Array.getElem?_eq_none_iff.1 hj
    rw [Array.getElem?_eq_none h1]
    rw [hj] at hh
    exact hh
  | some o' =>
    obtain ⟨o, h1, h2, _⟩ := h.op i o' hj
    rw [hj] at hh
    rw [h1]
    simp only at hh ⊢
    rw [h.yielded] at hh
    rw [h2] at hh
    exact hh
theorem Linked.ready (h : Linked ops ops') {listed : Array Bool} (h0 : listed.getD 0 false = true) : Region.ready md ops' listed = Region.ready md ops listed := by
  unfold Region.ready
  rw [h.size]
  refine List.filter_congr fun i hi => ?_
  rw [List.mem_range] at hi
  congr 1
  have hi' : i < ops'.size := by rw [h.size]; exact hi
  obtain ⟨o, h1, h2, h3, h4⟩ := h.op i _ (Array.getElem?_eq_getElem hi')
  rw [Array.getElem?_eq_getElem hi', h1]
  simp only [Option.map_some, Option.getD_some]
  rw [Bool.eq_iff_iff, Array.all_eq_true_iff_forall_mem, Array.all_eq_true_iff_forall_mem]
  constructor
  · exact fun hh e he => hh e (h3 e he)
  · intro hh e he
    rcases h4 e he with h5 | h5
    · exact hh e h5
    · rw [h5, h0]; simp
theorem Linked.any (h : Linked ops ops') : ∀ (f : Nat) (listed : Array Bool) (a : Act) (w : World), listed.getD 0 false = true → wpAny P md ops' Q f listed a w → wpAny P md ops Q f listed a w
  | 0, listed, a, w, h0, hh => ⟨(h.ready h0).symm.trans hh.1, hh.2⟩
  | f + 1, listed, a, w, h0, hh => ⟨fun hr => hh.1 ((h.ready h0).trans hr), fun i hi => by
      refine wpOp_mono (fun a w h' => h.any f _ a w ?_ h') (h.wpOp (hh.2 i (by rw [h.ready h0]; exact hi)))
      by_cases hi0 : 0 = i
      · subst hi0
        have : 0 < listed.size := by
          rcases Nat.lt_or_ge 0 listed.size with h | h
          · exact h
          · simp [Array.getElem?_eq_none h] at h0
        simp [this]
      · have : (listed.setIfInBounds i true).getD 0 false = listed.getD 0 false := by simp [Array.getElem?_setIfInBounds_ne (Ne.symm hi0)]
        rw [this]; exact h0⟩
/-- The list with one edge more: operation n waits for operation 0. -/
def linkAt (n : Nat) (l : List Oper) : List Oper := l.modify n fun o => { o with after := o.after.push ⟨0, .data⟩ }
theorem linked_at (n : Nat) (l : List Oper) : Linked l.toArray (linkAt n l).toArray := by
  refine ⟨by simp [linkAt], fun i o' hi => ?_⟩
  simp only [linkAt, List.getElem?_toArray, List.getElem?_modify] at hi
  cases hl : l[i]? with
  | none => rw [hl] at hi; simp at hi
  | some o =>
    rw [hl] at hi
    refine ⟨o, by simpa using hl, ?_⟩
    by_cases hn : n = i
    · simp only [if_pos hn, Option.map_eq_map, Option.map_some] at hi
      obtain rfl := (Option.some.inj hi)
      exact ⟨rfl, fun e he => Array.mem_push_of_mem _ he, fun e he => by
        rcases Array.mem_push.1 he with h | h
        · exact .inl h
        · exact .inr (by rw [h])⟩
    · simp only [if_neg hn, Option.map_eq_map, Option.map_some] at hi
      obtain rfl := (Option.some.inj hi)
      exact ⟨rfl, fun e he => he, fun e he => .inl he⟩
def OnlyNormal (Q : Exit → Act → World → Prop) : Exit → Act → World → Prop := fun e a w => e = .normal ∧ Q e a w
theorem wpAny_free_tail {a : Act} {w : World} {l : List Oper} (n m : Nat) (hB : Region.lexTailB .any l.toArray (n + m) = true)
    (h : wpDet P l.toArray w (fun a' => wpFree P false l.toArray w (fun a'' S => ∀ w', Ext w w' → S w' → wpList P l.toArray Q (l.drop (n + m)) a'' w') ((l.drop n).take m) a' (fun _ => True)) (l.take n) a) :
    wpAny P .any l.toArray Q l.toArray.size (Array.replicate l.toArray.size false) a { w with drawn := w.drawn + 1 } := by
  simp only [Region.lexTailB, Bool.and_eq_true, decide_eq_true_eq] at hB
  obtain ⟨⟨⟨⟨hsel, hn⟩, hs⟩, hc⟩, hlex⟩ := hB
  have hn' : n + m < l.length := by simpa using hn
  have hap : l.take n ++ (l.drop n).take m = l.take (n + m) := by rw [List.take_add]
  have htl : (l.take (n + m)).length = n + m := by simp; omega
  have hdl : (l.drop (n + m)).length = l.toArray.size - (n + m) := by simp
  have inv0 : HeadInv .any l.toArray (n + m) (Array.replicate l.toArray.size false) :=
    ⟨by simp, fun j oj _ hl => (by rw [getD_replicate_false] at hl; cases hl), fun t _ ht => getD_in (by simpa using ht) (getD_replicate_false _ _)⟩
  have hQ : Anti (fun a'' S => ∀ w', Ext w w' → S w' → wpList P l.toArray Q (l.drop (n + m)) a'' w') := anti_list
  have H := headFr_lex1 (md := .any) (g := l.toArray.size - (n + m)) (S := fun _ => True) (w0 := w) hQ hsel hs hc hn (post := (l.drop n).take m) (l.take n) 0 (Array.replicate l.toArray.size false) a (fun j hj => by
      rw [hap] at hj ⊢
      rw [htl] at hj
      simp [hj]) (by rw [hap]; simpa using htl) inv0 (by rw [hap, htl]; exact hlex)
    (fun k' done' a' S' hl' hk' inv' hB' hK => headFr_anti (fun d a S S' hS h => ⟨h.1, hQ _ _ _ hS h.2⟩) _ _ _ _ _ (fun _ _ => trivial) (headFr_more _ _ _ _ (headFr_lex2 hQ hsel hs hc hn ((l.drop n).take m) k' done' a' (fun _ => True) hl' hk' inv' hB' hK))) h
  rw [hap] at H
  have fin := any_of_headFr (Q' := Q) (g := l.toArray.size - (n + m)) (fun d a' S' w' hw' _ hS' hL => by
    have := wpAny_of_seq (md := .any) (Q' := Q) (l.drop (n + m)) (n + m) d a' w' (fun j => by simp [List.getElem?_drop]) (by rw [hdl]; exact hL.1) (hL.2 w' hw' hS')
    rwa [hdl] at this) _ _ _ _ _ ((Below.refl _ w).drew) (fun _ _ _ _ => trivial) trivial H
  rw [htl, show (n + m) + (l.toArray.size - (n + m)) = l.toArray.size by omega] at fin
  exact fin
/-- THE LAW: a bare move first; n fixed values (the move among them), m operations that make memory, then the rest in a forced order, the first of which need not wait for the move. -/
theorem wp_region_link {id : Nat} {a : Act} {w : World} {l : List Oper} {d : Nat} {x : Operand} {ty : TypeId} {ps : String} {af : Array Edge} (n m : Nat) (hm : P.follows .mixedOrders = true) (hl0 : l[0]? = some ⟨some d, .move x, ty, ps, af, none⟩) (hn : n + m ≠ 0)
    (hB : Region.lexTailB .any (linkAt (n + m) l).toArray (n + m) = true) (hr : (Region.ready .any l.toArray (Array.replicate l.toArray.size false)).contains 0 = true) (hsel : Region.noSelect l.toArray = true) (hf : Region.free .any l.toArray (Array.replicate l.toArray.size false) 0 = true)
    (h : wpDet P (linkAt (n + m) l).toArray w (fun a' => wpFree P false (linkAt (n + m) l).toArray w (fun a'' S => ∀ w', Ext w w' → S w' → wpList P (linkAt (n + m) l).toArray (OnlyNormal Q) ((linkAt (n + m) l).drop (n + m)) a'' w') (((linkAt (n + m) l).drop n).take m) a' (fun _ => True)) ((linkAt (n + m) l).take n) a) : (Code.region id l.toArray true).wp P Q a w := by
  refine wp_region_any hm ?_
  have H := wpAny_free_tail (Q := OnlyNormal Q) n m hB h
  have L := linked_at (n + m) l
  have hsz : (linkAt (n + m) l).toArray.size = l.toArray.size := L.size
  have hpos : 0 < l.toArray.size := by
    have : (0 : Nat) < l.length := by
      rcases Nat.lt_or_ge 0 l.length with h | h
      · exact h
      · rw [List.getElem?_eq_none h] at hl0; cases hl0
    simpa using this
  rw [hsz] at H
  obtain ⟨f, hfz⟩ : ∃ f, l.toArray.size = f + 1 := ⟨l.toArray.size - 1, by omega⟩
  have h0 : l.toArray[0]? = some ⟨some d, .move x, ty, ps, af, none⟩ := by simpa using hl0
  have hr0 : 0 ∈ Region.ready .any l.toArray (Array.replicate l.toArray.size false) := by simpa using hr
  refine wpAny_Q (Q := OnlyNormal Q) (fun _ _ _ h => h.2) _ _ _ _ ?_
  rw [hfz] at H hr0 hf ⊢
  refine wpAny_move h0 hsel (fun _ _ _ h => h.1) f _ _ _ (Region.free_spec h0 hf) hr0 ?_
  have h0' : (linkAt (n + m) l).toArray[0]? = some ⟨some d, .move x, ty, ps, af, none⟩ := by
    simp only [linkAt, List.getElem?_toArray, List.getElem?_modify, if_neg hn, hl0]
    rfl
  have hr1 : 0 ∈ Region.ready .any (linkAt (n + m) l).toArray (Array.replicate (f + 1) false) := by
    obtain ⟨g1, o, g2, g3⟩ := mem_ready.1 hr0
    rw [h0] at g2
    obtain rfl := Option.some.inj g2
    exact mem_ready.2 ⟨g1, _, h0', g3⟩
  have step := H.2 0 hr1
  unfold wpOp at step
  rw [h0'] at step
  simp only at step
  rw [if_pos (want_none rfl)] at step
  refine L.any f _ _ _ (by simp) ?_
  rcases step with h1 | h1
  · unfold Oper.wp execOp at h1
    simp only [Sem.run_pure] at h1
    exact h1
  · obtain ⟨_, _, _, h2⟩ := h1
    cases h2.1
end
end Go.Proofs.YtnjmplapjnnjdaaGreat
