import Derived.Test.YtnjmplapjnnjdaaGreatLink
set_option linter.unusedSimpArgs false
set_option linter.unusedVariables false
set_option linter.unnecessarySimpa false
/- A region that draws its order: fixed values, one call, fixed values; then writes in a forced order between pure operations that may come at any time. No program's text is named here. -/
namespace Go.Proofs.YtnjmplapjnnjdaaGreat
open Go.RowKit

section
variable {P : Program} {ops : Array Oper} {md : Region.Mode} {w0 : World} {Q Q' : Exit → Act → World → Prop}
/-! ### Pure operations may come first -/
theorem wpOp_putP {j : Nat} {oi oj : Oper} {v : Value} {K : Act → World → Prop} {a : Act} {w : World} (hj : ops[j]? = some oj) (hsel : ∀ cs b, oj.op ≠ .select cs b) (hselI : ∀ cs b, oi.op ≠ .select cs b) (hap : oi.apart ops oj = true)
    (hQ : ∀ e a w, Q e a w → e = .normal) (h : wpOp P ops Q j K (a.put oi.dst v) w) : wpOp P ops Q j (fun a' w' => execOp a'.eval oi = execOp a.eval oi ∧ K (a'.put oi.dst v) w') a w := by
  obtain ⟨p1, p2, p3⟩ := Oper.apart_spec hap
  have c1 : execOp (a.put oi.dst v).eval oj = execOp a.eval oj := execOp_put oj hsel a oi.dst v p1
  have c2 : Region.wanted oj (yielded ops (a.put oi.dst v).tmps) = Region.wanted oj (yielded ops a.tmps) := wanted_put oj a oi.dst v p1
  have lets : ¬LetsOut Q := fun ⟨a, w, h⟩ => by cases hQ _ _ _ h
  have key : ∀ u w', K ((a.put oi.dst v).put oj.dst u) w' → execOp (a.put oj.dst u).eval oi = execOp a.eval oi ∧ K ((a.put oj.dst u).put oi.dst v) w' := fun u w' hk =>
    ⟨execOp_put oi hselI a oj.dst u p3, by rw [← Act.put_comm a v u p2]; exact hk⟩
  unfold wpOp at *
  rw [hj] at h ⊢
  simp only at h ⊢
  rw [c2] at h
  split
  · rename_i hw
    rw [if_pos hw] at h
    rcases h with h | h
    · refine .inl ?_
      unfold Oper.wp at h ⊢
      rw [c1] at h
      generalize (execOp a.eval oj).run P w = r at h ⊢
      cases r with
      | ok n w' =>
        cases n <;> simp only [Oper.upon] at h ⊢
        case value u => exact key _ _ h
        case skip => exact key _ _ h
        case defer df =>
          refine ⟨execOp_put oi hselI ({ a with defers := df :: a.defers } : Act) oj.dst undef p3, ?_⟩
          rw [Act.put_defers] at h
          rw [← Act.put_comm _ v undef p2]
          exact h
        case enter f args =>
          exact Calls.mono h fun e w'' he => by
            cases e with
            | returned u => exact key _ _ he
            | panicked c => cases hQ _ _ _ he
            | outgrown => exact he
        case row rw_ args => exact Rows.mono h fun u w'' he => key _ _ he
        all_goals exact h
      | halt y w' =>
        cases y <;> simp only [Oper.upon] at h ⊢
        case panic c => cases hQ _ _ _ h
        all_goals exact h
    · exact absurd h.2 lets
  · rename_i hw
    rw [if_neg hw] at h
    exact key _ _ h
theorem upon_QK {o : Oper} {a : Act} {K K' : Act → World → Prop} (hQ : ∀ e a w, Q e a w → e = .normal) (hK : ∀ a w, K a w → K' a w) (r : Result Next) (h : o.upon P a K Q r) : o.upon P a K' Q' r := by
  have lets : ¬LetsOut Q := fun ⟨a, w, h⟩ => by cases hQ _ _ _ h
  cases r with
  | ok n w' =>
    cases n <;> simp only [Oper.upon] at h ⊢
    case enter f args =>
      exact Calls.mono h fun e w'' he => by
        cases e with
        | returned u => exact hK _ _ he
        | panicked c => cases hQ _ _ _ he
        | outgrown => exact absurd he lets
    case row rw_ args => exact Rows.mono h fun u w'' he => hK _ _ he
    all_goals first | exact hK _ _ h | exact h
  | halt y w' =>
    cases y <;> simp only [Oper.upon] at h ⊢
    case panic c => cases hQ _ _ _ h
    all_goals exact h
theorem wpOp_of_list {i : Nat} {o : Oper} {R : Act → World → Prop} {K : Act → World → Prop} {a : Act} {w : World} (ho : ops[i]? = some o) (hK : ∀ a w, R a w → K a w) (h : wpList P ops (fun e a w => e = .normal ∧ R a w) [o] a w) : wpOp P ops (OnlyNormal Q) i K a w := by
  unfold wpOp
  rw [ho]
  simp only
  unfold wpList at h
  split
  · rename_i hw
    rw [if_pos hw] at h
    rcases h with h | h
    · exact .inl (upon_QK (Q' := OnlyNormal Q) (fun e a w hh => hh.1) (fun a w hh => hK _ _ hh.2) _ h)
    · obtain ⟨_, a, w, hh, _⟩ := h
      cases hh
  · rename_i hw
    rw [if_neg hw] at h
    exact hK _ _ h.2
/-- Orders, as a tree: a pure operation; the only one that is ready; the two that are. -/
inductive OT where
  | nil
  | pure (i : Nat) (t : OT)
  | one (i : Nat) (t : OT)
  | two (i : Nat) (t : OT) (j : Nat) (u : OT)
def OT.len : OT → Nat
  | .nil => 0
  | .pure _ t => t.len + 1
  | .one _ t => t.len + 1
  | .two _ t _ _ => t.len + 1
end
end Go.Proofs.YtnjmplapjnnjdaaGreat

/- Orders as a tree, where a word on the world stays true until the operation s comes: what it fixes may come at any time ahead of s. No program's text is named here. -/
namespace Go.Proofs.YtnjmplapjnnjdaaGreat
open Go.RowKit

section
variable {P : Program} {ops : Array Oper} {md : Region.Mode} {Q : Exit → Act → World → Prop} {I : World → Prop} {s : Nat}
def wpAnyI (P : Program) (md : Region.Mode) (ops : Array Oper) (I : World → Prop) (s : Nat) (Q : Exit → Act → World → Prop) : Nat → Array Bool → Act → World → Prop
  | 0, d, a, w => (d.getD s true = false → I w) ∧ Region.ready md ops d = [] ∧ Q .normal a w
  | f + 1, d, a, w => (d.getD s true = false → I w) ∧ (Region.ready md ops d = [] → Q .normal a w) ∧ ∀ i ∈ Region.ready md ops d, wpOp P ops Q i (wpAnyI P md ops I s Q f (d.setIfInBounds i true)) a w
theorem wpAny_of_I : ∀ (f : Nat) (d : Array Bool) (a : Act) (w : World), wpAnyI P md ops I s Q f d a w → wpAny P md ops Q f d a w
  | 0, _, _, _, h => h.2
  | f + 1, _, _, _, h => ⟨h.2.1, fun i hi => wpOp_mono (fun a w h' => wpAny_of_I f _ a w h') (h.2.2 i hi)⟩
theorem wpAnyI_I {f : Nat} {d : Array Bool} {a : Act} {w : World} (h : wpAnyI P md ops I s Q f d a w) : d.getD s true = false → I w := by
  cases f with
  | zero => exact h.1
  | succ f => exact h.1
theorem wpAnyI_pure {i : Nat} {oi os : Oper} {v : Value} (h0 : ops[i]? = some oi) (hg : oi.guard = none) (hs : ops[s]? = some os) (hsi : Region.waitsFor md ops s i = true) (hne : i ≠ s) (hsel : Region.noSelect ops = true) (hQ : ∀ e a w, Q e a w → e = .normal) : ∀ (f : Nat) (listed : Array Bool) (a : Act) (w : World),
    (∀ j oj, ops[j]? = some oj → j ≠ i → listed.getD j true = false → (∀ e ∈ oj.after, Region.binds md e = true → e.on ≠ i) → oi.apart ops oj = true) → i ∈ Region.ready md ops listed →
    (∀ w, I w → (execOp a.eval oi).run P w = .ok (.value v) w) → I w → listed.getD s true = false → wpAnyI P md ops I s Q f (listed.setIfInBounds i true) (a.put oi.dst v) w → wpAnyI P md ops I s Q (f + 1) listed a w := by
  have op0 : ∀ (K : Act → World → Prop) (a : Act) (w : World), I w → (∀ w, I w → (execOp a.eval oi).run P w = .ok (.value v) w) → K (a.put oi.dst v) w → wpOp P ops Q i K a w := fun K a w hw hv hK => by
    unfold wpOp
    rw [h0]
    simp only
    rw [if_pos (want_none hg)]
    refine .inl ?_
    unfold Oper.wp
    rw [hv w hw]
    exact hK
  have hjs : ∀ (listed : Array Bool), i ∈ Region.ready md ops listed → ∀ j ∈ Region.ready md ops listed, j ≠ s := fun listed hr j hj e => by
    subst e
    obtain ⟨_, oj, hoj, hall⟩ := mem_ready.1 hj
    obtain ⟨o', ho', e, he, hb, hon⟩ := Region.waitsFor_spec hsi
    obtain rfl : o' = oj := Option.some.inj (ho'.symm.trans hoj)
    have h1 := hall e he hb
    have h2 := (mem_ready.1 hr).1
    rw [hon, getD_both h2] at h1
    cases h1
  intro f
  induction f with
  | zero =>
    intro listed a w _ hr hv hw _ H
    refine ⟨fun _ => hw, fun hh => (by rw [hh] at hr; cases hr), fun j hj => ?_⟩
    by_cases hj0 : j = i
    · subst hj0; exact op0 _ _ _ hw hv H
    · have := ready_mono hj hj0
      rw [H.2.1] at this
      cases this
  | succ f ih =>
    intro listed a w hfree hr hv hw hsun H
    refine ⟨fun _ => hw, fun hh => (by rw [hh] at hr; cases hr), fun j hj => ?_⟩
    by_cases hj0 : j = i
    · subst hj0; exact op0 _ _ _ hw hv H
    have hjsn := hjs listed hr j hj
    obtain ⟨hjun, oj, hoj, hall⟩ := mem_ready.1 hj
    have hnot : ∀ e ∈ oj.after, Region.binds md e = true → e.on ≠ i := fun e he hb heq => by
      have h1 := hall e he hb
      have h2 := (mem_ready.1 hr).1
      rw [heq, getD_both h2] at h1
      cases h1
    have hap := hfree j oj hoj hj0 hjun hnot
    have step := wpOp_putP hoj (Region.noSelect_spec hsel j oj · · hoj) (Region.noSelect_spec hsel i oi · · h0) hap hQ (H.2.2 j (ready_mono hj hj0))
    refine wpOp_mono (fun a' w' ⟨e1, hk⟩ => ?_) step
    refine ih (listed.setIfInBounds j true) a' w' (fun k ok hk2 hk0 hun hno => ?_) (ready_mono hr (Ne.symm hj0)) (fun w hh => by rw [e1]; exact hv w hh) (wpAnyI_I hk (by rw [getD_set_ne true hjsn, getD_set_ne true hne]; exact hsun)) (by rw [getD_set_ne true hjsn]; exact hsun) ?_
    · refine hfree k ok hk2 hk0 ?_ hno
      by_cases hjk : j = k
      · subst hjk; exact hjun
      · rwa [getD_set_ne true hjk] at hun
    · rw [Array.setIfInBounds_comm _ _ hj0]
      exact hk
def wpOTI (P : Program) (ops : Array Oper) (Q : Exit → Act → World → Prop) (l : List Oper) (I : World → Prop) (s : Nat) : OT → Bool → Act → World → Prop
  | .nil, live, a, w => (live = true → I w) ∧ Q .normal a w
  | .pure i t, live, a, w => (live = true → I w) ∧ ∃ v, (∀ w, I w → (execOp a.eval (l.getD i default)).run P w = .ok (.value v) w) ∧ wpOTI P ops Q l I s t live (a.put (l.getD i default).dst v) w
  | .one i t, live, a, w => (live = true → I w) ∧ wpList P ops (fun e a w => e = .normal ∧ wpOTI P ops Q l I s t (live && i != s) a w) [l.getD i default] a w
  | .two i t j u, live, a, w => (live = true → I w) ∧ wpList P ops (fun e a w => e = .normal ∧ wpOTI P ops Q l I s t (live && i != s) a w) [l.getD i default] a w ∧ wpList P ops (fun e a w => e = .normal ∧ wpOTI P ops Q l I s u (live && j != s) a w) [l.getD j default] a w
def otI (md : Region.Mode) (ops : Array Oper) (s : Nat) : OT → Array Bool → Bool
  | .nil, d => (Region.ready md ops d).isEmpty
  | .pure i t, d => (Region.ready md ops d).contains i && (Region.free md ops d i && (((ops[i]?).map (·.guard.isNone)).getD false && (Region.waitsFor md ops s i && (decide (i ≠ s) && (!d.getD s true && otI md ops s t (d.setIfInBounds i true))))))
  | .one i t, d => (Region.ready md ops d == [i]) && otI md ops s t (d.setIfInBounds i true)
  | .two i t j u, d => (Region.ready md ops d == [i, j]) && (otI md ops s t (d.setIfInBounds i true) && (otI md ops s u (d.setIfInBounds j true) && decide (t.len = u.len)))
theorem live_set {d : Array Bool} {i : Nat} (hi : d.getD i true = false) : (!(d.setIfInBounds i true).getD s true) = ((!d.getD s true) && i != s) := by
  have hlt : i < d.size := by
    rcases Nat.lt_or_ge i d.size with h | h
    · exact h
    · simp [Array.getElem?_eq_none h] at hi
  by_cases h : i = s
  · subst h
    simp [hlt]
  · rw [getD_set_ne true h]
    simp [h]
theorem wpAnyI_of_tree {l : List Oper} (hl : ∀ i : Nat, ops[i]? = l[i]?) (hsel : Region.noSelect ops = true) {os : Oper} (hs : ops[s]? = some os) : ∀ (t : OT) (d : Array Bool) (a : Act) (w : World), otI md ops s t d = true → wpOTI P ops Q l I s t (!d.getD s true) a w → wpAnyI P md ops I s (OnlyNormal Q) t.len d a w
  | .nil, d, a, w, hB, h => ⟨fun hh => h.1 (by rw [hh]; rfl), by simpa [otI] using hB, rfl, h.2⟩
  | .one i t, d, a, w, hB, h => by
    simp only [otI, Bool.and_eq_true, beq_iff_eq] at hB
    obtain ⟨h1, h2⟩ := hB
    refine ⟨fun hh => h.1 (by rw [hh]; rfl), fun hh => (by rw [hh] at h1; cases h1), fun j hj => ?_⟩
    rw [h1] at hj
    obtain rfl := List.mem_singleton.1 hj
    have hr : j ∈ Region.ready md ops d := by rw [h1]; simp
    obtain ⟨hun, o, ho, _⟩ := mem_ready.1 hr
    have ho' : l.getD j default = o := by rw [hl j] at ho; rw [List.getD_eq_getElem?_getD, ho]; rfl
    unfold wpOTI at h
    rw [ho'] at h
    exact wpOp_of_list ho (fun a w hh => wpAnyI_of_tree hl hsel hs t _ a w h2 (by rw [live_set hun]; exact hh)) h.2
  | .two i t j u, d, a, w, hB, h => by
    simp only [otI, Bool.and_eq_true, beq_iff_eq, decide_eq_true_eq] at hB
    obtain ⟨h1, h2, h3, h4⟩ := hB
    unfold wpOTI at h
    refine ⟨fun hh => h.1 (by rw [hh]; rfl), fun hh => (by rw [hh] at h1; cases h1), fun k hk => ?_⟩
    have hr : k ∈ Region.ready md ops d := hk
    obtain ⟨hun, o, ho, _⟩ := mem_ready.1 hr
    have ho' : l.getD k default = o := by rw [hl k] at ho; rw [List.getD_eq_getElem?_getD, ho]; rfl
    rw [h1] at hk
    rcases List.mem_cons.1 hk with rfl | hk
    · rw [ho'] at h
      exact wpOp_of_list ho (fun a w hh => wpAnyI_of_tree hl hsel hs t _ a w h2 (by rw [live_set hun]; exact hh)) h.2.1
    · obtain rfl := List.mem_singleton.1 hk
      rw [ho'] at h
      exact wpOp_of_list ho (fun a w hh => by have := wpAnyI_of_tree hl hsel hs u _ a w h3 (by rw [live_set hun]; exact hh); rwa [← h4] at this) h.2.2
  | .pure i t, d, a, w, hB, h => by
    simp only [otI, Bool.and_eq_true, decide_eq_true_eq, Bool.not_eq_true'] at hB
    obtain ⟨h1, h2, h3, h4, h5, h6, h7⟩ := hB
    have hr : i ∈ Region.ready md ops d := by simpa using h1
    obtain ⟨hun, o, ho, _⟩ := mem_ready.1 hr
    have ho' : l.getD i default = o := by rw [hl i] at ho; rw [List.getD_eq_getElem?_getD, ho]; rfl
    have hg : o.guard = none := by rw [ho] at h3; simpa using h3
    unfold wpOTI at h
    rw [ho'] at h
    obtain ⟨hI, v, hv, hn⟩ := h
    exact wpAnyI_pure ho hg hs h4 h5 hsel (fun _ _ _ h => h.1) t.len d a w (Region.free_spec ho h2) hr hv (hI (by rw [h6]; rfl)) h6 (wpAnyI_of_tree hl hsel hs t _ _ _ h7 (by rw [live_set hun]; simp only [bne_iff_ne, ne_eq, h5, not_false_eq_true, Bool.and_true, (by simpa using h5 : (i != s) = true)]; exact hn))
/-- THE LAW. -/
theorem wp_region_treeI {id : Nat} {a : Act} {w : World} {l : List Oper} (I : World → Prop) (s : Nat) (t : OT) (hm : P.follows .mixedOrders = true) (hB : (Region.noSelect l.toArray && (decide (s < l.toArray.size) && (otI .any l.toArray s t (Array.replicate l.toArray.size false) && decide (t.len = l.toArray.size)))) = true)
    (h : ∀ w1, Ext w w1 → wpOTI P l.toArray Q l I s t true a w1) : (Code.region id l.toArray true).wp P Q a w := by
  simp only [Bool.and_eq_true, decide_eq_true_eq] at hB
  obtain ⟨hsel, hs, hord, hsz⟩ := hB
  refine wp_region_any hm ?_
  refine wpAny_Q (Q := OnlyNormal Q) (fun _ _ _ h => h.2) _ _ _ _ ?_
  have hlive : (!(Array.replicate l.toArray.size false).getD s true) = true := by
    have : s < l.length := by simpa using hs
    simp [Array.getElem?_replicate, this]
  have := wpAnyI_of_tree (P := P) (md := .any) (Q := Q) (I := I) (l := l) (fun i => by simp) hsel (Array.getElem?_eq_getElem hs) t _ a _ hord (by rw [hlive]; exact h _ (Below.refl _ w).drew)
  rw [hsz] at this
  exact wpAny_of_I _ _ _ _ this
end
end Go.Proofs.YtnjmplapjnnjdaaGreat
