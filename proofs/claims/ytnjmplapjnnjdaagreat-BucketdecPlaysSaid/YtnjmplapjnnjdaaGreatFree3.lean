/- Regions that draw their order, whose operations may make new memory but leave all old memory alone: one walk of the text's order serves every order. A value may hang on the order (a new block's number): the walk is told a stable fact of it. No program's text is named here. -/
import Derived.Test.YtnjmplapjnnjdaaGreatTrel3
import Derived.Test.YtnjmplapjnnjdaaGreatProb
set_option linter.unusedSimpArgs false
set_option linter.unusedVariables false
set_option linter.unnecessarySimpa false
namespace Go.Proofs.YtnjmplapjnnjdaaGreat
open Go.RowKit

/-- w' keeps all that lay in w. -/
abbrev Ext (w w' : World) : Prop := Below w.heap.size w w'
theorem ext_trans {a b c : World} (h : Ext a b) (k : Ext b c) : Ext a c := h.trans (k.mono h.size)
def Stable (R : World → Prop) : Prop := ∀ w w', Ext w w' → R w → R w'

section
variable {P : Program} {c : Bool} {ops : Array Oper} {md : Region.Mode} {w0 : World}

/-- What is asked of an operation's outcome (c: may it be a call?). -/
def freeUpon (P : Program) (c : Bool) (w : World) (R : Value → World → Prop) : Result Next → Prop
  | .ok (.value u) w' => Ext w w' ∧ R u w'
  | .ok .skip w' => Ext w w' ∧ R undef w'
  | .ok (.enter f args) w' => c = true ∧ Ext w w' ∧ Calls P f args w' (fun e w'' => (∃ v, e = .returned v ∧ R v w'') ∧ Ext w' w'')
  | _ => False
/-- R is a stable fact of what the operation yields, in every world that keeps w0. -/
structure FreeAt (P : Program) (c : Bool) (w0 : World) (o : Oper) (a : Act) (R : Value → World → Prop) : Prop where
  stable : ∀ v, Stable (R v)
  run : ∀ w, Ext w0 w → freeUpon P c w R ((execOp a.eval o).run P w)
def isFree (P : Program) (c : Bool) (w0 : World) (o : Oper) (a : Act) (K : Act → (World → Prop) → Prop) (S : World → Prop) : Prop :=
  ∃ R, FreeAt P c w0 o a R ∧ ∀ v, (∃ w, Ext w0 w ∧ R v w) → K (a.put o.dst v) (fun w => S w ∧ R v w)
/-- Operation i comes up. -/
def frOp (P : Program) (c : Bool) (ops : Array Oper) (w0 : World) (i : Nat) (K : Act → (World → Prop) → Prop) (a : Act) (S : World → Prop) : Prop :=
  match ops[i]? with
  | none => K a S
  | some o => if Region.wanted o (yielded ops a.tmps) then isFree P c w0 o a K S else K (a.put o.dst undef) S
/-- In whatever order. -/
def anyFr (P : Program) (c : Bool) (md : Region.Mode) (ops : Array Oper) (w0 : World) (Q : Act → (World → Prop) → Prop) : Nat → Array Bool → Act → (World → Prop) → Prop
  | 0, done, a, S => Region.ready md ops done = [] ∧ Q a S
  | f + 1, done, a, S => (Region.ready md ops done = [] → Q a S) ∧ ∀ i ∈ Region.ready md ops done, frOp P c ops w0 i (anyFr P c md ops w0 Q f (done.setIfInBounds i true)) a S
/-- In the text's order. -/
def wpFree (P : Program) (c : Bool) (ops : Array Oper) (w0 : World) (Q : Act → (World → Prop) → Prop) : List Oper → Act → (World → Prop) → Prop
  | [], a, S => Q a S
  | o :: rest, a, S => if Region.wanted o (yielded ops a.tmps) then isFree P c w0 o a (wpFree P c ops w0 Q rest) S else wpFree P c ops w0 Q rest (a.put o.dst undef) S

/-- K asks no less where less is known. -/
def Anti (K : Act → (World → Prop) → Prop) : Prop := ∀ a S S', (∀ w, S' w → S w) → K a S → K a S'
theorem isFree_anti {o : Oper} {K : Act → (World → Prop) → Prop} (hK : Anti K) : Anti (fun a S => isFree P c w0 o a K S) := fun a S S' h ⟨R, hR, hn⟩ =>
  ⟨R, hR, fun v hv => hK _ _ _ (fun w hw => ⟨h w hw.1, hw.2⟩) (hn v hv)⟩
theorem frOp_anti {i : Nat} {K : Act → (World → Prop) → Prop} (hK : Anti K) : Anti (frOp P c ops w0 i K) := fun a S S' h hh => by
  unfold frOp at *
  split
  · rename_i hi; rw [hi] at hh; exact hK _ _ _ h hh
  · rename_i o hi
    rw [hi] at hh
    simp only at hh
    split
    · rename_i hw; rw [if_pos hw] at hh; exact isFree_anti hK _ _ _ h hh
    · rename_i hw; rw [if_neg hw] at hh; exact hK _ _ _ h hh
theorem anyFr_anti {Q : Act → (World → Prop) → Prop} (hQ : Anti Q) : ∀ (f : Nat) (done : Array Bool), Anti (anyFr P c md ops w0 Q f done)
  | 0, _ => fun a S S' h ⟨h1, h2⟩ => ⟨h1, hQ _ _ _ h h2⟩
  | f + 1, _ => fun a S S' h ⟨h1, h2⟩ => ⟨fun h0 => hQ _ _ _ h (h1 h0), fun i hi => frOp_anti (anyFr_anti hQ f _) _ _ _ h (h2 i hi)⟩
theorem wpFree_anti {Q : Act → (World → Prop) → Prop} (hQ : Anti Q) : ∀ l, Anti (wpFree P c ops w0 Q l)
  | [] => hQ
  | o :: l => fun a S S' h hh => by
    unfold wpFree at hh ⊢
    split
    · rename_i hw; rw [if_pos hw] at hh; exact isFree_anti (wpFree_anti hQ l) _ _ _ h hh
    · rename_i hw; rw [if_neg hw] at hh; exact wpFree_anti hQ l _ _ _ h hh
/-- From here the machine's own walk. -/
theorem wpOp_of_frOp {i : Nat} {a : Act} {S : World → Prop} {K : Act → (World → Prop) → Prop} {K' : Act → World → Prop} {Q' : Exit → Act → World → Prop} {w : World} (hw : Ext w0 w) (hS : S w) (hst : Stable S)
    (h : ∀ a S' w', Ext w0 w' → Stable S' → S' w' → K a S' → K' a w') (hh : frOp P c ops w0 i K a S) : wpOp P ops Q' i K' a w := by
  unfold frOp at hh
  unfold wpOp
  split
  · rename_i hi; rw [hi] at hh; exact h _ _ _ hw hst hS hh
  · rename_i o hi
    rw [hi] at hh
    simp only at hh
    split
    · rename_i hwt
      rw [if_pos hwt] at hh
      obtain ⟨R, hR, hn⟩ := hh
      refine .inl ?_
      have h3 := hR.run w hw
      unfold Oper.wp
      generalize (execOp a.eval o).run P w = r at *
      have fin : ∀ v w', Ext w w' → R v w' → K' (a.put o.dst v) w' := fun v w' he hr =>
        h _ _ _ (ext_trans hw he) (fun x y hx hs => ⟨hst x y hx hs.1, hR.stable v x y hx hs.2⟩) ⟨hst _ _ he hS, hr⟩ (hn v ⟨w', ext_trans hw he, hr⟩)
      cases r with
      | ok n w' =>
        cases n <;> simp only [freeUpon] at h3 <;> simp only [Oper.upon]
        case value u => exact fin _ _ h3.1 h3.2
        case skip => exact fin _ _ h3.1 h3.2
        case enter f args =>
          exact h3.2.2.mono fun e w'' ⟨⟨v, he, hr⟩, hx⟩ => by subst he; exact fin _ _ (ext_trans h3.2.1 hx) hr
      | halt x w' => simp only [freeUpon] at h3
    · rename_i hwt; rw [if_neg hwt] at hh; exact h _ _ _ hw hst hS hh
theorem wpAny_of_fr {Q : Act → (World → Prop) → Prop} {Q' : Exit → Act → World → Prop} (hQ : ∀ a S w, Ext w0 w → Stable S → S w → Q a S → Q' .normal a w) : ∀ (f : Nat) (done : Array Bool) (a : Act) (S : World → Prop) (w : World), Ext w0 w → Stable S → S w →
    anyFr P c md ops w0 Q f done a S → wpAny P md ops Q' f done a w
  | 0, _, _, _, _, hw, hst, hS, h => ⟨h.1, hQ _ _ _ hw hst hS h.2⟩
  | f + 1, _, _, _, _, hw, hst, hS, h => ⟨fun h0 => hQ _ _ _ hw hst hS (h.1 h0), fun i hi => wpOp_of_frOp hw hS hst (fun a' S' w' hw' hst' hS' => wpAny_of_fr hQ f _ a' S' w' hw' hst' hS') (h.2 i hi)⟩

/-- What operation o yields in state a. -/
def GivesR (P : Program) (c : Bool) (ops : Array Oper) (w0 : World) (o : Oper) (R : Value → World → Prop) (a : Act) : Prop :=
  (Region.wanted o (yielded ops a.tmps) = true ∧ FreeAt P c w0 o a R) ∨ (Region.wanted o (yielded ops a.tmps) = false ∧ R = fun v _ => v = undef)
theorem GivesR.op {i : Nat} {o : Oper} {R : Value → World → Prop} {a : Act} {S : World → Prop} (hi : ops[i]? = some o) (hy : GivesR P c ops w0 o R a) {K : Act → (World → Prop) → Prop} (hK : Anti K) (h : ∀ v, (∃ w, Ext w0 w ∧ R v w) → K (a.put o.dst v) (fun w => S w ∧ R v w)) : frOp P c ops w0 i K a S := by
  unfold frOp
  rw [hi]
  simp only
  rcases hy with ⟨hw, hR⟩ | ⟨hw, rfl⟩
  · rw [if_pos hw]; exact ⟨R, hR, h⟩
  · rw [if_neg (by simp [hw])]
    exact hK _ _ _ (fun w hw => ⟨hw, rfl⟩) (h undef ⟨w0, Below.refl _ _, rfl⟩)
theorem GivesR.of_same {o : Oper} {R : Value → World → Prop} {a a' : Act} (hy : GivesR P c ops w0 o R a) (he : execOp a'.eval o = execOp a.eval o) (hw : Region.wanted o (yielded ops a'.tmps) = Region.wanted o (yielded ops a.tmps)) : GivesR P c ops w0 o R a' := by
  unfold GivesR at *
  rw [hw]
  exact hy.imp (fun h => ⟨h.1, h.2.stable, fun w hw => by rw [he]; exact h.2.run w hw⟩) id
theorem givesR_of_frOp {i : Nat} {o : Oper} {a : Act} {S : World → Prop} {K : Act → (World → Prop) → Prop} (hi : ops[i]? = some o) (hK : Anti K) (h : frOp P c ops w0 i K a S) : ∃ R, GivesR P c ops w0 o R a ∧ ∀ v, (∃ w, Ext w0 w ∧ R v w) → K (a.put o.dst v) (fun w => S w ∧ R v w) := by
  unfold frOp at h
  rw [hi] at h
  simp only at h
  by_cases hw : Region.wanted o (yielded ops a.tmps) = true
  · rw [if_pos hw] at h
    obtain ⟨R, hR, hn⟩ := h
    exact ⟨R, .inl ⟨hw, hR⟩, hn⟩
  · rw [if_neg hw] at h
    exact ⟨fun v _ => v = undef, .inr ⟨by simpa using hw, rfl⟩, fun v ⟨_, _, hv⟩ => by subst hv; exact hK _ _ _ (fun w hw => hw.1) h⟩

/-- Every operation yields something. -/
theorem GivesR.some {o : Oper} {R : Value → World → Prop} {a : Act} (hy : GivesR P c ops w0 o R a) : ∃ v w, Ext w0 w ∧ R v w := by
  rcases hy with ⟨_, hR⟩ | ⟨_, rfl⟩
  · have h := hR.run w0 (Below.refl _ _)
    generalize (execOp a.eval o).run P w0 = r at h
    cases r with
    | ok n w' =>
      cases n <;> simp only [freeUpon] at h
      case value u => exact ⟨_, _, h.1, h.2⟩
      case skip => exact ⟨_, _, h.1, h.2⟩
      case enter f args =>
        obtain ⟨e, w', fr, ⟨⟨v, _, hv⟩, hx⟩, _⟩ := h.2.2 []
        exact ⟨_, _, ext_trans h.2.1 hx, hv⟩
    | halt x w' => simp only [freeUpon] at h
  · exact ⟨undef, w0, Below.refl _ _, rfl⟩
/-- What a plain operation yields, whatever another one, apart from it, has yielded. -/
theorem joinR {oj : Oper} {R : Value → World → Prop} {a : Act} {d : Option Tmp} (hsome : ∃ v w, Ext w0 w ∧ R v w) (same : ∀ v, execOp (a.put d v).eval oj = execOp a.eval oj) (samew : ∀ v, Region.wanted oj (yielded ops (a.put d v).tmps) = Region.wanted oj (yielded ops a.tmps))
    (T : Value → Value → (World → Prop) → Prop) (hT : ∀ v u S1 S2, (∀ w, S2 w → S1 w) → T v u S1 → T v u S2) (S : World → Prop)
    (step : ∀ v (_ : ∃ w, Ext w0 w ∧ R v w), ∃ Rj, GivesR P false ops w0 oj Rj (a.put d v) ∧ ∀ u, (∃ w, Ext w0 w ∧ Rj u w) → T v u (fun w => (S w ∧ R v w) ∧ Rj u w)) :
    ∃ RJ, GivesR P false ops w0 oj RJ a ∧ ∀ v (_ : ∃ w, Ext w0 w ∧ R v w) u, (∃ w, Ext w0 w ∧ RJ u w) → T v u (fun w => (S w ∧ R v w) ∧ RJ u w) := by
  have st : ∀ v : { v : Value // ∃ w, Ext w0 w ∧ R v w }, ∃ Rj, GivesR P false ops w0 oj Rj (a.put d v.1) ∧ ∀ u, (∃ w, Ext w0 w ∧ Rj u w) → T v.1 u (fun w => (S w ∧ R v.1 w) ∧ Rj u w) := fun v => step v.1 v.2
  obtain ⟨Rs, hRs⟩ := Classical.axiomOfChoice st
  obtain ⟨v0, wv0, hv1, hv2⟩ := hsome
  refine ⟨fun u w => ∀ v, Rs v u w, ?_, fun v hv u hu => ?_⟩
  · by_cases hw : Region.wanted oj (yielded ops a.tmps) = true
    · refine .inl ⟨hw, fun u x y hx hs v => ?_, fun w hwx => ?_⟩
      · rcases (hRs v).1 with ⟨_, hR⟩ | ⟨h, _⟩
        · exact hR.stable u x y hx (hs v)
        · rw [samew v.1, hw] at h; cases h
      · have each : ∀ v, freeUpon P false w (Rs v) ((execOp a.eval oj).run P w) := fun v => by
          rcases (hRs v).1 with ⟨_, hR⟩ | ⟨h, _⟩
          · have := hR.run w hwx
            rwa [same v.1] at this
          · rw [samew v.1, hw] at h; cases h
        have e0 := each ⟨v0, wv0, hv1, hv2⟩
        generalize (execOp a.eval oj).run P w = r at each e0
        cases r with
        | ok n w' =>
          cases n <;> simp only [freeUpon] at e0 each ⊢
          case value u => exact ⟨e0.1, fun v => (each v).2⟩
          case skip => exact ⟨e0.1, fun v => (each v).2⟩
          case enter => exact absurd e0.1 (by simp)
        | halt x w' => simp only [freeUpon] at e0
    · refine .inr ⟨by simpa using hw, ?_⟩
      funext u w
      have each : ∀ v, Rs v = fun u _ => u = undef := fun v => by
        rcases (hRs v).1 with ⟨h, _⟩ | ⟨_, h⟩
        · rw [samew v.1] at h; exact absurd h hw
        · exact h
      refine propext ⟨fun h => ?_, fun h v => by rw [each v]; exact h⟩
      have := h ⟨v0, wv0, hv1, hv2⟩
      rwa [each] at this
  · obtain ⟨w, hw1, hw2⟩ := hu
    exact hT _ _ _ _ (fun w hw => ⟨hw.1, hw.2 ⟨v, hv⟩⟩) ((hRs ⟨v, hv⟩).2 u ⟨w, hw1, hw2 ⟨v, hv⟩⟩)
/-- Operation i, whose value is fixed, or where no call is left, may be taken first. -/
theorem anyFr_first {Q : Act → (World → Prop) → Prop} (hQ : Anti Q) {i : Nat} {oi : Oper} {R : Value → World → Prop} (hi : ops[i]? = some oi) (hsel : ∀ (j : Nat) (o : Oper) cs b, ops[j]? = some o → o.op ≠ .select cs b)
    (hone : c = false ∨ ∃ v, ∀ u w, R u w → u = v) (f : Nat) :
    ∀ (done : Array Bool) (a : Act) (S : World → Prop),
      (∀ j oj, ops[j]? = some oj → j ≠ i → done.getD j true = false → (∀ e ∈ oj.after, Region.binds md e = true → e.on ≠ i) → oi.apart ops oj = true) →
      i ∈ Region.ready md ops done → GivesR P c ops w0 oi R a →
      (∀ v, (∃ w, Ext w0 w ∧ R v w) → anyFr P c md ops w0 Q f (done.setIfInBounds i true) (a.put oi.dst v) (fun w => S w ∧ R v w)) → anyFr P c md ops w0 Q (f + 1) done a S := by
  induction f with
  | zero =>
    intro done a S _ hr hy H
    refine ⟨fun h => (by rw [h] at hr; cases hr), fun j hj => ?_⟩
    by_cases hji : j = i
    · subst hji; exact hy.op hi (anyFr_anti hQ _ _) H
    · obtain ⟨v, w, h1, h2⟩ := hy.some
      have := ready_mono hj hji
      rw [(H v ⟨w, h1, h2⟩).1] at this
      cases this
  | succ f ih =>
    intro done a S hfree hr hy H
    refine ⟨fun h => (by rw [h] at hr; cases hr), fun j hj => ?_⟩
    by_cases hji : j = i
    · subst hji; exact hy.op hi (anyFr_anti hQ _ _) H
    obtain ⟨hjun, oj, hoj, hall⟩ := mem_ready.1 hj
    have hnot : ∀ e ∈ oj.after, Region.binds md e = true → e.on ≠ i := fun e he hb heq => by
      have h1 := hall e he hb
      have h0 := (mem_ready.1 hr).1
      rw [heq, getD_both h0] at h1
      cases h1
    have hap := hfree j oj hoj hji hjun hnot
    obtain ⟨p1, p2, p3⟩ := Oper.apart_spec hap
    have hfree' : ∀ k ok, ops[k]? = some ok → k ≠ i → (done.setIfInBounds j true).getD k true = false → (∀ e ∈ ok.after, Region.binds md e = true → e.on ≠ i) → oi.apart ops ok = true := fun k ok hk hki hun hno => by
      refine hfree k ok hk hki ?_ hno
      by_cases hjk : j = k
      · subst hjk; exact hjun
      · rwa [getD_set_ne true hjk] at hun
    have keep : ∀ u, GivesR P c ops w0 oi R (a.put oj.dst u) := fun u => hy.of_same (execOp_put oi (fun cs b => hsel i oi cs b hi) a oj.dst u p3) (wanted_put oi a oj.dst u p3)
    have same : ∀ v, execOp (a.put oi.dst v).eval oj = execOp a.eval oj := fun v => execOp_put oj (fun cs b => hsel j oj cs b hoj) a oi.dst v p1
    have samew : ∀ v, Region.wanted oj (yielded ops (a.put oi.dst v).tmps) = Region.wanted oj (yielded ops a.tmps) := fun v => wanted_put oj a oi.dst v p1
    have step : ∀ v (hv : ∃ w, Ext w0 w ∧ R v w), ∃ Rj, GivesR P c ops w0 oj Rj (a.put oi.dst v) ∧ ∀ u, (∃ w, Ext w0 w ∧ Rj u w) → anyFr P c md ops w0 Q f ((done.setIfInBounds i true).setIfInBounds j true) ((a.put oi.dst v).put oj.dst u) (fun w => (S w ∧ R v w) ∧ Rj u w) := fun v hv =>
      givesR_of_frOp hoj (anyFr_anti hQ _ _) ((H v hv).2 j (ready_mono hj hji))
    -- what j yields, whatever i yields
    have main : ∃ RJ, GivesR P c ops w0 oj RJ a ∧ ∀ v (hv : ∃ w, Ext w0 w ∧ R v w) u, (∃ w, Ext w0 w ∧ RJ u w) → anyFr P c md ops w0 Q f ((done.setIfInBounds i true).setIfInBounds j true) ((a.put oi.dst v).put oj.dst u) (fun w => (S w ∧ R v w) ∧ RJ u w) := by
      rcases hone with hc | ⟨v0, hv0⟩
      · subst hc
        exact joinR hy.some same samew (fun v u S' => anyFr P false md ops w0 Q f ((done.setIfInBounds i true).setIfInBounds j true) ((a.put oi.dst v).put oj.dst u) S') (fun v u => fun S1 S2 h => anyFr_anti hQ _ _ _ _ _ h) S step
      · obtain ⟨v, w, h1, h2⟩ := hy.some
        obtain ⟨Rj, hg, hn⟩ := step v ⟨w, h1, h2⟩
        refine ⟨Rj, hg.of_same (same v).symm (samew v).symm, fun v' hv' => ?_⟩
        obtain ⟨w', _, h2'⟩ := hv'
        obtain rfl : v' = v := (hv0 _ _ h2').trans (hv0 _ _ h2).symm
        exact hn
    obtain ⟨RJ, hg, hn⟩ := main
    refine hg.op hoj (anyFr_anti hQ _ _) fun u hu => ?_
    refine ih (done.setIfInBounds j true) (a.put oj.dst u) _ hfree' (ready_mono hr (Ne.symm hji)) (keep u) fun v hv => ?_
    have := hn v hv u hu
    rw [Array.setIfInBounds_comm _ _ hji, ← Act.put_comm a v u p2]
    exact anyFr_anti hQ _ _ _ _ _ (fun w hw => ⟨⟨hw.1.1, hw.2⟩, hw.1.2⟩) this
/-- Where no calls were let in they may as well be. -/
theorem anyFr_more {Q : Act → (World → Prop) → Prop} : ∀ (f : Nat) (done : Array Bool) (a : Act) (S : World → Prop), anyFr P false md ops w0 Q f done a S → anyFr P true md ops w0 Q f done a S
  | 0, _, _, _, h => h
  | f + 1, _, a, S, h => ⟨h.1, fun i hi => by
    have h2 := h.2 i hi
    unfold frOp at h2 ⊢
    split
    · rename_i ho; rw [ho] at h2; exact anyFr_more f _ _ _ h2
    · rename_i o ho
      rw [ho] at h2
      simp only at h2
      split
      · rename_i hw
        rw [if_pos hw] at h2
        obtain ⟨R, hR, hn⟩ := h2
        refine ⟨R, ⟨hR.stable, fun w hx => ?_⟩, fun v hv => anyFr_more f _ _ _ (hn v hv)⟩
        have := hR.run w hx
        generalize (execOp a.eval o).run P w = r at this
        cases r with
        | ok n w' =>
          cases n <;> simp only [freeUpon] at this ⊢
          case value u => exact this
          case skip => exact this
          case enter => exact absurd this.1 (by simp)
        | halt x w' => exact this
      · rename_i hw
        rw [if_neg hw] at h2
        exact anyFr_more f _ _ _ h2⟩

/-- The second phase: no calls; values may hang on the order. -/
theorem anyFr_lex2 {Q : Act → (World → Prop) → Prop} (hQ : Anti Q) (hs : Region.noSelect ops = true) (l : List Oper) :
    ∀ (k : Nat) (done : Array Bool) (a : Act) (S : World → Prop), (∀ j, l[j]? = ops[k + j]?) → Region.lexFrom md ops l.length k done = true → wpFree P false ops w0 Q l a S → anyFr P false md ops w0 Q l.length done a S := by
  induction l with
  | nil => intro k done a S _ hB h; exact ⟨by simpa [Region.lexFrom] using hB, h⟩
  | cons o l ih =>
    intro k done a S hl hB h
    have h0 : ops[k]? = some o := by simpa using (hl 0).symm
    simp only [List.length_cons, Region.lexFrom, Bool.and_eq_true] at hB
    have hh : frOp P false ops w0 k (wpFree P false ops w0 Q l) a S := by unfold frOp; rw [h0]; exact h
    have hanti : Anti (wpFree P false ops w0 Q l) := wpFree_anti hQ l
    obtain ⟨R, hy, hn⟩ := givesR_of_frOp h0 hanti hh
    refine anyFr_first hQ h0 (Region.noSelect_spec hs) (.inl rfl) l.length done a S (Region.free_spec h0 hB.1.2) (by simpa using hB.1.1) hy fun v hv => ?_
    exact ih (k + 1) _ _ _ (fun j => by have := hl (j + 1); simpa [Nat.add_assoc, Nat.add_comm 1 j] using this) hB.2 (hn v hv)

/-! ### The first phase: values that are fixed -/
theorem value_run {s : Sem Value} {w w' : World} {n : Next} (h : (do pure (Next.value (← s)) : Sem Next).run P w = .ok n w') : ∃ x, n = .value x := by
  rw [Sem.run_bind] at h
  cases hs : s.run P w with
  | ok x w1 => rw [hs] at h; simp [Sem.run_pure] at h; exact ⟨x, h.1.symm⟩
  | halt x w1 => rw [hs] at h; simp [Result.andThen] at h
/-- Operations that never enter a function. -/
def plainOp : Op → Bool
  | .move _ | .assign _ | .load .. | .binOp .. | .unOp .. | .convert .. | .fieldAddr .. | .field .. | .indexAddr .. | .index .. | .slice .. | .extract .. | .build .. | .pick .. => true
  | .call c => (match c.callee with | .builtin .len => true | _ => false)
  | _ => false
theorem noEnter {o : Oper} {ρ : Operand → Value} {w w' : World} {f : FuncId} {args : Array Value} (h : plainOp o.op = true) : (execOp ρ o).run P w ≠ .ok (.enter f args) w' := by
  intro hr
  unfold execOp at hr
  split at hr
  all_goals first
    | (simp [plainOp, *] at h; done)
    | (obtain ⟨x, hx⟩ := value_run hr; cases hx; done)
    | skip
  · simp [Sem.run_pure] at hr
  · simp [Sem.run_pure] at hr
  · rename_i c a b hop
    rw [Sem.run_bind] at hr
    cases hs : (asBool (ρ c)).run P w with
    | ok x w1 => rw [hs] at hr; simp [Sem.run_pure] at hr
    | halt x w1 => rw [hs] at hr; simp [Result.andThen] at hr
  · rename_i c hop
    rw [hop] at h
    simp only [plainOp] at h
    split at h
    · rename_i hc
      rw [Sem.run_bind] at hr
      simp only [resolve, hc, Sem.run_pure, Result.andThen_ok, invoke, builtin] at hr
      obtain ⟨x, hx⟩ := value_run hr
      cases hx
    · cases h

/-- An operation whose value is fixed, in all worlds that keep w0. -/
def detUpon (P : Program) (w : World) (v : Value) : Result Next → Prop
  | .ok (.value u) w' => w' = w ∧ u = v
  | .ok .skip w' => w' = w ∧ v = undef
  | .ok (.enter f args) w' => w' = w ∧ Calls P f args w (fun e w'' => e = .returned v ∧ Ext w w'')
  | _ => False
def wpDet (P : Program) (ops : Array Oper) (w0 : World) (K : Act → Prop) : List Oper → Act → Prop
  | [], a => K a
  | o :: rest, a => if Region.wanted o (yielded ops a.tmps) then ∃ v, (∀ w, Ext w0 w → detUpon P w v ((execOp a.eval o).run P w)) ∧ wpDet P ops w0 K rest (a.put o.dst v) else wpDet P ops w0 K rest (a.put o.dst undef)
theorem anyFr_lex1 {Q : Act → (World → Prop) → Prop} (hQ : Anti Q) (hs : Region.noSelect ops = true) {post : List Oper} {K : Act → Prop} (l : List Oper) :
    ∀ (k : Nat) (done : Array Bool) (a : Act) (S : World → Prop), (∀ j, (l ++ post)[j]? = ops[k + j]?) → Region.lexFrom md ops (l ++ post).length k done = true →
    (∀ k' done' a' S', (∀ j, post[j]? = ops[k' + j]?) → Region.lexFrom md ops post.length k' done' = true → K a' → anyFr P true md ops w0 Q post.length done' a' S') →
    wpDet P ops w0 K l a → anyFr P true md ops w0 Q (l ++ post).length done a S := by
  induction l with
  | nil => intro k done a S hl hB hp h; exact hp k done a S (by simpa using hl) (by simpa using hB) h
  | cons o l ih =>
    intro k done a S hl hB hp h
    have h0 : ops[k]? = some o := by simpa using (hl 0).symm
    simp only [List.cons_append, List.length_cons, Region.lexFrom, Bool.and_eq_true] at hB
    have next : ∀ (a' : Act) (S' : World → Prop), wpDet P ops w0 K l a' → anyFr P true md ops w0 Q (l ++ post).length (done.setIfInBounds k true) a' S' := fun a' S' h' =>
      ih (k + 1) _ a' S' (fun j => by have := hl (j + 1); simpa [Nat.add_assoc, Nat.add_comm 1 j] using this) hB.2 hp h'
    unfold wpDet at h
    by_cases hw : Region.wanted o (yielded ops a.tmps) = true
    · rw [if_pos hw] at h
      obtain ⟨v, hv, hn⟩ := h
      refine anyFr_first hQ h0 (Region.noSelect_spec hs) (R := fun u _ => u = v) (.inr ⟨v, fun u w h => h⟩) _ done a S (Region.free_spec h0 hB.1.2) (by simpa using hB.1.1) (.inl ⟨hw, fun _ _ _ _ h => h, fun w hx => ?_⟩) fun u hu => ?_
      · have := hv w hx
        generalize (execOp a.eval o).run P w = r at this
        cases r with
        | ok n w' =>
          cases n <;> simp only [detUpon] at this <;> simp only [freeUpon]
          case value u => obtain ⟨rfl, rfl⟩ := this; exact ⟨Below.refl _ _, rfl⟩
          case skip => obtain ⟨rfl, rfl⟩ := this; exact ⟨Below.refl _ _, rfl⟩
          case enter f args =>
            obtain ⟨rfl, hc⟩ := this
            exact ⟨trivial, Below.refl _ _, hc.mono fun e w'' ⟨he, hx⟩ => ⟨⟨v, he, rfl⟩, hx⟩⟩
        | halt x w' => simp only [detUpon] at this
      · obtain ⟨_, _, rfl⟩ := hu
        exact next _ _ hn
    · rw [if_neg hw] at h
      refine anyFr_first hQ h0 (Region.noSelect_spec hs) (R := fun u _ => u = undef) (.inr ⟨undef, fun u w h => h⟩) _ done a S (Region.free_spec h0 hB.1.2) (by simpa using hB.1.1) (.inr ⟨by simpa using hw, rfl⟩) fun u hu => ?_
      obtain ⟨_, _, rfl⟩ := hu
      exact next _ _ h

theorem anti_region {w : World} {Q : Exit → Act → World → Prop} : Anti (fun a'' S => ∀ w', Ext w w' → S w' → Q .normal a'' w') := fun _ _ _ hS hh w' hw hs => hh w' hw (hS w' hs)
/-- THE LAW: the first n operations yield fixed values (they may be calls); the others make new memory. -/
theorem wp_region_free {id : Nat} {Q : Exit → Act → World → Prop} {a : Act} {w : World} {l : List Oper} (n : Nat) (hm : P.follows .mixedOrders = true) (hB : Region.lexB .any l.toArray = true)
    (h : wpDet P l.toArray w (fun a' => wpFree P false l.toArray w (fun a'' S => ∀ w', Ext w w' → S w' → Q .normal a'' w') (l.drop n) a' (fun _ => True)) (l.take n) a) : (Code.region id l.toArray true).wp P Q a w := by
  simp only [Region.lexB, Bool.and_eq_true] at hB
  have hQ : Anti (fun a'' S => ∀ w', Ext w w' → S w' → Q .normal a'' w') := fun a S S' hS hh w' hw hs => hh w' hw (hS w' hs)
  have H := anyFr_lex1 (md := .any) (S := fun _ => True) (w0 := w) hQ hB.1 (post := l.drop n) (l.take n) 0 (Array.replicate l.toArray.size false) a (fun j => by simp [List.take_append_drop]) (by rw [List.take_append_drop]; simpa using hB.2)
    (fun k' done' a' S' hl' hB' hK => anyFr_anti hQ _ _ _ _ _ (fun _ _ => trivial) (anyFr_more _ _ _ _ (anyFr_lex2 hQ hB.1 (l.drop n) k' done' a' (fun _ => True) hl' hB' hK))) h
  rw [List.take_append_drop] at H
  refine wp_region_any hm ?_
  have := wpAny_of_fr (Q' := Q) (fun a'' S w' hw _ hS hq => hq w' hw hS) _ _ _ _ _ ((Below.refl _ w).drew) (fun _ _ _ _ => trivial) trivial H
  simpa using this

/-! ### Steps -/
theorem wpDet_nil {K : Act → Prop} {a : Act} (h : K a) : wpDet P ops w0 K [] a := h
/-- a plain operation, by the quiet walk's own step -/
theorem det_plain {o : Oper} {rest : List Oper} {a : Act} {K : Act → Prop} (hp : plainOp o.op = true) (h : wpQuiet P ops (fun w' => ∃ s : KeptW w0, w' = s.val) (fun a' => wpDet P ops w0 K rest a') [o] a) : wpDet P ops w0 K (o :: rest) a := by
  unfold wpQuiet at h
  unfold wpDet
  by_cases hw : Region.wanted o (yielded ops a.tmps) = true
  · rw [if_pos hw] at h ⊢
    obtain ⟨v, h1, h2⟩ := h
    refine ⟨v, fun w hx => ?_, h2⟩
    have := h1 w ⟨⟨w, hx⟩, rfl⟩
    unfold Oper.quietAt at this
    have hne := fun f args w' => noEnter (P := P) (o := o) (ρ := a.eval) (w := w) (w' := w') (f := f) (args := args) hp
    generalize (execOp a.eval o).run P w = r at this hne
    cases r with
    | ok n w' =>
      cases n <;> simp only [Oper.quietUpon] at this <;> simp only [detUpon]
      case value u => exact this
      case skip => exact this
      case enter f args => exact absurd rfl (hne f args w')
    | halt x w' => simp only [Oper.quietUpon] at this
  · rw [if_neg hw] at h ⊢
    exact h
theorem quiet_of_det {K : Act → Prop} : ∀ (l : List Oper) (a : Act), wpDet P ops w0 K l a → wpQuiet P ops (fun w' => ∃ s : KeptW w0, w' = s.val) K l a
  | [], _, h => h
  | o :: l, a, h => by
    unfold wpDet at h
    unfold wpQuiet
    by_cases hw : Region.wanted o (yielded ops a.tmps) = true
    · rw [if_pos hw] at h ⊢
      obtain ⟨v, h1, h2⟩ := h
      refine ⟨v, fun w ⟨s, hs⟩ => ?_, quiet_of_det l _ h2⟩
      subst hs
      have := h1 s.val s.property
      unfold Oper.quietAt
      generalize (execOp a.eval o).run P s.val = r at this
      cases r with
      | ok n w' =>
        cases n <;> simp only [detUpon] at this <;> simp only [Oper.quietUpon]
        case value u => exact this
        case skip => exact this
        case enter f args => exact ⟨this.1, this.2.mono fun e w'' ⟨he, hx⟩ => ⟨he, ⟨w'', ext_trans s.property hx⟩, rfl⟩⟩
      | halt x w' => exact this
    · rw [if_neg hw] at h ⊢
      exact quiet_of_det l _ h
/-- Fixed values throughout. -/
theorem wp_region_det {id : Nat} {Q : Exit → Act → World → Prop} {a : Act} {w : World} {l : List Oper} (hm : P.follows .mixedOrders = true) (hB : Region.lexB .any l.toArray = true)
    (h : wpDet P l.toArray w (fun a' => ∀ w', Ext w w' → Q .normal a' w') l a) : (Code.region id l.toArray true).wp P Q a w :=
  wp_region_kept hm hB (quiet_of_det _ _ h)
theorem want_none {o : Oper} {t : Array Value} (hg : o.guard = none) : Region.wanted o (yielded ops t) = true := by unfold Region.wanted; rw [hg]
theorem det_nilG {rest : List Oper} {l l' : List Value} {ds : List Deferred} {K : Act → Prop} {x : Operand} {d : Nat} {ad : Addr} {ty : TypeId} {ps : String} {af : Array Edge} {gd : Option (Nat × Bool)} (hw : Region.wanted ⟨some d, .nilCheck x, ty, ps, af, gd⟩ (yielded ops l.toArray) = true) (hx : (Act.mk l.toArray ds).eval x = .pointer (some ad)) (hs : l.set d (.pointer (some ad)) = l') (hn : wpDet P ops w0 K rest ⟨l'.toArray, ds⟩) :
    wpDet P ops w0 K (⟨some d, .nilCheck x, ty, ps, af, gd⟩ :: rest) ⟨l.toArray, ds⟩ := by
  unfold wpDet
  rw [if_pos hw]
  refine ⟨.pointer (some ad), fun w _ => ?_, by rw [put_list, hs]; exact hn⟩
  have : (execOp (Act.mk l.toArray ds).eval ⟨some d, .nilCheck x, ty, ps, af, gd⟩).run P w = .ok (.value (.pointer (some ad))) w := by
    unfold execOp
    simp [hx, Sem.run_pure]
  rw [this]
  exact ⟨rfl, rfl⟩
/-- a call, by its contract -/
theorem det_call {rest : List Oper} {l l' : List Value} {ds : List Deferred} {K : Act → Prop} {x : Operand} {xs : List Operand} {ts : Array TypeId} {d : Nat} {f : FuncId} {cap args : List Value} {v : Value} {ty : TypeId} {ps : String} {af : Array Edge} (hx : (Act.mk l.toArray ds).eval x = .func (.func f) #[] cap.toArray) (E : EnterF P f)
    (ha : xs.map (Act.mk l.toArray ds).eval ++ cap = args) (hc : ∀ w, Ext w0 w → Calls P f args.toArray w (fun e w' => e = .returned v ∧ Ext w w')) (hs : l.set d v = l') (hn : wpDet P ops w0 K rest ⟨l'.toArray, ds⟩) :
    wpDet P ops w0 K (⟨some d, .call { callee := .value x, args := xs.toArray, argTypes := ts }, ty, ps, af, none⟩ :: rest) ⟨l.toArray, ds⟩ := by
  unfold wpDet
  rw [if_pos (want_none rfl)]
  refine ⟨v, fun w hw => ?_, by rw [put_list, hs]; exact hn⟩
  have hr : (execOp (Act.mk l.toArray ds).eval ⟨some d, .call { callee := .value x, args := xs.toArray, argTypes := ts }, ty, ps, af, none⟩).run P w = .ok (.enter f args.toArray) w := by
    have hE := E.out args.toArray w
    rw [← ha] at hE ⊢
    unfold execOp
    simp only [resolve, hx, Deferred.ofValue, Sem.run_bind, Sem.run_pure, Result.andThen_ok, invoke]
    simpa using hE
  rw [hr]
  exact ⟨rfl, hc w hw⟩
/-- the second phase: an operation that makes new memory -/
theorem free_value {o : Oper} {rest : List Oper} {a : Act} {S : World → Prop} {Q : Act → (World → Prop) → Prop} (hg : o.guard = none) (R : Value → World → Prop) (hst : ∀ v, Stable (R v)) (hr : ∀ w, Ext w0 w → ∃ u w', (execOp a.eval o).run P w = .ok (.value u) w' ∧ Ext w w' ∧ R u w')
    (hn : ∀ v, (∃ w, Ext w0 w ∧ R v w) → wpFree P false ops w0 Q rest (a.put o.dst v) (fun w => S w ∧ R v w)) : wpFree P false ops w0 Q (o :: rest) a S := by
  unfold wpFree
  rw [if_pos (want_none hg)]
  refine ⟨R, ⟨hst, fun w hx => ?_⟩, hn⟩
  obtain ⟨u, w', h1, h2, h3⟩ := hr w hx
  rw [h1]
  exact ⟨h2, h3⟩
theorem free_fixed {o : Oper} {rest : List Oper} {a : Act} {S : World → Prop} {Q : Act → (World → Prop) → Prop} (hQ : Anti Q) (hg : o.guard = none) {v : Value} (hr : ∀ w, (execOp a.eval o).run P w = .ok (.value v) w) (hn : wpFree P false ops w0 Q rest (a.put o.dst v) S) : wpFree P false ops w0 Q (o :: rest) a S :=
  free_value hg (fun u _ => u = v) (fun _ _ _ _ h => h) (fun w _ => ⟨v, w, hr w, Below.refl _ _, rfl⟩) fun u ⟨_, _, hu⟩ => by subst hu; exact wpFree_anti hQ _ _ _ _ (fun _ h => h.1) hn
theorem free_assign {rest : List Oper} {l l' : List Value} {ds : List Deferred} {S : World → Prop} {Q : Act → (World → Prop) → Prop} (hQ : Anti Q) {x : Operand} {d : Nat} {v : Value} {ty : TypeId} {ps : String} {af : Array Edge} (hx : (Act.mk l.toArray ds).eval x = v) (hs : l.set d v = l') (hn : wpFree P false ops w0 Q rest ⟨l'.toArray, ds⟩ S) :
    wpFree P false ops w0 Q (⟨some d, .assign x, ty, ps, af, none⟩ :: rest) ⟨l.toArray, ds⟩ S :=
  free_fixed hQ rfl (v := v) (fun w => by unfold execOp; simp [hx, Sem.run_pure]) (by rw [put_list, hs]; exact hn)
theorem free_assignT {rest : List Oper} {l l' : List Value} {ds : List Deferred} {S : World → Prop} {Q : Act → (World → Prop) → Prop} (hQ : Anti Q) {k d : Nat} {v : Value} {ty : TypeId} {ps : String} {af : Array Edge} (hx : l[k]? = some v) (hs : l.set d v = l') (hn : wpFree P false ops w0 Q rest ⟨l'.toArray, ds⟩ S) :
    wpFree P false ops w0 Q (⟨some d, .assign (.tmp k), ty, ps, af, none⟩ :: rest) ⟨l.toArray, ds⟩ S :=
  free_assign hQ (by simp [Act.eval, hx]) hs hn
/-- a slice written out -/
theorem free_slice {rest : List Oper} {l : List Value} {ds : List Deferred} {S : World → Prop} {Q : Act → (World → Prop) → Prop} {d n : Nat} {t e : TypeId} {parts : Array (Nat × Operand)} {cs : Array Value} {ty : TypeId} {ps : String} {af : Array Edge}
    (hQ : Anti Q) (hr : ∀ w, (Instr.buildSlice t n (parts.map fun (i, x) => (i, (Act.mk l.toArray ds).eval x))).run P w = .ok (.slice (some ⟨w.heap.size, 0, none⟩) n n) (w.alloc (.cells cs e)))
    (hn : ∀ b, w0.heap.size ≤ b → wpFree P false ops w0 Q rest ⟨(l.set d (.slice (some ⟨b, 0, none⟩) n n)).toArray, ds⟩ (fun w => S w ∧ Box w b cs)) :
    wpFree P false ops w0 Q (⟨some d, .buildSlice t n parts, ty, ps, af, none⟩ :: rest) ⟨l.toArray, ds⟩ S := by
  refine free_value rfl (fun v w => ∃ b, v = .slice (some ⟨b, 0, none⟩) n n ∧ w0.heap.size ≤ b ∧ Box w b cs) (fun v x y hx ⟨b, h1, h2, h3⟩ => ⟨b, h1, h2, h3.kept hx⟩) (fun w hw => ⟨_, _, ?_, (Below.refl _ w).alloc (Nat.le_refl _) _, ⟨w.heap.size, rfl, hw.size, Box.new w cs e⟩⟩) ?_
  · unfold execOp
    simp only [Sem.run_bind, hr w, Result.andThen_ok, Sem.run_pure]
  · rintro v ⟨_, _, b, rfl, hb, _⟩
    rw [put_list]
    refine wpFree_anti hQ _ _ _ _ (fun w h => ⟨h.1, ?_⟩) (hn b hb)
    obtain ⟨b', h1, _, h3⟩ := h.2
    obtain rfl : b = b' := by simpa using h1
    exact h3
end
end Go.Proofs.YtnjmplapjnnjdaaGreat
/- Regions that draw their order: fixed values and new memory in any order, and a few operations in one forced order behind them. No program's text is named here. -/
namespace Go.Proofs.YtnjmplapjnnjdaaGreat
open Go.RowKit

section
variable {P : Program} {c : Bool} {ops : Array Oper} {md : Region.Mode} {w0 : World}

/-- The head's operations in whatever order. -/
def headFr (P : Program) (c : Bool) (md : Region.Mode) (ops : Array Oper) (w0 : World) (n : Nat) (L : Array Bool → Act → (World → Prop) → Prop) : Nat → Array Bool → Act → (World → Prop) → Prop
  | 0, done, a, S => L done a S
  | f + 1, done, a, S => Region.ready md ops done ≠ [] ∧ ∀ i ∈ Region.ready md ops done, i < n ∧ frOp P c ops w0 i (headFr P c md ops w0 n L f (done.setIfInBounds i true)) a S
theorem headFr_anti {n : Nat} {L : Array Bool → Act → (World → Prop) → Prop} (hL : ∀ d, Anti (L d)) : ∀ (f : Nat) (done : Array Bool), Anti (headFr P c md ops w0 n L f done)
  | 0, d => hL d
  | f + 1, _ => fun a S S' h ⟨h1, h2⟩ => ⟨h1, fun i hi => ⟨(h2 i hi).1, frOp_anti (headFr_anti hL f _) _ _ _ h (h2 i hi).2⟩⟩
theorem any_of_headFr {n g : Nat} {L : Array Bool → Act → (World → Prop) → Prop} {Q' : Exit → Act → World → Prop} (hL : ∀ done a S w, Ext w0 w → Stable S → S w → L done a S → wpAny P md ops Q' g done a w) (f : Nat) :
    ∀ (done : Array Bool) (a : Act) (S : World → Prop) (w : World), Ext w0 w → Stable S → S w → headFr P c md ops w0 n L f done a S → wpAny P md ops Q' (f + g) done a w := by
  induction f with
  | zero => intro done a S w hw hst hS h; rw [Nat.zero_add]; exact hL _ _ _ _ hw hst hS h
  | succ f ih =>
    intro done a S w hw hst hS h
    rw [show f + 1 + g = (f + g) + 1 by omega]
    refine ⟨fun h0 => absurd h0 h.1, fun i hi => ?_⟩
    exact wpOp_of_frOp hw hS hst (fun a' S' w' hw' hst' hS' h' => ih _ a' S' w' hw' hst' hS' h') (h.2 i hi).2

theorem headFr_first {n i : Nat} {oi : Oper} {R : Value → World → Prop} {L : Array Bool → Act → (World → Prop) → Prop} (hLa : ∀ d, Anti (L d)) (hi : ops[i]? = some oi) (hsel : ∀ (j : Nat) (o : Oper) cs b, ops[j]? = some o → o.op ≠ .select cs b)
    (hs : Region.sinkB md ops n = true) (hc : Region.chainB md ops n = true) (hn : n < ops.size) (hin : i < n) (hdone : ∀ done a S, L done a S → ∀ j ∈ Region.ready md ops done, n ≤ j)
    (hone : c = false ∨ ∃ v, ∀ u w, R u w → u = v) (f : Nat) :
    ∀ (done : Array Bool) (a : Act) (S : World → Prop), HeadInv md ops n done →
      (∀ j oj, ops[j]? = some oj → j ≠ i → done.getD j true = false → (∀ e ∈ oj.after, Region.binds md e = true → e.on ≠ i) → oi.apart ops oj = true) →
      i ∈ Region.ready md ops done → GivesR P c ops w0 oi R a →
      (∀ v, (∃ w, Ext w0 w ∧ R v w) → headFr P c md ops w0 n L f (done.setIfInBounds i true) (a.put oi.dst v) (fun w => S w ∧ R v w)) → headFr P c md ops w0 n L (f + 1) done a S := by
  induction f with
  | zero =>
    intro done a S inv _ hr hy H
    have hun := (mem_ready.1 hr).1
    refine ⟨List.ne_nil_of_mem hr, fun j hj => ?_⟩
    have hjn : j < n := Nat.lt_of_not_le fun h => tail_waits hs hc hn inv _ i rfl hin hun j h hj
    refine ⟨hjn, ?_⟩
    by_cases hji : j = i
    · subst hji; exact hy.op hi (headFr_anti hLa _ _) H
    · obtain ⟨v, w, h1, h2⟩ := hy.some
      exact absurd (hdone _ _ _ (H v ⟨w, h1, h2⟩) j (ready_mono hj hji)) (by omega)
  | succ f ih =>
    intro done a S inv hfree hr hy H
    have hun := (mem_ready.1 hr).1
    refine ⟨List.ne_nil_of_mem hr, fun j hj => ?_⟩
    have hjn : j < n := Nat.lt_of_not_le fun h => tail_waits hs hc hn inv _ i rfl hin hun j h hj
    refine ⟨hjn, ?_⟩
    by_cases hji : j = i
    · subst hji; exact hy.op hi (headFr_anti hLa _ _) H
    obtain ⟨hjun, oj, hoj, hall⟩ := mem_ready.1 hj
    have hnot : ∀ e ∈ oj.after, Region.binds md e = true → e.on ≠ i := fun e he hb heq => by
      have h1 := hall e he hb
      rw [heq, getD_both hun] at h1
      cases h1
    have hap := hfree j oj hoj hji hjun hnot
    obtain ⟨p1, p2, p3⟩ := Oper.apart_spec hap
    have hfree' : ∀ k ok, ops[k]? = some ok → k ≠ i → (done.setIfInBounds j true).getD k true = false → (∀ e ∈ ok.after, Region.binds md e = true → e.on ≠ i) → oi.apart ops ok = true := fun k ok hk hki hun hno => by
      refine hfree k ok hk hki ?_ hno
      by_cases hjk : j = k
      · subst hjk; exact hjun
      · rwa [getD_set_ne true hjk] at hun
    have keep : ∀ u, GivesR P c ops w0 oi R (a.put oj.dst u) := fun u => hy.of_same (execOp_put oi (fun cs b => hsel i oi cs b hi) a oj.dst u p3) (wanted_put oi a oj.dst u p3)
    have same : ∀ v, execOp (a.put oi.dst v).eval oj = execOp a.eval oj := fun v => execOp_put oj (fun cs b => hsel j oj cs b hoj) a oi.dst v p1
    have samew : ∀ v, Region.wanted oj (yielded ops (a.put oi.dst v).tmps) = Region.wanted oj (yielded ops a.tmps) := fun v => wanted_put oj a oi.dst v p1
    have step : ∀ v (hv : ∃ w, Ext w0 w ∧ R v w), ∃ Rj, GivesR P c ops w0 oj Rj (a.put oi.dst v) ∧ ∀ u, (∃ w, Ext w0 w ∧ Rj u w) → headFr P c md ops w0 n L f ((done.setIfInBounds i true).setIfInBounds j true) ((a.put oi.dst v).put oj.dst u) (fun w => (S w ∧ R v w) ∧ Rj u w) := fun v hv =>
      givesR_of_frOp hoj (headFr_anti hLa _ _) ((H v hv).2 j (ready_mono hj hji)).2
    have main : ∃ RJ, GivesR P c ops w0 oj RJ a ∧ ∀ v (hv : ∃ w, Ext w0 w ∧ R v w) u, (∃ w, Ext w0 w ∧ RJ u w) → headFr P c md ops w0 n L f ((done.setIfInBounds i true).setIfInBounds j true) ((a.put oi.dst v).put oj.dst u) (fun w => (S w ∧ R v w) ∧ RJ u w) := by
      rcases hone with hc | ⟨v0, hv0⟩
      · subst hc
        exact joinR hy.some same samew (fun v u S' => headFr P false md ops w0 n L f ((done.setIfInBounds i true).setIfInBounds j true) ((a.put oi.dst v).put oj.dst u) S') (fun v u => fun S1 S2 h => headFr_anti hLa _ _ _ _ _ h) S step
      · obtain ⟨v, w, h1, h2⟩ := hy.some
        obtain ⟨Rj, hg, hn⟩ := step v ⟨w, h1, h2⟩
        refine ⟨Rj, hg.of_same (same v).symm (samew v).symm, fun v' hv' => ?_⟩
        obtain ⟨w', _, h2'⟩ := hv'
        obtain rfl : v' = v := (hv0 _ _ h2').trans (hv0 _ _ h2).symm
        exact hn
    obtain ⟨RJ, hg, hn⟩ := main
    refine hg.op hoj (headFr_anti hLa _ _) fun u hu => ?_
    refine ih (done.setIfInBounds j true) (a.put oj.dst u) _ (inv.set hj hjn) hfree' (ready_mono hr (Ne.symm hji)) (keep u) fun v hv => ?_
    have := hn v hv u hu
    rw [Array.setIfInBounds_comm _ _ hji, ← Act.put_comm a v u p2]
    exact headFr_anti hLa _ _ _ _ _ (fun w hw => ⟨⟨hw.1.1, hw.2⟩, hw.1.2⟩) this

theorem headFr_more {n : Nat} {L : Array Bool → Act → (World → Prop) → Prop} : ∀ (f : Nat) (done : Array Bool) (a : Act) (S : World → Prop), headFr P false md ops w0 n L f done a S → headFr P true md ops w0 n L f done a S
  | 0, _, _, _, h => h
  | f + 1, _, a, S, h => ⟨h.1, fun i hi => ⟨(h.2 i hi).1, by
    have h2 := (h.2 i hi).2
    unfold frOp at h2 ⊢
    split
    · rename_i ho; rw [ho] at h2; exact headFr_more f _ _ _ h2
    · rename_i o ho
      rw [ho] at h2
      simp only at h2
      split
      · rename_i hw
        rw [if_pos hw] at h2
        obtain ⟨R, hR, hn⟩ := h2
        refine ⟨R, ⟨hR.stable, fun w hx => ?_⟩, fun v hv => headFr_more f _ _ _ (hn v hv)⟩
        have := hR.run w hx
        generalize (execOp a.eval o).run P w = r at this
        cases r with
        | ok n w' =>
          cases n <;> simp only [freeUpon] at this ⊢
          case value u => exact this
          case skip => exact this
          case enter => exact absurd this.1 (by simp)
        | halt x w' => exact this
      · rename_i hw
        rw [if_neg hw] at h2
        exact headFr_more f _ _ _ h2⟩⟩

theorem headFr_lex2 {n g : Nat} {Q : Act → (World → Prop) → Prop} (hQ : Anti Q) (hsel : Region.noSelect ops = true) (hs : Region.sinkB md ops n = true) (hc : Region.chainB md ops n = true) (hn : n < ops.size) (l : List Oper) :
    ∀ (k : Nat) (done : Array Bool) (a : Act) (S : World → Prop), (∀ j, j < l.length → l[j]? = ops[k + j]?) → k + l.length = n → HeadInv md ops n done → Region.lexHead md ops g l.length k done = true →
    wpFree P false ops w0 Q l a S → headFr P false md ops w0 n (fun d a' S' => Region.seqB md ops g n d = true ∧ Q a' S') l.length done a S := by
  induction l with
  | nil =>
    intro k done a S _ hk _ hB h
    obtain rfl : k = n := by simpa using hk
    exact ⟨by simpa [Region.lexHead] using hB, h⟩
  | cons o l ih =>
    intro k done a S hl hk inv hB h
    have h0 : ops[k]? = some o := by simpa using (hl 0 (by simp)).symm
    simp only [List.length_cons, Region.lexHead, Bool.and_eq_true] at hB
    simp only [List.length_cons] at hk
    have hh : frOp P false ops w0 k (wpFree P false ops w0 Q l) a S := by unfold frOp; rw [h0]; exact h
    obtain ⟨R, hy, hnx⟩ := givesR_of_frOp h0 (wpFree_anti hQ l) hh
    have hr : k ∈ Region.ready md ops done := by simpa using hB.1.1
    refine headFr_first (fun d a S S' hS h => ⟨h.1, hQ _ _ _ hS h.2⟩) h0 (Region.noSelect_spec hsel) hs hc hn (by omega) (fun d a' S' hL => seqB_ready hL.1) (.inl rfl) l.length done a S inv (Region.free_spec h0 hB.1.2) hr hy fun v hv => ?_
    refine ih (k + 1) _ _ _ (fun j hj => ?_) (by omega) (inv.set hr (by omega)) hB.2 (hnx v hv)
    have := hl (j + 1) (by simp; omega)
    simpa [Nat.add_assoc, Nat.add_comm 1 j] using this
theorem headFr_lex1 {n g : Nat} {Q : Act → (World → Prop) → Prop} (hQ : Anti Q) (hsel : Region.noSelect ops = true) (hs : Region.sinkB md ops n = true) (hc : Region.chainB md ops n = true) (hn : n < ops.size) {post : List Oper} {K : Act → Prop} (l : List Oper) :
    ∀ (k : Nat) (done : Array Bool) (a : Act) (S : World → Prop), (∀ j, j < (l ++ post).length → (l ++ post)[j]? = ops[k + j]?) → k + (l ++ post).length = n → HeadInv md ops n done → Region.lexHead md ops g (l ++ post).length k done = true →
    (∀ k' done' a' S', (∀ j, j < post.length → post[j]? = ops[k' + j]?) → k' + post.length = n → HeadInv md ops n done' → Region.lexHead md ops g post.length k' done' = true → K a' → headFr P true md ops w0 n (fun d a' S' => Region.seqB md ops g n d = true ∧ Q a' S') post.length done' a' S') →
    wpDet P ops w0 K l a → headFr P true md ops w0 n (fun d a' S' => Region.seqB md ops g n d = true ∧ Q a' S') (l ++ post).length done a S := by
  induction l with
  | nil => intro k done a S hl hk inv hB hp h; exact hp k done a S (by simpa using hl) (by simpa using hk) inv (by simpa using hB) h
  | cons o l ih =>
    intro k done a S hl hk inv hB hp h
    have h0 : ops[k]? = some o := by simpa using (hl 0 (by simp)).symm
    simp only [List.cons_append, List.length_cons, Region.lexHead, Bool.and_eq_true] at hB
    simp only [List.cons_append, List.length_cons] at hk
    have hr : k ∈ Region.ready md ops done := by simpa using hB.1.1
    have next : ∀ (a' : Act) (S' : World → Prop), wpDet P ops w0 K l a' → headFr P true md ops w0 n (fun d a' S' => Region.seqB md ops g n d = true ∧ Q a' S') (l ++ post).length (done.setIfInBounds k true) a' S' := fun a' S' h' =>
      ih (k + 1) _ a' S' (fun j hj => by have := hl (j + 1) (by simp at hj ⊢; omega); simpa [Nat.add_assoc, Nat.add_comm 1 j] using this) (by omega) (inv.set hr (by omega)) hB.2 hp h'
    unfold wpDet at h
    by_cases hw : Region.wanted o (yielded ops a.tmps) = true
    · rw [if_pos hw] at h
      obtain ⟨v, hv, hnx⟩ := h
      refine headFr_first (fun d a S S' hS h => ⟨h.1, hQ _ _ _ hS h.2⟩) h0 (Region.noSelect_spec hsel) hs hc hn (by omega) (fun d a' S' hL => seqB_ready hL.1) (R := fun u _ => u = v) (.inr ⟨v, fun u w h => h⟩) _ done a S inv (Region.free_spec h0 hB.1.2) hr (.inl ⟨hw, fun _ _ _ _ h => h, fun w hx => ?_⟩) fun u hu => ?_
      · have := hv w hx
        generalize (execOp a.eval o).run P w = r at this
        cases r with
        | ok n w' =>
          cases n <;> simp only [detUpon] at this <;> simp only [freeUpon]
          case value u => obtain ⟨rfl, rfl⟩ := this; exact ⟨Below.refl _ _, rfl⟩
          case skip => obtain ⟨rfl, rfl⟩ := this; exact ⟨Below.refl _ _, rfl⟩
          case enter f args =>
            obtain ⟨rfl, hc⟩ := this
            exact ⟨trivial, Below.refl _ _, hc.mono fun e w'' ⟨he, hx⟩ => ⟨⟨v, he, rfl⟩, hx⟩⟩
        | halt x w' => simp only [detUpon] at this
      · obtain ⟨_, _, rfl⟩ := hu
        exact next _ _ hnx
    · rw [if_neg hw] at h
      refine headFr_first (fun d a S S' hS h => ⟨h.1, hQ _ _ _ hS h.2⟩) h0 (Region.noSelect_spec hsel) hs hc hn (by omega) (fun d a' S' hL => seqB_ready hL.1) (R := fun u _ => u = undef) (.inr ⟨undef, fun u w h => h⟩) _ done a S inv (Region.free_spec h0 hB.1.2) hr (.inr ⟨by simpa using hw, rfl⟩) fun u hu => ?_
      obtain ⟨_, _, rfl⟩ := hu
      exact next _ _ h

theorem anti_list {w : World} {ops : Array Oper} {l : List Oper} {Q : Exit → Act → World → Prop} : Anti (fun a'' S => ∀ w', Ext w w' → S w' → wpList P ops Q l a'' w') := fun _ _ _ hS hh w' hw hs => hh w' hw (hS w' hs)
/-- THE LAW: n operations of fixed values, m that make new memory, then a forced order. -/
theorem wp_region_free_tail {id : Nat} {Q : Exit → Act → World → Prop} {a : Act} {w : World} {l : List Oper} (n m : Nat) (hm : P.follows .mixedOrders = true) (hB : Region.lexTailB .any l.toArray (n + m) = true)
    (h : wpDet P l.toArray w (fun a' => wpFree P false l.toArray w (fun a'' S => ∀ w', Ext w w' → S w' → wpList P l.toArray Q (l.drop (n + m)) a'' w') ((l.drop n).take m) a' (fun _ => True)) (l.take n) a) : (Code.region id l.toArray true).wp P Q a w := by
  simp only [Region.lexTailB, Bool.and_eq_true, decide_eq_true_eq] at hB
  obtain ⟨⟨⟨⟨hsel, hn⟩, hs⟩, hc⟩, hlex⟩ := hB
  have hn' : n + m < l.length := by simpa using hn
  have hap : l.take n ++ (l.drop n).take m = l.take (n + m) := by rw [List.take_add]
  have htl : (l.take (n + m)).length = n + m := by simp; omega
  have hdl : (l.drop (n + m)).length = l.toArray.size - (n + m) := by simp
  have inv0 : HeadInv .any l.toArray (n + m) (Array.replicate l.toArray.size false) :=
    ⟨by simp, fun j oj _ hl => (by rw [getD_replicate_false] at hl; cases hl), fun t _ ht => getD_in (by simpa using ht) (getD_replicate_false _ _)⟩
  have hQ : Anti (fun a'' S => ∀ w', Ext w w' → S w' → wpList P l.toArray Q (l.drop (n + m)) a'' w') := anti_list
  have H := headFr_lex1 (md := .any) (g := l.toArray.size - (n + m)) (S := fun _ => True) (w0 := w) hQ hsel hs hc hn (post := (l.drop n).take m) (l.take n) 0 (Array.replicate l.toArray.size false) a (fun j hj => by
      rw [hap] at hj ⊢
      rw [htl] at hj
      simp [hj]) (by rw [hap]; simpa using htl) inv0 (by rw [hap, htl]; exact hlex)
    (fun k' done' a' S' hl' hk' inv' hB' hK => headFr_anti (fun d a S S' hS h => ⟨h.1, hQ _ _ _ hS h.2⟩) _ _ _ _ _ (fun _ _ => trivial) (headFr_more _ _ _ _ (headFr_lex2 hQ hsel hs hc hn ((l.drop n).take m) k' done' a' (fun _ => True) hl' hk' inv' hB' hK))) h
  rw [hap] at H
  refine wp_region_any hm ?_
  have fin := any_of_headFr (Q' := Q) (g := l.toArray.size - (n + m)) (fun d a' S' w' hw' _ hS' hL => by
    have := wpAny_of_seq (md := .any) (Q' := Q) (l.drop (n + m)) (n + m) d a' w' (fun j => by simp [List.getElem?_drop]) (by rw [hdl]; exact hL.1) (hL.2 w' hw' hS')
    rwa [hdl] at this) _ _ _ _ _ ((Below.refl _ w).drew) (fun _ _ _ _ => trivial) trivial H
  rw [htl, show (n + m) + (l.toArray.size - (n + m)) = l.toArray.size by omega] at fin
  exact fin
/-- a new variable -/
theorem free_alloc {rest : List Oper} {l : List Value} {ds : List Deferred} {S : World → Prop} {Q : Act → (World → Prop) → Prop} {d : Nat} {t : TypeId} {cs : Array Value} {ty : TypeId} {ps : String} {af : Array Edge} (hQ : Anti Q)
    (hr : ∀ w, (Instr.alloc t true (.tuple #[])).run P w = .ok (.pointer (some ⟨w.heap.size, 0, none⟩)) (w.alloc (.cells cs t)))
    (hn : ∀ b, w0.heap.size ≤ b → wpFree P false ops w0 Q rest ⟨(l.set d (.pointer (some ⟨b, 0, none⟩))).toArray, ds⟩ (fun w => S w ∧ Box w b cs)) :
    wpFree P false ops w0 Q (⟨some d, .alloc t, ty, ps, af, none⟩ :: rest) ⟨l.toArray, ds⟩ S := by
  refine free_value rfl (fun v w => ∃ b, v = .pointer (some ⟨b, 0, none⟩) ∧ w0.heap.size ≤ b ∧ Box w b cs) (fun v x y hx ⟨b, h1, h2, h3⟩ => ⟨b, h1, h2, h3.kept hx⟩) (fun w hw => ⟨_, _, ?_, (Below.refl _ w).alloc (Nat.le_refl _) _, ⟨w.heap.size, rfl, hw.size, Box.new w cs t⟩⟩) ?_
  · unfold execOp
    simp only [Sem.run_bind, hr w, Result.andThen_ok, Sem.run_pure]
  · rintro v ⟨_, _, b, rfl, hb, _⟩
    rw [put_list]
    refine wpFree_anti hQ _ _ _ _ (fun w h => ⟨h.1, ?_⟩) (hn b hb)
    obtain ⟨b', h1, _, h3⟩ := h.2
    obtain rfl : b = b' := by simpa using h1
    exact h3
end
end Go.Proofs.YtnjmplapjnnjdaaGreat
/- Regions that draw their order: fixed values first; then some operations that make new memory, in each of their orders; then a forced order. What is known so far may be used. No program's text is named here. -/
namespace Go.Proofs.YtnjmplapjnnjdaaGreat
open Go.RowKit

section
variable {P : Program} {ops : Array Oper} {md : Region.Mode} {w0 : World}

/-- R is a stable fact of what the operation yields, in every world that keeps w0 and of which S is known. -/
structure KnownAt (P : Program) (w0 : World) (S : World → Prop) (o : Oper) (a : Act) (R : Value → World → Prop) : Prop where
  stable : ∀ v, Stable (R v)
  run : ∀ w, Ext w0 w → S w → freeUpon P true w R ((execOp a.eval o).run P w)
def knOp (P : Program) (ops : Array Oper) (w0 : World) (i : Nat) (K : Act → (World → Prop) → Prop) (a : Act) (S : World → Prop) : Prop :=
  match ops[i]? with
  | none => K a S
  | some o => if Region.wanted o (yielded ops a.tmps) then ∃ R, KnownAt P w0 S o a R ∧ ∀ v, (∃ w, R v w) → K (a.put o.dst v) (fun w => S w ∧ R v w) else K (a.put o.dst undef) S
def headKn (P : Program) (md : Region.Mode) (ops : Array Oper) (w0 : World) (n : Nat) (L : Array Bool → Act → (World → Prop) → Prop) : Nat → Array Bool → Act → (World → Prop) → Prop
  | 0, done, a, S => L done a S
  | f + 1, done, a, S => Region.ready md ops done ≠ [] ∧ ∀ i ∈ Region.ready md ops done, i < n ∧ knOp P ops w0 i (headKn P md ops w0 n L f (done.setIfInBounds i true)) a S
theorem knOp_anti {i : Nat} {K : Act → (World → Prop) → Prop} (hK : Anti K) : Anti (knOp P ops w0 i K) := fun a S S' h hh => by
  unfold knOp at *
  split
  · rename_i hi; rw [hi] at hh; exact hK _ _ _ h hh
  · rename_i o hi
    rw [hi] at hh
    simp only at hh
    split
    · rename_i hw
      rw [if_pos hw] at hh
      obtain ⟨R, hR, hn⟩ := hh
      exact ⟨R, ⟨hR.stable, fun w hx hs => hR.run w hx (h w hs)⟩, fun v hv => hK _ _ _ (fun w hw => ⟨h w hw.1, hw.2⟩) (hn v hv)⟩
    · rename_i hw; rw [if_neg hw] at hh; exact hK _ _ _ h hh
theorem headKn_anti {n : Nat} {L : Array Bool → Act → (World → Prop) → Prop} (hL : ∀ d, Anti (L d)) : ∀ (f : Nat) (done : Array Bool), Anti (headKn P md ops w0 n L f done)
  | 0, d => hL d
  | f + 1, _ => fun a S S' h ⟨h1, h2⟩ => ⟨h1, fun i hi => ⟨(h2 i hi).1, knOp_anti (headKn_anti hL f _) _ _ _ h (h2 i hi).2⟩⟩
theorem wpOp_of_knOp {i : Nat} {a : Act} {S : World → Prop} {K : Act → (World → Prop) → Prop} {K' : Act → World → Prop} {Q' : Exit → Act → World → Prop} {w : World} (hw : Ext w0 w) (hS : S w) (hst : Stable S)
    (h : ∀ a S' w', Ext w0 w' → Stable S' → S' w' → K a S' → K' a w') (hh : knOp P ops w0 i K a S) : wpOp P ops Q' i K' a w := by
  unfold knOp at hh
  unfold wpOp
  split
  · rename_i hi; rw [hi] at hh; exact h _ _ _ hw hst hS hh
  · rename_i o hi
    rw [hi] at hh
    simp only at hh
    split
    · rename_i hwt
      rw [if_pos hwt] at hh
      obtain ⟨R, hR, hn⟩ := hh
      refine .inl ?_
      have h3 := hR.run w hw hS
      unfold Oper.wp
      generalize (execOp a.eval o).run P w = r at *
      have fin : ∀ v w', Ext w w' → R v w' → K' (a.put o.dst v) w' := fun v w' he hr =>
        h _ _ _ (ext_trans hw he) (fun x y hx hs => ⟨hst x y hx hs.1, hR.stable v x y hx hs.2⟩) ⟨hst _ _ he hS, hr⟩ (hn v ⟨w', hr⟩)
      cases r with
      | ok n w' =>
        cases n <;> simp only [freeUpon] at h3 <;> simp only [Oper.upon]
        case value u => exact fin _ _ h3.1 h3.2
        case skip => exact fin _ _ h3.1 h3.2
        case enter f args =>
          exact h3.2.2.mono fun e w'' ⟨⟨v, he, hr⟩, hx⟩ => by subst he; exact fin _ _ (ext_trans h3.2.1 hx) hr
      | halt x w' => simp only [freeUpon] at h3
    · rename_i hwt; rw [if_neg hwt] at hh; exact h _ _ _ hw hst hS hh
theorem any_of_headKn {n g : Nat} {L : Array Bool → Act → (World → Prop) → Prop} {Q' : Exit → Act → World → Prop} (hL : ∀ done a S w, Ext w0 w → Stable S → S w → L done a S → wpAny P md ops Q' g done a w) (f : Nat) :
    ∀ (done : Array Bool) (a : Act) (S : World → Prop) (w : World), Ext w0 w → Stable S → S w → headKn P md ops w0 n L f done a S → wpAny P md ops Q' (f + g) done a w := by
  induction f with
  | zero => intro done a S w hw hst hS h; rw [Nat.zero_add]; exact hL _ _ _ _ hw hst hS h
  | succ f ih =>
    intro done a S w hw hst hS h
    rw [show f + 1 + g = (f + g) + 1 by omega]
    refine ⟨fun h0 => absurd h0 h.1, fun i hi => ?_⟩
    exact wpOp_of_knOp hw hS hst (fun a' S' w' hw' hst' hS' h' => ih _ a' S' w' hw' hst' hS' h') (h.2 i hi).2

/-- The operation's value is v, in every world that keeps w0. -/
def Det (P : Program) (ops : Array Oper) (w0 : World) (o : Oper) (v : Value) (a : Act) : Prop :=
  (Region.wanted o (yielded ops a.tmps) = true ∧ ∀ w, Ext w0 w → detUpon P w v ((execOp a.eval o).run P w)) ∨ (Region.wanted o (yielded ops a.tmps) = false ∧ v = undef)
theorem Det.op {i : Nat} {o : Oper} {v : Value} {a : Act} {S : World → Prop} {K : Act → (World → Prop) → Prop} (hi : ops[i]? = some o) (hy : Det P ops w0 o v a) (hK : Anti K) (h : K (a.put o.dst v) S) : knOp P ops w0 i K a S := by
  unfold knOp
  rw [hi]
  simp only
  rcases hy with ⟨hw, hv⟩ | ⟨hw, rfl⟩
  · rw [if_pos hw]
    refine ⟨fun u _ => u = v, ⟨fun _ _ _ _ h => h, fun w hx _ => ?_⟩, fun u ⟨_, hu⟩ => by subst hu; exact hK _ _ _ (fun w hw => hw.1) h⟩
    have := hv w hx
    generalize (execOp a.eval o).run P w = r at this
    cases r with
    | ok n w' =>
      cases n <;> simp only [detUpon] at this <;> simp only [freeUpon]
      case value u => obtain ⟨rfl, rfl⟩ := this; exact ⟨Below.refl _ _, rfl⟩
      case skip => obtain ⟨rfl, rfl⟩ := this; exact ⟨Below.refl _ _, rfl⟩
      case enter f args =>
        obtain ⟨rfl, hc⟩ := this
        exact ⟨trivial, Below.refl _ _, hc.mono fun e w'' ⟨he, hx⟩ => ⟨⟨v, he, rfl⟩, hx⟩⟩
    | halt x w' => simp only [detUpon] at this
  · rw [if_neg (by simp [hw])]
    exact h
theorem Det.of_same {o : Oper} {v : Value} {a a' : Act} (hy : Det P ops w0 o v a) (he : execOp a'.eval o = execOp a.eval o) (hw : Region.wanted o (yielded ops a'.tmps) = Region.wanted o (yielded ops a.tmps)) : Det P ops w0 o v a' := by
  unfold Det at *
  rw [hw, he]
  exact hy

theorem headKn_first {n i : Nat} {oi : Oper} {v : Value} {L : Array Bool → Act → (World → Prop) → Prop} (hLa : ∀ d, Anti (L d)) (hi : ops[i]? = some oi) (hsel : ∀ (j : Nat) (o : Oper) cs b, ops[j]? = some o → o.op ≠ .select cs b)
    (hs : Region.sinkB md ops n = true) (hc : Region.chainB md ops n = true) (hn : n < ops.size) (hin : i < n) (hdone : ∀ done a S, L done a S → ∀ j ∈ Region.ready md ops done, n ≤ j) (f : Nat) :
    ∀ (done : Array Bool) (a : Act) (S : World → Prop), HeadInv md ops n done →
      (∀ j oj, ops[j]? = some oj → j ≠ i → done.getD j true = false → (∀ e ∈ oj.after, Region.binds md e = true → e.on ≠ i) → oi.apart ops oj = true) →
      i ∈ Region.ready md ops done → Det P ops w0 oi v a →
      headKn P md ops w0 n L f (done.setIfInBounds i true) (a.put oi.dst v) S → headKn P md ops w0 n L (f + 1) done a S := by
  induction f with
  | zero =>
    intro done a S inv _ hr hy H
    have hun := (mem_ready.1 hr).1
    refine ⟨List.ne_nil_of_mem hr, fun j hj => ?_⟩
    have hjn : j < n := Nat.lt_of_not_le fun h => tail_waits hs hc hn inv _ i rfl hin hun j h hj
    refine ⟨hjn, ?_⟩
    by_cases hji : j = i
    · subst hji; exact hy.op hi (headKn_anti hLa _ _) H
    · exact absurd (hdone _ _ _ H j (ready_mono hj hji)) (by omega)
  | succ f ih =>
    intro done a S inv hfree hr hy H
    have hun := (mem_ready.1 hr).1
    refine ⟨List.ne_nil_of_mem hr, fun j hj => ?_⟩
    have hjn : j < n := Nat.lt_of_not_le fun h => tail_waits hs hc hn inv _ i rfl hin hun j h hj
    refine ⟨hjn, ?_⟩
    by_cases hji : j = i
    · subst hji; exact hy.op hi (headKn_anti hLa _ _) H
    obtain ⟨hjun, oj, hoj, hall⟩ := mem_ready.1 hj
    have hnot : ∀ e ∈ oj.after, Region.binds md e = true → e.on ≠ i := fun e he hb heq => by
      have h1 := hall e he hb
      rw [heq, getD_both hun] at h1
      cases h1
    have hap := hfree j oj hoj hji hjun hnot
    obtain ⟨p1, p2, p3⟩ := Oper.apart_spec hap
    have hfree' : ∀ k ok, ops[k]? = some ok → k ≠ i → (done.setIfInBounds j true).getD k true = false → (∀ e ∈ ok.after, Region.binds md e = true → e.on ≠ i) → oi.apart ops ok = true := fun k ok hk hki hun hno => by
      refine hfree k ok hk hki ?_ hno
      by_cases hjk : j = k
      · subst hjk; exact hjun
      · rwa [getD_set_ne true hjk] at hun
    have keep : ∀ u, Det P ops w0 oi v (a.put oj.dst u) := fun u => hy.of_same (execOp_put oi (fun cs b => hsel i oi cs b hi) a oj.dst u p3) (wanted_put oi a oj.dst u p3)
    have h2 := (H.2 j (ready_mono hj hji)).2
    unfold knOp at h2 ⊢
    rw [hoj] at h2 ⊢
    simp only at h2 ⊢
    rw [wanted_put oj a oi.dst v p1] at h2
    have go : ∀ u S', headKn P md ops w0 n L f ((done.setIfInBounds i true).setIfInBounds j true) ((a.put oi.dst v).put oj.dst u) S' → headKn P md ops w0 n L (f + 1) (done.setIfInBounds j true) (a.put oj.dst u) S' := fun u S' h => by
      refine ih (done.setIfInBounds j true) (a.put oj.dst u) S' (inv.set hj hjn) hfree' (ready_mono hr (Ne.symm hji)) (keep u) ?_
      rw [Array.setIfInBounds_comm _ _ hji, ← Act.put_comm a v u p2]
      exact h
    split
    · rename_i hw
      rw [if_pos hw] at h2
      obtain ⟨R, hR, hnx⟩ := h2
      refine ⟨R, ⟨hR.stable, fun w hx hs => ?_⟩, fun u hu => go u _ (hnx u hu)⟩
      have := hR.run w hx hs
      rwa [execOp_put oj (fun cs b => hsel j oj cs b hoj) a oi.dst v p1] at this
    · rename_i hw
      rw [if_neg hw] at h2
      exact go _ _ h2

def marked : Nat → Nat → Array Bool → Array Bool
  | _, 0, d => d
  | k, m + 1, d => marked (k + 1) m (d.setIfInBounds k true)
theorem headKn_lex1 {n g : Nat} {Q : Act → (World → Prop) → Prop} (hQ : Anti Q) (hsel : Region.noSelect ops = true) (hs : Region.sinkB md ops n = true) (hc : Region.chainB md ops n = true) (hn : n < ops.size) {post : List Oper} (l : List Oper) :
    ∀ (k : Nat) (done : Array Bool) (a : Act) (S : World → Prop), (∀ j, j < (l ++ post).length → (l ++ post)[j]? = ops[k + j]?) → k + (l ++ post).length = n → HeadInv md ops n done → Region.lexHead md ops g (l ++ post).length k done = true →
    wpDet P ops w0 (fun a' => headKn P md ops w0 n (fun d a' S' => Region.seqB md ops g n d = true ∧ Q a' S') post.length (marked k l.length done) a' S) l a → headKn P md ops w0 n (fun d a' S' => Region.seqB md ops g n d = true ∧ Q a' S') (l ++ post).length done a S := by
  induction l with
  | nil => intro k done a S hl hk inv hB h; exact h
  | cons o l ih =>
    intro k done a S hl hk inv hB h
    have h0 : ops[k]? = some o := by simpa using (hl 0 (by simp)).symm
    simp only [List.cons_append, List.length_cons, Region.lexHead, Bool.and_eq_true] at hB
    simp only [List.cons_append, List.length_cons] at hk
    have hr : k ∈ Region.ready md ops done := by simpa using hB.1.1
    have hLa : ∀ d, Anti (fun a' S' => Region.seqB md ops g n d = true ∧ Q a' S') := fun d a S S' hS h => ⟨h.1, hQ _ _ _ hS h.2⟩
    have next : ∀ (a' : Act), wpDet P ops w0 (fun a' => headKn P md ops w0 n (fun d a' S' => Region.seqB md ops g n d = true ∧ Q a' S') post.length (marked (k + 1) l.length (done.setIfInBounds k true)) a' S) l a' → headKn P md ops w0 n (fun d a' S' => Region.seqB md ops g n d = true ∧ Q a' S') (l ++ post).length (done.setIfInBounds k true) a' S := fun a' h' =>
      ih (k + 1) _ a' S (fun j hj => by have := hl (j + 1) (by simp at hj ⊢; omega); simpa [Nat.add_assoc, Nat.add_comm 1 j] using this) (by omega) (inv.set hr (by omega)) hB.2 h'
    unfold wpDet at h
    by_cases hw : Region.wanted o (yielded ops a.tmps) = true
    · rw [if_pos hw] at h
      obtain ⟨v, hv, hnx⟩ := h
      exact headKn_first hLa h0 (Region.noSelect_spec hsel) hs hc hn (by omega) (fun d a' S' hL => seqB_ready hL.1) _ done a S inv (Region.free_spec h0 hB.1.2) hr (.inl ⟨hw, hv⟩) (next _ hnx)
    · rw [if_neg hw] at h
      exact headKn_first hLa h0 (Region.noSelect_spec hsel) hs hc hn (by omega) (fun d a' S' hL => seqB_ready hL.1) _ done a S inv (Region.free_spec h0 hB.1.2) hr (.inr ⟨by simpa using hw, rfl⟩) (next _ h)

/-- THE LAW: n operations of fixed values, then m in each of their orders, then a forced order. -/
theorem wp_region_known {id : Nat} {Q : Exit → Act → World → Prop} {a : Act} {w : World} {l : List Oper} (n m : Nat) (hm : P.follows .mixedOrders = true) (hB : Region.lexTailB .any l.toArray (n + m) = true)
    (h : wpDet P l.toArray w (fun a' => headKn P .any l.toArray w (n + m) (fun d a'' S => Region.seqB .any l.toArray (l.toArray.size - (n + m)) (n + m) d = true ∧ ∀ w', Ext w w' → S w' → wpList P l.toArray Q (l.drop (n + m)) a'' w') m (marked 0 n (Array.replicate l.toArray.size false)) a' (fun _ => True)) (l.take n) a) : (Code.region id l.toArray true).wp P Q a w := by
  simp only [Region.lexTailB, Bool.and_eq_true, decide_eq_true_eq] at hB
  obtain ⟨⟨⟨⟨hsel, hn⟩, hs⟩, hc⟩, hlex⟩ := hB
  have hn' : n + m < l.length := by simpa using hn
  have hap : l.take n ++ (l.drop n).take m = l.take (n + m) := by rw [List.take_add]
  have htl : (l.take (n + m)).length = n + m := by simp; omega
  have htn : (l.take n).length = n := by simp; omega
  have htm : ((l.drop n).take m).length = m := by simp; omega
  have hdl : (l.drop (n + m)).length = l.toArray.size - (n + m) := by simp
  have inv0 : HeadInv .any l.toArray (n + m) (Array.replicate l.toArray.size false) :=
    ⟨by simp, fun j oj _ hl => (by rw [getD_replicate_false] at hl; cases hl), fun t _ ht => getD_in (by simpa using ht) (getD_replicate_false _ _)⟩
  have hQ : Anti (fun a'' S => ∀ w', Ext w w' → S w' → wpList P l.toArray Q (l.drop (n + m)) a'' w') := anti_list
  have H := headKn_lex1 (md := .any) (g := l.toArray.size - (n + m)) (S := fun _ => True) (w0 := w) hQ hsel hs hc hn (post := (l.drop n).take m) (l.take n) 0 (Array.replicate l.toArray.size false) a (fun j hj => by
      rw [hap] at hj ⊢
      rw [htl] at hj
      simp [hj]) (by rw [hap]; simpa using htl) inv0 (by rw [hap, htl]; exact hlex) (by rw [htn, htm]; exact h)
  rw [hap] at H
  refine wp_region_any hm ?_
  have fin := any_of_headKn (Q' := Q) (g := l.toArray.size - (n + m)) (fun d a' S' w' hw' _ hS' hL => by
    have := wpAny_of_seq (md := .any) (Q' := Q) (l.drop (n + m)) (n + m) d a' w' (fun j => by simp [List.getElem?_drop]) (by rw [hdl]; exact hL.1) (hL.2 w' hw' hS')
    rwa [hdl] at this) _ _ _ _ _ ((Below.refl _ w).drew) (fun _ _ _ _ => trivial) trivial H
  rw [htl, show (n + m) + (l.toArray.size - (n + m)) = l.toArray.size by omega] at fin
  exact fin
/-- A new variable, of which more is known. -/
theorem kn_alloc {i d : Nat} {l : List Value} {ds : List Deferred} {S : World → Prop} {K : Act → (World → Prop) → Prop} {t : TypeId} {cs : Array Value} {ty : TypeId} {ps : String} {af : Array Edge} (T : Nat → Prop) (hi : ops[i]? = some ⟨some d, .alloc t, ty, ps, af, none⟩) (hK : Anti K)
    (hr : ∀ w, (Instr.alloc t true (.tuple #[])).run P w = .ok (.pointer (some ⟨w.heap.size, 0, none⟩)) (w.alloc (.cells cs t))) (hT : ∀ w, Ext w0 w → S w → T w.heap.size)
    (hn : ∀ b, w0.heap.size ≤ b → T b → K ⟨(l.set d (.pointer (some ⟨b, 0, none⟩))).toArray, ds⟩ (fun w => S w ∧ Box w b cs)) : knOp P ops w0 i K ⟨l.toArray, ds⟩ S := by
  unfold knOp
  rw [hi]
  simp only
  rw [if_pos (want_none rfl)]
  refine ⟨fun v w => ∃ b, v = .pointer (some ⟨b, 0, none⟩) ∧ w0.heap.size ≤ b ∧ T b ∧ Box w b cs, ⟨fun v x y hx ⟨b, h1, h2, h3, h4⟩ => ⟨b, h1, h2, h3, h4.kept hx⟩, fun w hw hs => ?_⟩, ?_⟩
  · have : (execOp (Act.mk l.toArray ds).eval ⟨some d, .alloc t, ty, ps, af, none⟩).run P w = .ok (.value (.pointer (some ⟨w.heap.size, 0, none⟩))) (w.alloc (.cells cs t)) := by
      unfold execOp
      simp only [Sem.run_bind, hr w, Result.andThen_ok, Sem.run_pure]
    rw [this]
    exact ⟨(Below.refl _ w).alloc (Nat.le_refl _) _, w.heap.size, rfl, hw.size, hT w hw hs, Box.new w cs t⟩
  · rintro v ⟨_, b, rfl, hb, hTb, _⟩
    rw [put_list]
    refine hK _ _ _ (fun w h => ⟨h.1, ?_⟩) (hn b hb hTb)
    obtain ⟨b', h1, _, _, h3⟩ := h.2
    obtain rfl : b = b' := by simpa using h1
    exact h3
theorem headKn_two {n : Nat} {L : Array Bool → Act → (World → Prop) → Prop} {done : Array Bool} {a : Act} {S : World → Prop} (i j : Nat) (e0 : Region.ready md ops done = [i, j]) (hi : i < n) (hj : j < n) (e1 : Region.ready md ops (done.setIfInBounds i true) = [j]) (e2 : Region.ready md ops (done.setIfInBounds j true) = [i])
    (h1 : knOp P ops w0 i (knOp P ops w0 j (L ((done.setIfInBounds i true).setIfInBounds j true))) a S) (h2 : knOp P ops w0 j (knOp P ops w0 i (L ((done.setIfInBounds j true).setIfInBounds i true))) a S) : headKn P md ops w0 n L 2 done a S := by
  have more : ∀ (K K' : Act → (World → Prop) → Prop) (k : Nat) (a : Act) (S : World → Prop), (∀ a S, K a S → K' a S) → knOp P ops w0 k K a S → knOp P ops w0 k K' a S := fun K K' k a S hh h => by
    unfold knOp at *
    split
    · rename_i hk; rw [hk] at h; exact hh _ _ h
    · rename_i o hk
      rw [hk] at h
      simp only at h
      split
      · rename_i hw
        rw [if_pos hw] at h
        obtain ⟨R, hR, hn⟩ := h
        exact ⟨R, hR, fun v hv => hh _ _ (hn v hv)⟩
      · rename_i hw; rw [if_neg hw] at h; exact hh _ _ h
  refine ⟨by rw [e0]; simp, fun k hk => ?_⟩
  rw [e0] at hk
  rcases List.mem_cons.1 hk with rfl | hk
  · refine ⟨hi, more _ _ _ _ _ (fun a S h => ?_) h1⟩
    refine ⟨by rw [e1]; simp, fun k hk => ?_⟩
    rw [e1] at hk
    obtain rfl : k = j := by simpa using hk
    exact ⟨hj, h⟩
  · obtain rfl : k = j := by simpa using hk
    refine ⟨hj, more _ _ _ _ _ (fun a S h => ?_) h2⟩
    refine ⟨by rw [e2]; simp, fun k' hk => ?_⟩
    rw [e2] at hk
    obtain rfl : k' = i := by simpa using hk
    exact ⟨hi, h⟩
/-- Two new variables, in both orders, ahead of a forced order. -/
theorem two_allocs {Q : Exit → Act → World → Prop} {rest : List Oper} {n g d1 d2 : Nat} {done : Array Bool} {l : List Value} {ds : List Deferred} {t1 t2 : TypeId} {cs1 cs2 : Array Value} {ty1 ty2 : TypeId} {ps1 ps2 : String} {af1 af2 : Array Edge} (i j : Nat) (e0 : Region.ready md ops done = [i, j]) (hi : i < n) (hj : j < n) (e1 : Region.ready md ops (done.setIfInBounds i true) = [j]) (e2 : Region.ready md ops (done.setIfInBounds j true) = [i])
    (hq1 : Region.seqB md ops g n ((done.setIfInBounds i true).setIfInBounds j true) = true) (hij : i ≠ j) (o1 : ops[i]? = some ⟨some d1, .alloc t1, ty1, ps1, af1, none⟩) (o2 : ops[j]? = some ⟨some d2, .alloc t2, ty2, ps2, af2, none⟩) (hd : d1 ≠ d2)
    (r1 : ∀ w, (Instr.alloc t1 true (.tuple #[])).run P w = .ok (.pointer (some ⟨w.heap.size, 0, none⟩)) (w.alloc (.cells cs1 t1))) (r2 : ∀ w, (Instr.alloc t2 true (.tuple #[])).run P w = .ok (.pointer (some ⟨w.heap.size, 0, none⟩)) (w.alloc (.cells cs2 t2)))
    (h : ∀ b1 b2 w1, w0.heap.size ≤ b1 → w0.heap.size ≤ b2 → b1 ≠ b2 → Ext w0 w1 → Box w1 b1 cs1 → Box w1 b2 cs2 → wpList P ops Q rest ⟨((l.set d1 (.pointer (some ⟨b1, 0, none⟩))).set d2 (.pointer (some ⟨b2, 0, none⟩))).toArray, ds⟩ w1) :
    headKn P md ops w0 n (fun d a'' S => Region.seqB md ops g n d = true ∧ ∀ w', Ext w0 w' → S w' → wpList P ops Q rest a'' w') 2 done ⟨l.toArray, ds⟩ (fun _ => True) := by
  have hA : ∀ d, Anti (fun a'' S => Region.seqB md ops g n d = true ∧ ∀ w', Ext w0 w' → S w' → wpList P ops Q rest a'' w') := fun d a S S' hS h => ⟨h.1, fun w' hx hs => h.2 w' hx (hS w' hs)⟩
  refine headKn_two i j e0 hi hj e1 e2 ?_ ?_
  · refine kn_alloc (cs := cs1) (fun _ => True) o1 (knOp_anti (hA _)) r1 (fun _ _ _ => trivial) fun b1 h1 _ => ?_
    refine kn_alloc (cs := cs2) (fun b => b1 < b) o2 (hA _) r2 (fun w1 _ hS => hS.2.lt) fun b2 h2 h12 => ⟨hq1, ?_⟩
    rintro w1 B1 ⟨⟨_, x1⟩, x2⟩
    exact h b1 b2 w1 h1 h2 (by omega) B1 x1 x2
  · refine kn_alloc (cs := cs2) (fun _ => True) o2 (knOp_anti (hA _)) r2 (fun _ _ _ => trivial) fun b2 h2 _ => ?_
    refine kn_alloc (cs := cs1) (fun b => b2 < b) o1 (hA _) r1 (fun w1 _ hS => hS.2.lt) fun b1 h1 h12 => ⟨by rw [Array.setIfInBounds_comm _ _ (Ne.symm hij)]; exact hq1, ?_⟩
    rintro w1 B1 ⟨⟨_, x2⟩, x1⟩
    rw [List.set_comm _ _ (Ne.symm hd)]
    exact h b1 b2 w1 h1 h2 (by omega) B1 x1 x2
end
end Go.Proofs.YtnjmplapjnnjdaaGreat
