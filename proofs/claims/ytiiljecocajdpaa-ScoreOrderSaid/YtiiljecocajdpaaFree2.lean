/- Regions that draw their order: fixed values and new memory in any order, and a few operations in one forced order behind them. No program's text is named here. -/
import Derived.Test.YtiiljecocajdpaaFree
namespace Go.Proofs.Ytiiljecocajdpaa
open Go.RowKit

section
variable {P : Program} {c : Bool} {ops : Array Oper} {md : Region.Mode} {w0 : World}

/-- The head's operations in whatever order. -/
def headFr (P : Program) (c : Bool) (md : Region.Mode) (ops : Array Oper) (w0 : World) (n : Nat) (L : Array Bool → Act → (World → Prop) → Prop) : Nat → Array Bool → Act → (World → Prop) → Prop
  | 0, done, a, S => L done a S
  | f + 1, done, a, S => Region.ready md ops done ≠ [] ∧ ∀ i ∈ Region.ready md ops done, i < n ∧ frOp P c ops w0 i (headFr P c md ops w0 n L f (done.setIfInBounds i true)) a S
theorem headFr_anti {n : Nat} {L : Array Bool → Act → (World → Prop) → Prop} (hL : ∀ d, Anti (L d)) : ∀ (f : Nat) (done : Array Bool), Anti (headFr P c md ops w0 n L f done)
  | 0, d => hL d
  | f + 1, _ => fun a S S' h ⟨h1, h2⟩ => ⟨h1, fun i hi => ⟨(h2 i hi).1, frOp_anti (headFr_anti hL f _) _ _ _ h (h2 i hi).2⟩⟩
theorem any_of_headFr {n g : Nat} {L : Array Bool → Act → (World → Prop) → Prop} {Q' : Exit → Act → World → Prop} (hL : ∀ done a S w, Ext w0 w → Stable S → S w → L done a S → wpAny P md ops Q' g done a w) (f : Nat) :
    ∀ (done : Array Bool) (a : Act) (S : World → Prop) (w : World), Ext w0 w → Stable S → S w → headFr P c md ops w0 n L f done a S → wpAny P md ops Q' (f + g) done a w := by
  induction f with
  | zero => intro done a S w hw hst hS h; rw [Nat.zero_add]; exact hL _ _ _ _ hw hst hS h
  | succ f ih =>
    intro done a S w hw hst hS h
    rw [show f + 1 + g = (f + g) + 1 by omega]
    refine ⟨fun h0 => absurd h0 h.1, fun i hi => ?_⟩
    exact wpOp_of_frOp hw hS hst (fun a' S' w' hw' hst' hS' h' => ih _ a' S' w' hw' hst' hS' h') (h.2 i hi).2

theorem headFr_first {n i : Nat} {oi : Oper} {R : Value → World → Prop} {L : Array Bool → Act → (World → Prop) → Prop} (hLa : ∀ d, Anti (L d)) (hi : ops[i]? = some oi) (hsel : ∀ (j : Nat) (o : Oper) cs b, ops[j]? = some o → o.op ≠ .select cs b)
    (hs : Region.sinkB md ops n = true) (hc : Region.chainB md ops n = true) (hn : n < ops.size) (hin : i < n) (hdone : ∀ done a S, L done a S → ∀ j ∈ Region.ready md ops done, n ≤ j)
    (hone : c = false ∨ ∃ v, ∀ u w, R u w → u = v) (f : Nat) :
    ∀ (done : Array Bool) (a : Act) (S : World → Prop), HeadInv md ops n done →
      (∀ j oj, ops[j]? = some oj → j ≠ i → done.getD j true = false → (∀ e ∈ oj.after, Region.binds md e = true → e.on ≠ i) → oi.apart ops oj = true) →
      i ∈ Region.ready md ops done → GivesR P c ops w0 oi R a →
      (∀ v, (∃ w, Ext w0 w ∧ R v w) → headFr P c md ops w0 n L f (done.setIfInBounds i true) (a.put oi.dst v) (fun w => S w ∧ R v w)) → headFr P c md ops w0 n L (f + 1) done a S := by
  induction f with
  | zero =>
    intro done a S inv _ hr hy H
    have hun := (mem_ready.1 hr).1
    refine ⟨List.ne_nil_of_mem hr, fun j hj => ?_⟩
    have hjn : j < n := Nat.lt_of_not_le fun h => tail_waits hs hc hn inv _ i rfl hin hun j h hj
    refine ⟨hjn, ?_⟩
    by_cases hji : j = i
    · subst hji; exact hy.op hi (headFr_anti hLa _ _) H
    · obtain ⟨v, w, h1, h2⟩ := hy.some
      exact absurd (hdone _ _ _ (H v ⟨w, h1, h2⟩) j (ready_mono hj hji)) (by omega)
  | succ f ih =>
    intro done a S inv hfree hr hy H
    have hun := (mem_ready.1 hr).1
    refine ⟨List.ne_nil_of_mem hr, fun j hj => ?_⟩
    have hjn : j < n := Nat.lt_of_not_le fun h => tail_waits hs hc hn inv _ i rfl hin hun j h hj
    refine ⟨hjn, ?_⟩
    by_cases hji : j = i
    · subst hji; exact hy.op hi (headFr_anti hLa _ _) H
    obtain ⟨hjun, oj, hoj, hall⟩ := mem_ready.1 hj
    have hnot : ∀ e ∈ oj.after, Region.binds md e = true → e.on ≠ i := fun e he hb heq => by
      have h1 := hall e he hb
      rw [heq, getD_both hun] at h1
      cases h1
    have hap := hfree j oj hoj hji hjun hnot
    obtain ⟨p1, p2, p3⟩ := Oper.apart_spec hap
    have hfree' : ∀ k ok, ops[k]? = some ok → k ≠ i → (done.setIfInBounds j true).getD k true = false → (∀ e ∈ ok.after, Region.binds md e = true → e.on ≠ i) → oi.apart ops ok = true := fun k ok hk hki hun hno => by
      refine hfree k ok hk hki ?_ hno
      by_cases hjk : j = k
      · subst hjk; exact hjun
      · rwa [getD_set_ne true hjk] at hun
    have keep : ∀ u, GivesR P c ops w0 oi R (a.put oj.dst u) := fun u => hy.of_same (execOp_put oi (fun cs b => hsel i oi cs b hi) a oj.dst u p3) (wanted_put oi a oj.dst u p3)
    have same : ∀ v, execOp (a.put oi.dst v).eval oj = execOp a.eval oj := fun v => execOp_put oj (fun cs b => hsel j oj cs b hoj) a oi.dst v p1
    have samew : ∀ v, Region.wanted oj (yielded ops (a.put oi.dst v).tmps) = Region.wanted oj (yielded ops a.tmps) := fun v => wanted_put oj a oi.dst v p1
    have step : ∀ v (hv : ∃ w, Ext w0 w ∧ R v w), ∃ Rj, GivesR P c ops w0 oj Rj (a.put oi.dst v) ∧ ∀ u, (∃ w, Ext w0 w ∧ Rj u w) → headFr P c md ops w0 n L f ((done.setIfInBounds i true).setIfInBounds j true) ((a.put oi.dst v).put oj.dst u) (fun w => (S w ∧ R v w) ∧ Rj u w) := fun v hv =>
      givesR_of_frOp hoj (headFr_anti hLa _ _) ((H v hv).2 j (ready_mono hj hji)).2
    have main : ∃ RJ, GivesR P c ops w0 oj RJ a ∧ ∀ v (hv : ∃ w, Ext w0 w ∧ R v w) u, (∃ w, Ext w0 w ∧ RJ u w) → headFr P c md ops w0 n L f ((done.setIfInBounds i true).setIfInBounds j true) ((a.put oi.dst v).put oj.dst u) (fun w => (S w ∧ R v w) ∧ RJ u w) := by
      rcases hone with hc | ⟨v0, hv0⟩
      · subst hc
        exact joinR hy.some same samew (fun v u S' => headFr P false md ops w0 n L f ((done.setIfInBounds i true).setIfInBounds j true) ((a.put oi.dst v).put oj.dst u) S') (fun v u => fun S1 S2 h => headFr_anti hLa _ _ _ _ _ h) S step
      · obtain ⟨v, w, h1, h2⟩ := hy.some
        obtain ⟨Rj, hg, hn⟩ := step v ⟨w, h1, h2⟩
        refine ⟨Rj, hg.of_same (same v).symm (samew v).symm, fun v' hv' => ?_⟩
        obtain ⟨w', _, h2'⟩ := hv'
        obtain rfl : v' = v := (hv0 _ _ h2').trans (hv0 _ _ h2).symm
        exact hn
    obtain ⟨RJ, hg, hn⟩ := main
    refine hg.op hoj (headFr_anti hLa _ _) fun u hu => ?_
    refine ih (done.setIfInBounds j true) (a.put oj.dst u) _ (inv.set hj hjn) hfree' (ready_mono hr (Ne.symm hji)) (keep u) fun v hv => ?_
    have := hn v hv u hu
    rw [Array.setIfInBounds_comm _ _ hji, ← Act.put_comm a v u p2]
    exact headFr_anti hLa _ _ _ _ _ (fun w hw => ⟨⟨hw.1.1, hw.2⟩, hw.1.2⟩) this

theorem headFr_more {n : Nat} {L : Array Bool → Act → (World → Prop) → Prop} : ∀ (f : Nat) (done : Array Bool) (a : Act) (S : World → Prop), headFr P false md ops w0 n L f done a S → headFr P true md ops w0 n L f done a S
  | 0, _, _, _, h => h
  | f + 1, _, a, S, h => ⟨h.1, fun i hi => ⟨(h.2 i hi).1, by
    have h2 := (h.2 i hi).2
    unfold frOp at h2 ⊢
    split
    · rename_i ho; rw [ho] at h2; exact headFr_more f _ _ _ h2
    · rename_i o ho
      rw [ho] at h2
      simp only at h2
      split
      · rename_i hw
        rw [if_pos hw] at h2
        obtain ⟨R, hR, hn⟩ := h2
        refine ⟨R, ⟨hR.stable, fun w hx => ?_⟩, fun v hv => headFr_more f _ _ _ (hn v hv)⟩
        have := hR.run w hx
        generalize (execOp a.eval o).run P w = r at this
        cases r with
        | ok n w' =>
          cases n <;> simp only [freeUpon] at this ⊢
          case value u => exact this
          case skip => exact this
          case enter => exact absurd this.1 (by simp)
        | halt x w' => exact this
      · rename_i hw
        rw [if_neg hw] at h2
        exact headFr_more f _ _ _ h2⟩⟩

theorem headFr_lex2 {n g : Nat} {Q : Act → (World → Prop) → Prop} (hQ : Anti Q) (hsel : Region.noSelect ops = true) (hs : Region.sinkB md ops n = true) (hc : Region.chainB md ops n = true) (hn : n < ops.size) (l : List Oper) :
    ∀ (k : Nat) (done : Array Bool) (a : Act) (S : World → Prop), (∀ j, j < l.length → l[j]? = ops[k + j]?) → k + l.length = n → HeadInv md ops n done → Region.lexHead md ops g l.length k done = true →
    wpFree P false ops w0 Q l a S → headFr P false md ops w0 n (fun d a' S' => Region.seqB md ops g n d = true ∧ Q a' S') l.length done a S := by
  induction l with
  | nil =>
    intro k done a S _ hk _ hB h
    obtain rfl : k = n := by simpa using hk
    exact ⟨by simpa [Region.lexHead] using hB, h⟩
  | cons o l ih =>
    intro k done a S hl hk inv hB h
    have h0 : ops[k]? = some o := by simpa using (hl 0 (by simp)).symm
    simp only [List.length_cons, Region.lexHead, Bool.and_eq_true] at hB
    simp only [List.length_cons] at hk
    have hh : frOp P false ops w0 k (wpFree P false ops w0 Q l) a S := by unfold frOp; rw [h0]; exact h
    obtain ⟨R, hy, hnx⟩ := givesR_of_frOp h0 (wpFree_anti hQ l) hh
    have hr : k ∈ Region.ready md ops done := by simpa using hB.1.1
    refine headFr_first (fun d a S S' hS h => ⟨h.1, hQ _ _ _ hS h.2⟩) h0 (Region.noSelect_spec hsel) hs hc hn (by omega) (fun d a' S' hL => seqB_ready hL.1) (.inl rfl) l.length done a S inv (Region.free_spec h0 hB.1.2) hr hy fun v hv => ?_
    refine ih (k + 1) _ _ _ (fun j hj => ?_) (by omega) (inv.set hr (by omega)) hB.2 (hnx v hv)
    have := hl (j + 1) (by simp; omega)
    simpa [Nat.add_assoc, Nat.add_comm 1 j] using this
theorem headFr_lex1 {n g : Nat} {Q : Act → (World → Prop) → Prop} (hQ : Anti Q) (hsel : Region.noSelect ops = true) (hs : Region.sinkB md ops n = true) (hc : Region.chainB md ops n = true) (hn : n < ops.size) {post : List Oper} {K : Act → Prop} (l : List Oper) :
    ∀ (k : Nat) (done : Array Bool) (a : Act) (S : World → Prop), (∀ j, j < (l ++ post).length → (l ++ post)[j]? = ops[k + j]?) → k + (l ++ post).length = n → HeadInv md ops n done → Region.lexHead md ops g (l ++ post).length k done = true →
    (∀ k' done' a' S', (∀ j, j < post.length → post[j]? = ops[k' + j]?) → k' + post.length = n → HeadInv md ops n done' → Region.lexHead md ops g post.length k' done' = true → K a' → headFr P true md ops w0 n (fun d a' S' => Region.seqB md ops g n d = true ∧ Q a' S') post.length done' a' S') →
    wpDet P ops w0 K l a → headFr P true md ops w0 n (fun d a' S' => Region.seqB md ops g n d = true ∧ Q a' S') (l ++ post).length done a S := by
  induction l with
  | nil => intro k done a S hl hk inv hB hp h; exact hp k done a S (by simpa using hl) (by simpa using hk) inv (by simpa using hB) h
  | cons o l ih =>
    intro k done a S hl hk inv hB hp h
    have h0 : ops[k]? = some o := by simpa using (hl 0 (by simp)).symm
    simp only [List.cons_append, List.length_cons, Region.lexHead, Bool.and_eq_true] at hB
    simp only [List.cons_append, List.length_cons] at hk
    have hr : k ∈ Region.ready md ops done := by simpa using hB.1.1
    have next : ∀ (a' : Act) (S' : World → Prop), wpDet P ops w0 K l a' → headFr P true md ops w0 n (fun d a' S' => Region.seqB md ops g n d = true ∧ Q a' S') (l ++ post).length (done.setIfInBounds k true) a' S' := fun a' S' h' =>
      ih (k + 1) _ a' S' (fun j hj => by have := hl (j + 1) (by simp at hj ⊢; omega); simpa [Nat.add_assoc, Nat.add_comm 1 j] using this) (by omega) (inv.set hr (by omega)) hB.2 hp h'
    unfold wpDet at h
    by_cases hw : Region.wanted o (yielded ops a.tmps) = true
    · rw [if_pos hw] at h
      obtain ⟨v, hv, hnx⟩ := h
      refine headFr_first (fun d a S S' hS h => ⟨h.1, hQ _ _ _ hS h.2⟩) h0 (Region.noSelect_spec hsel) hs hc hn (by omega) (fun d a' S' hL => seqB_ready hL.1) (R := fun u _ => u = v) (.inr ⟨v, fun u w h => h⟩) _ done a S inv (Region.free_spec h0 hB.1.2) hr (.inl ⟨hw, fun _ _ _ _ h => h, fun w hx => ?_⟩) fun u hu => ?_
      · have := hv w hx
        generalize (execOp a.eval o).run P w = r at this
        cases r with
        | ok n w' =>
          cases n <;> simp only [detUpon] at this <;> simp only [freeUpon]
          case value u => obtain ⟨rfl, rfl⟩ := this; exact ⟨Below.refl _ _, rfl⟩
          case skip => obtain ⟨rfl, rfl⟩ := this; exact ⟨Below.refl _ _, rfl⟩
          case enter f args =>
            obtain ⟨rfl, hc⟩ := this
            exact ⟨trivial, Below.refl _ _, hc.mono fun e w'' ⟨he, hx⟩ => ⟨⟨v, he, rfl⟩, hx⟩⟩
        | halt x w' => simp only [detUpon] at this
      · obtain ⟨_, _, rfl⟩ := hu
        exact next _ _ hnx
    · rw [if_neg hw] at h
      refine headFr_first (fun d a S S' hS h => ⟨h.1, hQ _ _ _ hS h.2⟩) h0 (Region.noSelect_spec hsel) hs hc hn (by omega) (fun d a' S' hL => seqB_ready hL.1) (R := fun u _ => u = undef) (.inr ⟨undef, fun u w h => h⟩) _ done a S inv (Region.free_spec h0 hB.1.2) hr (.inr ⟨by simpa using hw, rfl⟩) fun u hu => ?_
      obtain ⟨_, _, rfl⟩ := hu
      exact next _ _ h

theorem anti_list {w : World} {ops : Array Oper} {l : List Oper} {Q : Exit → Act → World → Prop} : Anti (fun a'' S => ∀ w', Ext w w' → S w' → wpList P ops Q l a'' w') := fun _ _ _ hS hh w' hw hs => hh w' hw (hS w' hs)
/-- THE LAW: n operations of fixed values, m that make new memory, then a forced order. -/
theorem wp_region_free_tail {id : Nat} {Q : Exit → Act → World → Prop} {a : Act} {w : World} {l : List Oper} (n m : Nat) (hm : P.follows .mixedOrders = true) (hB : Region.lexTailB .any l.toArray (n + m) = true)
    (h : wpDet P l.toArray w (fun a' => wpFree P false l.toArray w (fun a'' S => ∀ w', Ext w w' → S w' → wpList P l.toArray Q (l.drop (n + m)) a'' w') ((l.drop n).take m) a' (fun _ => True)) (l.take n) a) : (Code.region id l.toArray true).wp P Q a w := by
  simp only [Region.lexTailB, Bool.and_eq_true, decide_eq_true_eq] at hB
  obtain ⟨⟨⟨⟨hsel, hn⟩, hs⟩, hc⟩, hlex⟩ := hB
  have hn' : n + m < l.length := by simpa using hn
  have hap : l.take n ++ (l.drop n).take m = l.take (n + m) := by rw [List.take_add]
  have htl : (l.take (n + m)).length = n + m := by simp; omega
  have hdl : (l.drop (n + m)).length = l.toArray.size - (n + m) := by simp
  have inv0 : HeadInv .any l.toArray (n + m) (Array.replicate l.toArray.size false) :=
    ⟨by simp, fun j oj _ hl => (by rw [getD_replicate_false] at hl; cases hl), fun t _ ht => getD_in (by simpa using ht) (getD_replicate_false _ _)⟩
  have hQ : Anti (fun a'' S => ∀ w', Ext w w' → S w' → wpList P l.toArray Q (l.drop (n + m)) a'' w') := anti_list
  have H := headFr_lex1 (md := .any) (g := l.toArray.size - (n + m)) (S := fun _ => True) (w0 := w) hQ hsel hs hc hn (post := (l.drop n).take m) (l.take n) 0 (Array.replicate l.toArray.size false) a (fun j hj => by
      rw [hap] at hj ⊢
      rw [htl] at hj
      simp [hj]) (by rw [hap]; simpa using htl) inv0 (by rw [hap, htl]; exact hlex)
    (fun k' done' a' S' hl' hk' inv' hB' hK => headFr_anti (fun d a S S' hS h => ⟨h.1, hQ _ _ _ hS h.2⟩) _ _ _ _ _ (fun _ _ => trivial) (headFr_more _ _ _ _ (headFr_lex2 hQ hsel hs hc hn ((l.drop n).take m) k' done' a' (fun _ => True) hl' hk' inv' hB' hK))) h
  rw [hap] at H
  refine wp_region_any hm ?_
  have fin := any_of_headFr (Q' := Q) (g := l.toArray.size - (n + m)) (fun d a' S' w' hw' _ hS' hL => by
    have := wpAny_of_seq (md := .any) (Q' := Q) (l.drop (n + m)) (n + m) d a' w' (fun j => by simp [List.getElem?_drop]) (by rw [hdl]; exact hL.1) (hL.2 w' hw' hS')
    rwa [hdl] at this) _ _ _ _ _ ((Below.refl _ w).drew) (fun _ _ _ _ => trivial) trivial H
  rw [htl, show (n + m) + (l.toArray.size - (n + m)) = l.toArray.size by omega] at fin
  exact fin
/-- a new variable -/
theorem free_alloc {rest : List Oper} {l : List Value} {ds : List Deferred} {S : World → Prop} {Q : Act → (World → Prop) → Prop} {d : Nat} {t : TypeId} {cs : Array Value} {ty : TypeId} {ps : String} {af : Array Edge} (hQ : Anti Q)
    (hr : ∀ w, (Instr.alloc t true (.tuple #[])).run P w = .ok (.pointer (some ⟨w.heap.size, 0, none⟩)) (w.alloc (.cells cs t)))
    (hn : ∀ b, w0.heap.size ≤ b → wpFree P false ops w0 Q rest ⟨(l.set d (.pointer (some ⟨b, 0, none⟩))).toArray, ds⟩ (fun w => S w ∧ Box w b cs)) :
    wpFree P false ops w0 Q (⟨some d, .alloc t, ty, ps, af, none⟩ :: rest) ⟨l.toArray, ds⟩ S := by
  refine free_value rfl (fun v w => ∃ b, v = .pointer (some ⟨b, 0, none⟩) ∧ w0.heap.size ≤ b ∧ Box w b cs) (fun v x y hx ⟨b, h1, h2, h3⟩ => ⟨b, h1, h2, h3.kept hx⟩) (fun w hw => ⟨_, _, ?_, (Below.refl _ w).alloc (Nat.le_refl _) _, ⟨w.heap.size, rfl, hw.size, Box.new w cs t⟩⟩) ?_
  · unfold execOp
    simp only [Sem.run_bind, hr w, Result.andThen_ok, Sem.run_pure]
  · rintro v ⟨_, _, b, rfl, hb, _⟩
    rw [put_list]
    refine wpFree_anti hQ _ _ _ _ (fun w h => ⟨h.1, ?_⟩) (hn b hb)
    obtain ⟨b', h1, _, h3⟩ := h.2
    obtain rfl : b = b' := by simpa using h1
    exact h3
end
end Go.Proofs.Ytiiljecocajdpaa
