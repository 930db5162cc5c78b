/- Regions that draw their order: fixed values first; then some operations that make new memory, in each of their orders; then a forced order. What is known so far may be used. No program's text is named here. -/
import Derived.Test.YtiiljecocajdpaaFree2
namespace Go.Proofs.Ytiiljecocajdpaa
open Go.RowKit

section
variable {P : Program} {ops : Array Oper} {md : Region.Mode} {w0 : World}

/-- R is a stable fact of what the operation yields, in every world that keeps w0 and of which S is known. -/
structure KnownAt (P : Program) (w0 : World) (S : World → Prop) (o : Oper) (a : Act) (R : Value → World → Prop) : Prop where
  stable : ∀ v, Stable (R v)
  run : ∀ w, Ext w0 w → S w → freeUpon P true w R ((execOp a.eval o).run P w)
def knOp (P : Program) (ops : Array Oper) (w0 : World) (i : Nat) (K : Act → (World → Prop) → Prop) (a : Act) (S : World → Prop) : Prop :=
  match ops[i]? with
  | none => K a S
  | some o => if Region.wanted o (yielded ops a.tmps) then ∃ R, KnownAt P w0 S o a R ∧ ∀ v, (∃ w, R v w) → K (a.put o.dst v) (fun w => S w ∧ R v w) else K (a.put o.dst undef) S
def headKn (P : Program) (md : Region.Mode) (ops : Array Oper) (w0 : World) (n : Nat) (L : Array Bool → Act → (World → Prop) → Prop) : Nat → Array Bool → Act → (World → Prop) → Prop
  | 0, done, a, S => L done a S
  | f + 1, done, a, S => Region.ready md ops done ≠ [] ∧ ∀ i ∈ Region.ready md ops done, i < n ∧ knOp P ops w0 i (headKn P md ops w0 n L f (done.setIfInBounds i true)) a S
theorem knOp_anti {i : Nat} {K : Act → (World → Prop) → Prop} (hK : Anti K) : Anti (knOp P ops w0 i K) := fun a S S' h hh => by
  unfold knOp at *
  split
  · rename_i hi; rw [hi] at hh; exact hK _ _ _ h hh
  · rename_i o hi
    rw [hi] at hh
    simp only at hh
    split
    · rename_i hw
      rw [if_pos hw] at hh
      obtain ⟨R, hR, hn⟩ := hh
      exact ⟨R, ⟨hR.stable, fun w hx hs => hR.run w hx (h w hs)⟩, fun v hv => hK _ _ _ (fun w hw => ⟨h w hw.1, hw.2⟩) (hn v hv)⟩
    · rename_i hw; rw [if_neg hw] at hh; exact hK _ _ _ h hh
theorem headKn_anti {n : Nat} {L : Array Bool → Act → (World → Prop) → Prop} (hL : ∀ d, Anti (L d)) : ∀ (f : Nat) (done : Array Bool), Anti (headKn P md ops w0 n L f done)
  | 0, d => hL d
  | f + 1, _ => fun a S S' h ⟨h1, h2⟩ => ⟨h1, fun i hi => ⟨(h2 i hi).1, knOp_anti (headKn_anti hL f _) _ _ _ h (h2 i hi).2⟩⟩
theorem wpOp_of_knOp {i : Nat} {a : Act} {S : World → Prop} {K : Act → (World → Prop) → Prop} {K' : Act → World → Prop} {Q' : Exit → Act → World → Prop} {w : World} (hw : Ext w0 w) (hS : S w) (hst : Stable S)
    (h : ∀ a S' w', Ext w0 w' → Stable S' → S' w' → K a S' → K' a w') (hh : knOp P ops w0 i K a S) : wpOp P ops Q' i K' a w := by
  unfold knOp at hh
  unfold wpOp
  split
  · rename_i hi; rw [hi] at hh; exact h _ _ _ hw hst hS hh
  · rename_i o hi
    rw [hi] at hh
    simp only at hh
    split
    · rename_i hwt
      rw [if_pos hwt] at hh
      obtain ⟨R, hR, hn⟩ := hh
      refine .inl ?_
      have h3 := hR.run w hw hS
      unfold Oper.wp
      generalize (execOp a.eval o).run P w = r at *
      have fin : ∀ v w', Ext w w' → R v w' → K' (a.put o.dst v) w' := fun v w' he hr =>
        h _ _ _ (ext_trans hw he) (fun x y hx hs => ⟨hst x y hx hs.1, hR.stable v x y hx hs.2⟩) ⟨hst _ _ he hS, hr⟩ (hn v ⟨w', hr⟩)
      cases r with
      | ok n w' =>
        cases n <;> simp only [freeUpon] at h3 <;> simp only [Oper.upon]
        case value u => exact fin _ _ h3.1 h3.2
        case skip => exact fin _ _ h3.1 h3.2
        case enter f args =>
          exact h3.2.2.mono fun e w'' ⟨⟨v, he, hr⟩, hx⟩ => by subst he; exact fin _ _ (ext_trans h3.2.1 hx) hr
      | halt x w' => simp only [freeUpon] at h3
    · rename_i hwt; rw [if_neg hwt] at hh; exact h _ _ _ hw hst hS hh
theorem any_of_headKn {n g : Nat} {L : Array Bool → Act → (World → Prop) → Prop} {Q' : Exit → Act → World → Prop} (hL : ∀ done a S w, Ext w0 w → Stable S → S w → L done a S → wpAny P md ops Q' g done a w) (f : Nat) :
    ∀ (done : Array Bool) (a : Act) (S : World → Prop) (w : World), Ext w0 w → Stable S → S w → headKn P md ops w0 n L f done a S → wpAny P md ops Q' (f + g) done a w := by
  induction f with
  | zero => intro done a S w hw hst hS h; rw [Nat.zero_add]; exact hL _ _ _ _ hw hst hS h
  | succ f ih =>
    intro done a S w hw hst hS h
    rw [show f + 1 + g = (f + g) + 1 by omega]
    refine ⟨fun h0 => absurd h0 h.1, fun i hi => ?_⟩
    exact wpOp_of_knOp hw hS hst (fun a' S' w' hw' hst' hS' h' => ih _ a' S' w' hw' hst' hS' h') (h.2 i hi).2

/-- The operation's value is v, in every world that keeps w0. -/
def Det (P : Program) (ops : Array Oper) (w0 : World) (o : Oper) (v : Value) (a : Act) : Prop :=
  (Region.wanted o (yielded ops a.tmps) = true ∧ ∀ w, Ext w0 w → detUpon P w v ((execOp a.eval o).run P w)) ∨ (Region.wanted o (yielded ops a.tmps) = false ∧ v = undef)
theorem Det.op {i : Nat} {o : Oper} {v : Value} {a : Act} {S : World → Prop} {K : Act → (World → Prop) → Prop} (hi : ops[i]? = some o) (hy : Det P ops w0 o v a) (hK : Anti K) (h : K (a.put o.dst v) S) : knOp P ops w0 i K a S := by
  unfold knOp
  rw [hi]
  simp only
  rcases hy with ⟨hw, hv⟩ | ⟨hw, rfl⟩
  · rw [if_pos hw]
    refine ⟨fun u _ => u = v, ⟨fun _ _ _ _ h => h, fun w hx _ => ?_⟩, fun u ⟨_, hu⟩ => by subst hu; exact hK _ _ _ (fun w hw => hw.1) h⟩
    have := hv w hx
    generalize (execOp a.eval o).run P w = r at this
    cases r with
    | ok n w' =>
      cases n <;> simp only [detUpon] at this <;> simp only [freeUpon]
      case value u => obtain ⟨rfl, rfl⟩ := this; exact ⟨Below.refl _ _, rfl⟩
      case skip => obtain ⟨rfl, rfl⟩ := this; exact ⟨Below.refl _ _, rfl⟩
      case enter f args =>
        obtain ⟨rfl, hc⟩ := this
        exact ⟨trivial, Below.refl _ _, hc.mono fun e w'' ⟨he, hx⟩ => ⟨⟨v, he, rfl⟩, hx⟩⟩
    | halt x w' => simp only [detUpon] at this
  · rw [if_neg (by simp [hw])]
    exact h
theorem Det.of_same {o : Oper} {v : Value} {a a' : Act} (hy : Det P ops w0 o v a) (he : execOp a'.eval o = execOp a.eval o) (hw : Region.wanted o (yielded ops a'.tmps) = Region.wanted o (yielded ops a.tmps)) : Det P ops w0 o v a' := by
  unfold Det at *
  rw [hw, he]
  exact hy

theorem headKn_first {n i : Nat} {oi : Oper} {v : Value} {L : Array Bool → Act → (World → Prop) → Prop} (hLa : ∀ d, Anti (L d)) (hi : ops[i]? = some oi) (hsel : ∀ (j : Nat) (o : Oper) cs b, ops[j]? = some o → o.op ≠ .select cs b)
    (hs : Region.sinkB md ops n = true) (hc : Region.chainB md ops n = true) (hn : n < ops.size) (hin : i < n) (hdone : ∀ done a S, L done a S → ∀ j ∈ Region.ready md ops done, n ≤ j) (f : Nat) :
    ∀ (done : Array Bool) (a : Act) (S : World → Prop), HeadInv md ops n done →
      (∀ j oj, ops[j]? = some oj → j ≠ i → done.getD j true = false → (∀ e ∈ oj.after, Region.binds md e = true → e.on ≠ i) → oi.apart ops oj = true) →
      i ∈ Region.ready md ops done → Det P ops w0 oi v a →
      headKn P md ops w0 n L f (done.setIfInBounds i true) (a.put oi.dst v) S → headKn P md ops w0 n L (f + 1) done a S := by
  induction f with
  | zero =>
    intro done a S inv _ hr hy H
    have hun := (mem_ready.1 hr).1
    refine ⟨List.ne_nil_of_mem hr, fun j hj => ?_⟩
    have hjn : j < n := Nat.lt_of_not_le fun h => tail_waits hs hc hn inv _ i rfl hin hun j h hj
    refine ⟨hjn, ?_⟩
    by_cases hji : j = i
    · subst hji; exact hy.op hi (headKn_anti hLa _ _) H
    · exact absurd (hdone _ _ _ H j (ready_mono hj hji)) (by omega)
  | succ f ih =>
    intro done a S inv hfree hr hy H
    have hun := (mem_ready.1 hr).1
    refine ⟨List.ne_nil_of_mem hr, fun j hj => ?_⟩
    have hjn : j < n := Nat.lt_of_not_le fun h => tail_waits hs hc hn inv _ i rfl hin hun j h hj
    refine ⟨hjn, ?_⟩
    by_cases hji : j = i
    · subst hji; exact hy.op hi (headKn_anti hLa _ _) H
    obtain ⟨hjun, oj, hoj, hall⟩ := mem_ready.1 hj
    have hnot : ∀ e ∈ oj.after, Region.binds md e = true → e.on ≠ i := fun e he hb heq => by
      have h1 := hall e he hb
      rw [heq, getD_both hun] at h1
      cases h1
    have hap := hfree j oj hoj hji hjun hnot
    obtain ⟨p1, p2, p3⟩ := Oper.apart_spec hap
    have hfree' : ∀ k ok, ops[k]? = some ok → k ≠ i → (done.setIfInBounds j true).getD k true = false → (∀ e ∈ ok.after, Region.binds md e = true → e.on ≠ i) → oi.apart ops ok = true := fun k ok hk hki hun hno => by
      refine hfree k ok hk hki ?_ hno
      by_cases hjk : j = k
      · subst hjk; exact hjun
      · rwa [getD_set_ne true hjk] at hun
    have keep : ∀ u, Det P ops w0 oi v (a.put oj.dst u) := fun u => hy.of_same (execOp_put oi (fun cs b => hsel i oi cs b hi) a oj.dst u p3) (wanted_put oi a oj.dst u p3)
    have h2 := (H.2 j (ready_mono hj hji)).2
    unfold knOp at h2 ⊢
    rw [hoj] at h2 ⊢
    simp only at h2 ⊢
    rw [wanted_put oj a oi.dst v p1] at h2
    have go : ∀ u S', headKn P md ops w0 n L f ((done.setIfInBounds i true).setIfInBounds j true) ((a.put oi.dst v).put oj.dst u) S' → headKn P md ops w0 n L (f + 1) (done.setIfInBounds j true) (a.put oj.dst u) S' := fun u S' h => by
      refine ih (done.setIfInBounds j true) (a.put oj.dst u) S' (inv.set hj hjn) hfree' (ready_mono hr (Ne.symm hji)) (keep u) ?_
      rw [Array.setIfInBounds_comm _ _ hji, ← Act.put_comm a v u p2]
      exact h
    split
    · rename_i hw
      rw [if_pos hw] at h2
      obtain ⟨R, hR, hnx⟩ := h2
      refine ⟨R, ⟨hR.stable, fun w hx hs => ?_⟩, fun u hu => go u _ (hnx u hu)⟩
      have := hR.run w hx hs
      rwa [execOp_put oj (fun cs b => hsel j oj cs b hoj) a oi.dst v p1] at this
    · rename_i hw
      rw [if_neg hw] at h2
      exact go _ _ h2

def marked : Nat → Nat → Array Bool → Array Bool
  | _, 0, d => d
  | k, m + 1, d => marked (k + 1) m (d.setIfInBounds k true)
theorem headKn_lex1 {n g : Nat} {Q : Act → (World → Prop) → Prop} (hQ : Anti Q) (hsel : Region.noSelect ops = true) (hs : Region.sinkB md ops n = true) (hc : Region.chainB md ops n = true) (hn : n < ops.size) {post : List Oper} (l : List Oper) :
    ∀ (k : Nat) (done : Array Bool) (a : Act) (S : World → Prop), (∀ j, j < (l ++ post).length → (l ++ post)[j]? = ops[k + j]?) → k + (l ++ post).length = n → HeadInv md ops n done → Region.lexHead md ops g (l ++ post).length k done = true →
    wpDet P ops w0 (fun a' => headKn P md ops w0 n (fun d a' S' => Region.seqB md ops g n d = true ∧ Q a' S') post.length (marked k l.length done) a' S) l a → headKn P md ops w0 n (fun d a' S' => Region.seqB md ops g n d = true ∧ Q a' S') (l ++ post).length done a S := by
  induction l with
  | nil => intro k done a S hl hk inv hB h; exact h
  | cons o l ih =>
    intro k done a S hl hk inv hB h
    have h0 : ops[k]? = some o := by simpa using (hl 0 (by simp)).symm
    simp only [List.cons_append, List.length_cons, Region.lexHead, Bool.and_eq_true] at hB
    simp only [List.cons_append, List.length_cons] at hk
    have hr : k ∈ Region.ready md ops done := by simpa using hB.1.1
    have hLa : ∀ d, Anti (fun a' S' => Region.seqB md ops g n d = true ∧ Q a' S') := fun d a S S' hS h => ⟨h.1, hQ _ _ _ hS h.2⟩
    have next : ∀ (a' : Act), wpDet P ops w0 (fun a' => headKn P md ops w0 n (fun d a' S' => Region.seqB md ops g n d = true ∧ Q a' S') post.length (marked (k + 1) l.length (done.setIfInBounds k true)) a' S) l a' → headKn P md ops w0 n (fun d a' S' => Region.seqB md ops g n d = true ∧ Q a' S') (l ++ post).length (done.setIfInBounds k true) a' S := fun a' h' =>
      ih (k + 1) _ a' S (fun j hj => by have := hl (j + 1) (by simp at hj ⊢; omega); simpa [Nat.add_assoc, Nat.add_comm 1 j] using this) (by omega) (inv.set hr (by omega)) hB.2 h'
    unfold wpDet at h
    by_cases hw : Region.wanted o (yielded ops a.tmps) = true
    · rw [if_pos hw] at h
      obtain ⟨v, hv, hnx⟩ := h
      exact headKn_first hLa h0 (Region.noSelect_spec hsel) hs hc hn (by omega) (fun d a' S' hL => seqB_ready hL.1) _ done a S inv (Region.free_spec h0 hB.1.2) hr (.inl ⟨hw, hv⟩) (next _ hnx)
    · rw [if_neg hw] at h
      exact headKn_first hLa h0 (Region.noSelect_spec hsel) hs hc hn (by omega) (fun d a' S' hL => seqB_ready hL.1) _ done a S inv (Region.free_spec h0 hB.1.2) hr (.inr ⟨by simpa using hw, rfl⟩) (next _ h)

/-- THE LAW: n operations of fixed values, then m in each of their orders, then a forced order. -/
theorem wp_region_known {id : Nat} {Q : Exit → Act → World → Prop} {a : Act} {w : World} {l : List Oper} (n m : Nat) (hm : P.follows .mixedOrders = true) (hB : Region.lexTailB .any l.toArray (n + m) = true)
    (h : wpDet P l.toArray w (fun a' => headKn P .any l.toArray w (n + m) (fun d a'' S => Region.seqB .any l.toArray (l.toArray.size - (n + m)) (n + m) d = true ∧ ∀ w', Ext w w' → S w' → wpList P l.toArray Q (l.drop (n + m)) a'' w') m (marked 0 n (Array.replicate l.toArray.size false)) a' (fun _ => True)) (l.take n) a) : (Code.region id l.toArray true).wp P Q a w := by
  simp only [Region.lexTailB, Bool.and_eq_true, decide_eq_true_eq] at hB
  obtain ⟨⟨⟨⟨hsel, hn⟩, hs⟩, hc⟩, hlex⟩ := hB
  have hn' : n + m < l.length := by simpa using hn
  have hap : l.take n ++ (l.drop n).take m = l.take (n + m) := by rw [List.take_add]
  have htl : (l.take (n + m)).length = n + m := by simp; omega
  have htn : (l.take n).length = n := by simp; omega
  have htm : ((l.drop n).take m).length = m := by simp; omega
  have hdl : (l.drop (n + m)).length = l.toArray.size - (n + m) := by simp
  have inv0 : HeadInv .any l.toArray (n + m) (Array.replicate l.toArray.size false) :=
    ⟨by simp, fun j oj _ hl => (by rw [getD_replicate_false] at hl; cases hl), fun t _ ht => getD_in (by simpa using ht) (getD_replicate_false _ _)⟩
  have hQ : Anti (fun a'' S => ∀ w', Ext w w' → S w' → wpList P l.toArray Q (l.drop (n + m)) a'' w') := anti_list
  have H := headKn_lex1 (md := .any) (g := l.toArray.size - (n + m)) (S := fun _ => True) (w0 := w) hQ hsel hs hc hn (post := (l.drop n).take m) (l.take n) 0 (Array.replicate l.toArray.size false) a (fun j hj => by
      rw [hap] at hj ⊢
      rw [htl] at hj
      simp [hj]) (by rw [hap]; simpa using htl) inv0 (by rw [hap, htl]; exact hlex) (by rw [htn, htm]; exact h)
  rw [hap] at H
  refine wp_region_any hm ?_
  have fin := any_of_headKn (Q' := Q) (g := l.toArray.size - (n + m)) (fun d a' S' w' hw' _ hS' hL => by
    have := wpAny_of_seq (md := .any) (Q' := Q) (l.drop (n + m)) (n + m) d a' w' (fun j => by simp [List.getElem?_drop]) (by rw [hdl]; exact hL.1) (hL.2 w' hw' hS')
    rwa [hdl] at this) _ _ _ _ _ ((Below.refl _ w).drew) (fun _ _ _ _ => trivial) trivial H
  rw [htl, show (n + m) + (l.toArray.size - (n + m)) = l.toArray.size by omega] at fin
  exact fin
/-- A new variable, of which more is known. -/
theorem kn_alloc {i d : Nat} {l : List Value} {ds : List Deferred} {S : World → Prop} {K : Act → (World → Prop) → Prop} {t : TypeId} {cs : Array Value} {ty : TypeId} {ps : String} {af : Array Edge} (T : Nat → Prop) (hi : ops[i]? = some ⟨some d, .alloc t, ty, ps, af, none⟩) (hK : Anti K)
    (hr : ∀ w, (Instr.alloc t true (.tuple #[])).run P w = .ok (.pointer (some ⟨w.heap.size, 0, none⟩)) (w.alloc (.cells cs t))) (hT : ∀ w, Ext w0 w → S w → T w.heap.size)
    (hn : ∀ b, w0.heap.size ≤ b → T b → K ⟨(l.set d (.pointer (some ⟨b, 0, none⟩))).toArray, ds⟩ (fun w => S w ∧ Box w b cs)) : knOp P ops w0 i K ⟨l.toArray, ds⟩ S := by
  unfold knOp
  rw [hi]
  simp only
  rw [if_pos (want_none rfl)]
  refine ⟨fun v w => ∃ b, v = .pointer (some ⟨b, 0, none⟩) ∧ w0.heap.size ≤ b ∧ T b ∧ Box w b cs, ⟨fun v x y hx ⟨b, h1, h2, h3, h4⟩ => ⟨b, h1, h2, h3, h4.kept hx⟩, fun w hw hs => ?_⟩, ?_⟩
  · have : (execOp (Act.mk l.toArray ds).eval ⟨some d, .alloc t, ty, ps, af, none⟩).run P w = .ok (.value (.pointer (some ⟨w.heap.size, 0, none⟩))) (w.alloc (.cells cs t)) := by
      unfold execOp
      simp only [Sem.run_bind, hr w, Result.andThen_ok, Sem.run_pure]
    rw [this]
    exact ⟨(Below.refl _ w).alloc (Nat.le_refl _) _, w.heap.size, rfl, hw.size, hT w hw hs, Box.new w cs t⟩
  · rintro v ⟨_, b, rfl, hb, hTb, _⟩
    rw [put_list]
    refine hK _ _ _ (fun w h => ⟨h.1, ?_⟩) (hn b hb hTb)
    obtain ⟨b', h1, _, _, h3⟩ := h.2
    obtain rfl : b = b' := by simpa using h1
    exact h3
theorem headKn_two {n : Nat} {L : Array Bool → Act → (World → Prop) → Prop} {done : Array Bool} {a : Act} {S : World → Prop} (i j : Nat) (e0 : Region.ready md ops done = [i, j]) (hi : i < n) (hj : j < n) (e1 : Region.ready md ops (done.setIfInBounds i true) = [j]) (e2 : Region.ready md ops (done.setIfInBounds j true) = [i])
    (h1 : knOp P ops w0 i (knOp P ops w0 j (L ((done.setIfInBounds i true).setIfInBounds j true))) a S) (h2 : knOp P ops w0 j (knOp P ops w0 i (L ((done.setIfInBounds j true).setIfInBounds i true))) a S) : headKn P md ops w0 n L 2 done a S := by
  have more : ∀ (K K' : Act → (World → Prop) → Prop) (k : Nat) (a : Act) (S : World → Prop), (∀ a S, K a S → K' a S) → knOp P ops w0 k K a S → knOp P ops w0 k K' a S := fun K K' k a S hh h => by
    unfold knOp at *
    split
    · rename_i hk; rw [hk] at h; exact hh _ _ h
    · rename_i o hk
      rw [hk] at h
      simp only at h
      split
      · rename_i hw
        rw [if_pos hw] at h
        obtain ⟨R, hR, hn⟩ := h
        exact ⟨R, hR, fun v hv => hh _ _ (hn v hv)⟩
      · rename_i hw; rw [if_neg hw] at h; exact hh _ _ h
  refine ⟨by rw [e0]; simp, fun k hk => ?_⟩
  rw [e0] at hk
  rcases List.mem_cons.1 hk with rfl | hk
  · refine ⟨hi, more _ _ _ _ _ (fun a S h => ?_) h1⟩
    refine ⟨by rw [e1]; simp, fun k hk => ?_⟩
    rw [e1] at hk
    obtain rfl : k = j := by simpa using hk
    exact ⟨hj, h⟩
  · obtain rfl : k = j := by simpa using hk
    refine ⟨hj, more _ _ _ _ _ (fun a S h => ?_) h2⟩
    refine ⟨by rw [e2]; simp, fun k' hk => ?_⟩
    rw [e2] at hk
    obtain rfl : k' = i := by simpa using hk
    exact ⟨hi, h⟩
/-- Two new variables, in both orders, ahead of a forced order. -/
theorem two_allocs {Q : Exit → Act → World → Prop} {rest : List Oper} {n g d1 d2 : Nat} {done : Array Bool} {l : List Value} {ds : List Deferred} {t1 t2 : TypeId} {cs1 cs2 : Array Value} {ty1 ty2 : TypeId} {ps1 ps2 : String} {af1 af2 : Array Edge} (i j : Nat) (e0 : Region.ready md ops done = [i, j]) (hi : i < n) (hj : j < n) (e1 : Region.ready md ops (done.setIfInBounds i true) = [j]) (e2 : Region.ready md ops (done.setIfInBounds j true) = [i])
    (hq1 : Region.seqB md ops g n ((done.setIfInBounds i true).setIfInBounds j true) = true) (hij : i ≠ j) (o1 : ops[i]? = some ⟨some d1, .alloc t1, ty1, ps1, af1, none⟩) (o2 : ops[j]? = some ⟨some d2, .alloc t2, ty2, ps2, af2, none⟩) (hd : d1 ≠ d2)
    (r1 : ∀ w, (Instr.alloc t1 true (.tuple #[])).run P w = .ok (.pointer (some ⟨w.heap.size, 0, none⟩)) (w.alloc (.cells cs1 t1))) (r2 : ∀ w, (Instr.alloc t2 true (.tuple #[])).run P w = .ok (.pointer (some ⟨w.heap.size, 0, none⟩)) (w.alloc (.cells cs2 t2)))
    (h : ∀ b1 b2 w1, w0.heap.size ≤ b1 → w0.heap.size ≤ b2 → b1 ≠ b2 → Ext w0 w1 → Box w1 b1 cs1 → Box w1 b2 cs2 → wpList P ops Q rest ⟨((l.set d1 (.pointer (some ⟨b1, 0, none⟩))).set d2 (.pointer (some ⟨b2, 0, none⟩))).toArray, ds⟩ w1) :
    headKn P md ops w0 n (fun d a'' S => Region.seqB md ops g n d = true ∧ ∀ w', Ext w0 w' → S w' → wpList P ops Q rest a'' w') 2 done ⟨l.toArray, ds⟩ (fun _ => True) := by
  have hA : ∀ d, Anti (fun a'' S => Region.seqB md ops g n d = true ∧ ∀ w', Ext w0 w' → S w' → wpList P ops Q rest a'' w') := fun d a S S' hS h => ⟨h.1, fun w' hx hs => h.2 w' hx (hS w' hs)⟩
  refine headKn_two i j e0 hi hj e1 e2 ?_ ?_
  · refine kn_alloc (cs := cs1) (fun _ => True) o1 (knOp_anti (hA _)) r1 (fun _ _ _ => trivial) fun b1 h1 _ => ?_
    refine kn_alloc (cs := cs2) (fun b => b1 < b) o2 (hA _) r2 (fun w1 _ hS => hS.2.lt) fun b2 h2 h12 => ⟨hq1, ?_⟩
    rintro w1 B1 ⟨⟨_, x1⟩, x2⟩
    exact h b1 b2 w1 h1 h2 (by omega) B1 x1 x2
  · refine kn_alloc (cs := cs2) (fun _ => True) o2 (knOp_anti (hA _)) r2 (fun _ _ _ => trivial) fun b2 h2 _ => ?_
    refine kn_alloc (cs := cs1) (fun b => b2 < b) o1 (hA _) r1 (fun w1 _ hS => hS.2.lt) fun b1 h1 h12 => ⟨by rw [Array.setIfInBounds_comm _ _ (Ne.symm hij)]; exact hq1, ?_⟩
    rintro w1 B1 ⟨⟨_, x2⟩, x1⟩
    rw [List.set_comm _ _ (Ne.symm hd)]
    exact h b1 b2 w1 h1 h2 (by omega) B1 x1 x2
end
end Go.Proofs.Ytiiljecocajdpaa
