import Derived.Test.YtnjmplapjnnjdaaGreatTreeI
import Derived.Test.YtnjmplapjnnjdaaGreatNoTree
import Derived.Test.YtnjmplapjnnjdaaGreatDocCount
import Derived.Test.YtnjmplapjnnjdaaGreatLFloors
import Derived.Test.YtnjmplapjnnjdaaGreatLink
set_option linter.unusedSimpArgs false
set_option linter.unusedVariables false
set_option linter.unnecessarySimpa false
/- Orders as a tree, whose pure steps hold in each world that keeps what lay at their base. No program's text is named here. -/
namespace Go.Proofs.YtnjmplapjnnjdaaGreat
open Go.RowKit

section
variable {P : Program} {ops : Array Oper} {md : Region.Mode} {Q : Exit → Act → World → Prop} {b : World}
def wpAnyE (P : Program) (md : Region.Mode) (ops : Array Oper) (b : World) (Q : Exit → Act → World → Prop) : Nat → Array Bool → Act → World → Prop
  | 0, d, a, w => Ext b w ∧ Region.ready md ops d = [] ∧ Q .normal a w
  | f + 1, d, a, w => Ext b w ∧ (Region.ready md ops d = [] → Q .normal a w) ∧ ∀ i ∈ Region.ready md ops d, wpOp P ops Q i (wpAnyE P md ops b Q f (d.setIfInBounds i true)) a w
theorem wpAny_of_E : ∀ (f : Nat) (d : Array Bool) (a : Act) (w : World), wpAnyE P md ops b Q f d a w → wpAny P md ops Q f d a w
  | 0, _, _, _, h => h.2
  | f + 1, _, _, _, h => ⟨h.2.1, fun i hi => wpOp_mono (fun a w h' => wpAny_of_E f _ a w h') (h.2.2 i hi)⟩
theorem wpAnyE_ext {f : Nat} {d : Array Bool} {a : Act} {w : World} (h : wpAnyE P md ops b Q f d a w) : Ext b w := by
  cases f with
  | zero => exact h.1
  | succ f => exact h.1
theorem wpAnyE_base {b' : World} (hb : Ext b' b) : ∀ (f : Nat) (d : Array Bool) (a : Act) (w : World), wpAnyE P md ops b Q f d a w → wpAnyE P md ops b' Q f d a w
  | 0, _, _, _, h => ⟨hb.trans (h.1.mono hb.size), h.2⟩
  | f + 1, _, _, _, h => ⟨hb.trans (h.1.mono hb.size), h.2.1, fun i hi => wpOp_mono (fun a w h' => wpAnyE_base hb f _ a w h') (h.2.2 i hi)⟩
theorem wpOp_putW {j : Nat} {oi oj : Oper} {v : Value} {K : Act → World → Prop} {a : Act} {w : World} (hj : ops[j]? = some oj) (hsel : ∀ cs b, oj.op ≠ .select cs b) (hselI : ∀ cs b, oi.op ≠ .select cs b) (hap : oi.apart ops oj = true)
    (hQ : ∀ e a w, Q e a w → e = .normal) (h : wpOp P ops Q j K (a.put oi.dst v) w) : wpOp P ops Q j (fun a' w' => execOp a'.eval oi = execOp a.eval oi ∧ Region.wanted oi (yielded ops a'.tmps) = Region.wanted oi (yielded ops a.tmps) ∧ K (a'.put oi.dst v) w') a w := by
  obtain ⟨p1, p2, p3⟩ := Oper.apart_spec hap
  have c1 : execOp (a.put oi.dst v).eval oj = execOp a.eval oj := execOp_put oj hsel a oi.dst v p1
  have c2 : Region.wanted oj (yielded ops (a.put oi.dst v).tmps) = Region.wanted oj (yielded ops a.tmps) := wanted_put oj a oi.dst v p1
  have lets : ¬LetsOut Q := fun ⟨a, w, h⟩ => by cases hQ _ _ _ h
  have key : ∀ u w', K ((a.put oi.dst v).put oj.dst u) w' → execOp (a.put oj.dst u).eval oi = execOp a.eval oi ∧ Region.wanted oi (yielded ops (a.put oj.dst u).tmps) = Region.wanted oi (yielded ops a.tmps) ∧ K ((a.put oj.dst u).put oi.dst v) w' := fun u w' hk =>
    ⟨execOp_put oi hselI a oj.dst u p3, wanted_put oi a oj.dst u p3, by rw [← Act.put_comm a v u p2]; exact hk⟩
  unfold wpOp at *
  rw [hj] at h ⊢
  simp only at h ⊢
  rw [c2] at h
  split
  · rename_i hw
    rw [if_pos hw] at h
    rcases h with h | h
    · refine .inl ?_
      unfold Oper.wp at h ⊢
      rw [c1] at h
      generalize (execOp a.eval oj).run P w = r at h ⊢
      cases r with
      | ok n w' =>
        cases n <;> simp only [Oper.upon] at h ⊢
        case value u => exact key _ _ h
        case skip => exact key _ _ h
        case defer df =>
          refine ⟨execOp_put oi hselI ({ a with defers := df :: a.defers } : Act) oj.dst undef p3, wanted_put oi ({ a with defers := df :: a.defers } : Act) oj.dst undef p3, ?_⟩
          rw [Act.put_defers] at h
          rw [← Act.put_comm _ v undef p2]
          exact h
        case enter f args =>
          exact Calls.mono h fun e w'' he => by
            cases e with
            | returned u => exact key _ _ he
            | panicked c => cases hQ _ _ _ he
            | outgrown => exact he
        case row rw_ args => exact Rows.mono h fun u w'' he => key _ _ he
        all_goals exact h
      | halt y w' =>
        cases y <;> simp only [Oper.upon] at h ⊢
        case panic c => cases hQ _ _ _ h
        all_goals exact h
    · exact absurd h.2 lets
  · rename_i hw
    rw [if_neg hw] at h
    exact key _ _ h
theorem wpAnyE_pure {i : Nat} {oi : Oper} {v : Value} (h0 : ops[i]? = some oi) (hsel : Region.noSelect ops = true) (hQ : ∀ e a w, Q e a w → e = .normal) : ∀ (f : Nat) (listed : Array Bool) (a : Act) (w : World),
    (∀ j oj, ops[j]? = some oj → j ≠ i → listed.getD j true = false → (∀ e ∈ oj.after, Region.binds md e = true → e.on ≠ i) → oi.apart ops oj = true) → i ∈ Region.ready md ops listed →
    Region.wanted oi (yielded ops a.tmps) = true → (∀ w, Ext b w → (execOp a.eval oi).run P w = .ok (.value v) w) → Ext b w → wpAnyE P md ops b Q f (listed.setIfInBounds i true) (a.put oi.dst v) w → wpAnyE P md ops b Q (f + 1) listed a w := by
  have op0 : ∀ (K : Act → World → Prop) (a : Act) (w : World), Region.wanted oi (yielded ops a.tmps) = true → Ext b w → (∀ w, Ext b w → (execOp a.eval oi).run P w = .ok (.value v) w) → K (a.put oi.dst v) w → wpOp P ops Q i K a w := fun K a w hwt hw hv hK => by
    unfold wpOp
    rw [h0]
    simp only
    rw [if_pos hwt]
    refine .inl ?_
    unfold Oper.wp
    rw [hv w hw]
    exact hK
  intro f
  induction f with
  | zero =>
    intro listed a w _ hr hwt hv hw H
    refine ⟨hw, fun hh => (by rw [hh] at hr; cases hr), fun j hj => ?_⟩
    by_cases hj0 : j = i
    · subst hj0; exact op0 _ _ _ hwt hw hv H
    · have := ready_mono hj hj0
      rw [H.2.1] at this
      cases this
  | succ f ih =>
    intro listed a w hfree hr hwt hv hw H
    refine ⟨hw, fun hh => (by rw [hh] at hr; cases hr), fun j hj => ?_⟩
    by_cases hj0 : j = i
    · subst hj0; exact op0 _ _ _ hwt hw hv H
    obtain ⟨hjun, oj, hoj, hall⟩ := mem_ready.1 hj
    have hnot : ∀ e ∈ oj.after, Region.binds md e = true → e.on ≠ i := fun e he hb heq => by
      have h1 := hall e he hb
      have h2 := (mem_ready.1 hr).1
      rw [heq, getD_both h2] at h1
      cases h1
    have hap := hfree j oj hoj hj0 hjun hnot
    have step := wpOp_putW hoj (Region.noSelect_spec hsel j oj · · hoj) (Region.noSelect_spec hsel i oi · · h0) hap hQ (H.2.2 j (ready_mono hj hj0))
    refine wpOp_mono (fun a' w' ⟨e1, e2, hk⟩ => ?_) step
    refine ih (listed.setIfInBounds j true) a' w' (fun k ok hk2 hk0 hun hno => ?_) (ready_mono hr (Ne.symm hj0)) (e2.trans hwt) (fun w hh => by rw [e1]; exact hv w hh) (wpAnyE_ext hk) ?_
    · refine hfree k ok hk2 hk0 ?_ hno
      by_cases hjk : j = k
      · subst hjk; exact hjun
      · rwa [getD_set_ne true hjk] at hun
    · rw [Array.setIfInBounds_comm _ _ hj0]
      exact hk
def wpOTE (P : Program) (ops : Array Oper) (Q : Exit → Act → World → Prop) (l : List Oper) : OT → Act → World → Prop
  | .nil, a, w => Q .normal a w
  | .pure i t, a, w => Region.wanted (l.getD i default) (yielded ops a.tmps) = true ∧ ∃ v, (∀ W, Ext w W → (execOp a.eval (l.getD i default)).run P W = .ok (.value v) W) ∧ wpOTE P ops Q l t (a.put (l.getD i default).dst v) w
  | .one i t, a, w => wpList P ops (fun e a w' => e = .normal ∧ Ext w w' ∧ wpOTE P ops Q l t a w') [l.getD i default] a w
  | .two i t j u, a, w => wpList P ops (fun e a w' => e = .normal ∧ Ext w w' ∧ wpOTE P ops Q l t a w') [l.getD i default] a w ∧ wpList P ops (fun e a w' => e = .normal ∧ Ext w w' ∧ wpOTE P ops Q l u a w') [l.getD j default] a w
def otE (md : Region.Mode) (ops : Array Oper) : OT → Array Bool → Bool
  | .nil, d => (Region.ready md ops d).isEmpty
  | .pure i t, d => (Region.ready md ops d).contains i && (Region.free md ops d i && otE md ops t (d.setIfInBounds i true))
  | .one i t, d => (Region.ready md ops d == [i]) && otE md ops t (d.setIfInBounds i true)
  | .two i t j u, d => (Region.ready md ops d == [i, j]) && (otE md ops t (d.setIfInBounds i true) && (otE md ops u (d.setIfInBounds j true) && decide (t.len = u.len)))
theorem wpAnyE_of_tree {l : List Oper} (hl : ∀ i : Nat, ops[i]? = l[i]?) (hsel : Region.noSelect ops = true) : ∀ (t : OT) (d : Array Bool) (a : Act) (w : World), otE md ops t d = true → wpOTE P ops Q l t a w → wpAnyE P md ops w (OnlyNormal Q) t.len d a w
  | .nil, d, a, w, hB, h => ⟨Below.refl _ _, by simpa [otE] using hB, rfl, h⟩
  | .one i t, d, a, w, hB, h => by
    simp only [otE, Bool.and_eq_true, beq_iff_eq] at hB
    obtain ⟨h1, h2⟩ := hB
    refine ⟨Below.refl _ _, fun hh => (by rw [hh] at h1; cases h1), fun j hj => ?_⟩
    rw [h1] at hj
    obtain rfl := List.mem_singleton.1 hj
    have hr : j ∈ Region.ready md ops d := by rw [h1]; simp
    obtain ⟨hun, o, ho, _⟩ := mem_ready.1 hr
    have ho' : l.getD j default = o := by rw [hl j] at ho; rw [List.getD_eq_getElem?_getD, ho]; rfl
    unfold wpOTE at h
    rw [ho'] at h
    exact wpOp_of_list ho (fun a w' hh => wpAnyE_base hh.1 _ _ _ _ (wpAnyE_of_tree hl hsel t _ a w' h2 hh.2)) h
  | .two i t j u, d, a, w, hB, h => by
    simp only [otE, Bool.and_eq_true, beq_iff_eq, decide_eq_true_eq] at hB
    obtain ⟨h1, h2, h3, h4⟩ := hB
    unfold wpOTE at h
    refine ⟨Below.refl _ _, fun hh => (by rw [hh] at h1; cases h1), fun k hk => ?_⟩
    have hr : k ∈ Region.ready md ops d := hk
    obtain ⟨hun, o, ho, _⟩ := mem_ready.1 hr
    have ho' : l.getD k default = o := by rw [hl k] at ho; rw [List.getD_eq_getElem?_getD, ho]; rfl
    rw [h1] at hk
    rcases List.mem_cons.1 hk with rfl | hk
    · rw [ho'] at h
      exact wpOp_of_list ho (fun a w' hh => wpAnyE_base hh.1 _ _ _ _ (wpAnyE_of_tree hl hsel t _ a w' h2 hh.2)) h.1
    · obtain rfl := List.mem_singleton.1 hk
      rw [ho'] at h
      exact wpOp_of_list ho (fun a w' hh => by have := wpAnyE_base hh.1 _ _ _ _ (wpAnyE_of_tree hl hsel u _ a w' h3 hh.2); rwa [← h4] at this) h.2
  | .pure i t, d, a, w, hB, h => by
    simp only [otE, Bool.and_eq_true] at hB
    obtain ⟨h1, h2, h7⟩ := hB
    have hr : i ∈ Region.ready md ops d := by simpa using h1
    obtain ⟨hun, o, ho, _⟩ := mem_ready.1 hr
    have ho' : l.getD i default = o := by rw [hl i] at ho; rw [List.getD_eq_getElem?_getD, ho]; rfl
    unfold wpOTE at h
    rw [ho'] at h
    obtain ⟨hwt, v, hv, hn⟩ := h
    exact wpAnyE_pure ho hsel (fun _ _ _ h => h.1) t.len d a w (Region.free_spec ho h2) hr hwt hv (Below.refl _ _) (wpAnyE_of_tree hl hsel t _ _ _ h7 hn)
/-- THE LAW. -/
theorem wp_region_treeE {id : Nat} {a : Act} {w : World} {l : List Oper} (t : OT) (hm : P.follows .mixedOrders = true) (hB : (Region.noSelect l.toArray && (otE .any l.toArray t (Array.replicate l.toArray.size false) && decide (t.len = l.toArray.size))) = true)
    (h : ∀ w1, Ext w w1 → wpOTE P l.toArray Q l t a w1) : (Code.region id l.toArray true).wp P Q a w := by
  simp only [Bool.and_eq_true, decide_eq_true_eq] at hB
  obtain ⟨hsel, hord, hsz⟩ := hB
  refine wp_region_any hm ?_
  refine wpAny_Q (Q := OnlyNormal Q) (fun _ _ _ h => h.2) _ _ _ _ ?_
  have := wpAnyE_of_tree (P := P) (md := .any) (Q := Q) (l := l) (fun i => by simp) hsel t _ a _ hord (h _ (Below.refl _ w).drew)
  rw [hsz] at this
  exact wpAny_of_E _ _ _ _ this
/-- A call, by its contract, where it is the only operation of its list. -/
theorem one_call {l : List Value} {ds : List Deferred} {w : World} {x : Operand} {xs : List Operand} {ts : Array TypeId} {d : Nat} {f : FuncId} {cap args : List Value} {ty : TypeId} {ps : String} {af : Array Edge} {gd : Option (Nat × Bool)}
    (hw : Region.wanted ⟨some d, .call { callee := .value x, args := xs.toArray, argTypes := ts }, ty, ps, af, gd⟩ (yielded ops l.toArray) = true)
    (hx : (Act.mk l.toArray ds).eval x = .func (.func f) #[] cap.toArray) (E : EnterF P f) (ha : xs.map (Act.mk l.toArray ds).eval ++ cap = args)
    (hc : Calls P f args.toArray w (fun e w' => ∃ v, e = .returned v ∧ Q .normal ⟨(l.set d v).toArray, ds⟩ w')) :
    wpList P ops Q [⟨some d, .call { callee := .value x, args := xs.toArray, argTypes := ts }, ty, ps, af, gd⟩] ⟨l.toArray, ds⟩ w := by
  have hr : (execOp (Act.mk l.toArray ds).eval ⟨some d, .call { callee := .value x, args := xs.toArray, argTypes := ts }, ty, ps, af, gd⟩).run P w = .ok (.enter f args.toArray) w := by
    have hE := E.out args.toArray w
    rw [← ha] at hE ⊢
    unfold execOp
    simp only [resolve, hx, Deferred.ofValue, Sem.run_bind, Sem.run_pure, Result.andThen_ok, invoke]
    simpa using hE
  refine BigFrame.wpList_want hw fun K hK => ?_
  unfold Oper.wp
  rw [hr]
  refine hc.mono ?_
  rintro e w' ⟨v, rfl, h⟩
  refine hK _ _ ?_
  rw [put_list]
  exact h
end
end Go.Proofs.YtnjmplapjnnjdaaGreat

/- A row of buckets in memory: how it lies; its small functions. -/
namespace Go.Proofs.YtnjmplapjnnjdaaGreat
open Go.RowKit

theorem ediv_small {a d M : Int} (hd : 1 ≤ d) (a0 : -M ≤ a) (a1 : a ≤ M) : -M ≤ a / d ∧ a / d ≤ M := by
  have h1 := Int.emod_add_mul_ediv a d
  have h3 := Int.emod_nonneg a (b := d) (by omega)
  have h4 := Int.emod_lt_of_pos a (b := d) (by omega)
  by_cases h : a < 0
  · have : a ≤ a / d := by
      refine (Int.le_ediv_iff_mul_le (by omega)).2 ?_
      have := Int.mul_le_mul_of_nonpos_left (show a ≤ 0 by omega) hd
      omega
    have : a / d < 0 := Int.ediv_neg_of_neg_of_pos h (by omega)
    omega
  · have : 0 ≤ a / d := Int.ediv_nonneg (by omega) (by omega)
    have : a / d ≤ a := Int.ediv_le_self _ (by omega)
    omega
/-- Buckets: what is in them, number and metric, in the order in which it was put. -/
structure Bk where
  D : Int
  lo : Int
  hi : Int
  cap : Nat
  I : List (Nat × Int)
  mark : Int
  mkd : Bool
def Bk.base (b : Bk) : Int := b.lo / b.D
def Bk.K (b : Bk) : Nat := (b.hi / b.D - b.lo / b.D + 1).toNat
def Bk.ix (b : Bk) (m : Int) : Nat := (m / b.D - b.lo / b.D).toNat
def Bk.row (b : Bk) (k : Nat) : List Int := (b.I.filter fun x => b.ix x.2 == k).map fun x => (x.1 : Int)
structure Bk.Ok (b : Bk) : Prop where
  d0 : 1 ≤ b.D
  d1 : b.D ≤ 65536
  le : b.lo ≤ b.hi
  lo0 : -100000000 ≤ b.lo
  hi0 : b.hi ≤ 100000000
  k : b.hi / b.D - b.lo / b.D + 1 ≤ 65536
  c0 : 1 ≤ b.cap
  c1 : b.cap ≤ 65536
  len : b.I.length ≤ b.cap + 1
  ms : ∀ x ∈ b.I, b.lo ≤ x.2 ∧ x.2 ≤ b.hi
  ids : ∀ x ∈ b.I, x.1 ≤ 1000000
theorem Bk.Ok.ix {b : Bk} (h : b.Ok) {m : Int} (h1 : b.lo ≤ m) (h2 : m ≤ b.hi) : ((b.ix m : Nat) : Int) = m / b.D - b.base ∧ b.ix m < b.K := by
  have a1 := Int.ediv_le_ediv (show 0 < b.D by have := h.d0; omega) h1
  have a2 := Int.ediv_le_ediv (show 0 < b.D by have := h.d0; omega) h2
  unfold Bk.ix Bk.K Bk.base
  omega
theorem Bk.Ok.kpos {b : Bk} (h : b.Ok) : 1 ≤ b.K ∧ b.K ≤ 65536 ∧ (b.K : Int) = b.hi / b.D - b.lo / b.D + 1 := by
  have a1 := Int.ediv_le_ediv (show 0 < b.D by have := h.d0; omega) h.le
  have := h.k
  unfold Bk.K
  omega
theorem Bk.Ok.base {b : Bk} (h : b.Ok) : -100000000 ≤ b.base ∧ b.base ≤ 100000000 := by
  unfold Bk.base
  have h0 := h.d0
  have h1 := h.lo0
  have h2 := h.hi0
  have h3 := h.le
  exact ediv_small h0 (by omega) (by omega)
def bkCells (b : Bk) (gr low top : Nat) : Array Value := #[.int .i64 b.D, .int .i64 b.lo, .int .i64 b.hi, .int .i64 b.cap, .int .i64 b.base, .slice (some ⟨gr, 0, none⟩) b.K b.K, .int .i64 b.I.length, .int .i64 low, .int .i64 top, .int .i64 b.mark, .bool b.mkd]
structure BkIn (w : World) (b : Bk) (bb gr low top : Nat) (vs : List Value) (Own : Nat → Prop) : Prop where
  box : BoxT w bb (bkCells b gr low top) 111
  arr : BoxT w gr vs.toArray 60
  vlen : vs.length = b.K
  rows : ∀ (k : Nat) (v : Value), vs[k]? = some v → RowO w v (b.row k)
  sep : ∀ (k k' : Nat) (v v' : Value) (g : Nat), k ≠ k' → vs[k]? = some v → vs[k']? = some v' → v.ownBlock = some g → v'.ownBlock ≠ some g
  own : Own bb ∧ Own gr ∧ ∀ (k : Nat) (v : Value) (g : Nat), vs[k]? = some v → v.ownBlock = some g → Own g
  low_lt : low < b.K
  top_lt : top < b.K
  rng : ∀ x ∈ b.I, low ≤ b.ix x.2 ∧ b.ix x.2 ≤ top
theorem BoxT.same {w w' : World} {b : Nat} {cs : Array Value} {t : TypeId} (h : BoxT w b cs t) (hk : w'.heap[b]? = w.heap[b]?) : BoxT w' b cs t := hk.trans h
theorem BkIn.same {w w' : World} {b : Bk} {bb gr low top : Nat} {vs : List Value} {Own : Nat → Prop} (h : BkIn w b bb gr low top vs Own) (hk : ∀ k, Own k → k < w.heap.size → w'.heap[k]? = w.heap[k]?) : BkIn w' b bb gr low top vs Own :=
  ⟨h.box.same (hk bb h.own.1 (Box.lt ⟨_, h.box⟩)), h.arr.same (hk gr h.own.2.1 (Box.lt ⟨_, h.arr⟩)), h.vlen, fun k v hv => (h.rows k v hv).block fun g hg => hk g (h.own.2.2 k v g hv hg) ((h.rows k v hv).lt hg), h.sep, h.own, h.low_lt, h.top_lt, h.rng⟩
theorem BkIn.kept {w w' : World} {b : Bk} {bb gr low top : Nat} {vs : List Value} {Own : Nat → Prop} (h : BkIn w b bb gr low top vs Own) (hB : Below w.heap.size w w') : BkIn w' b bb gr low top vs Own := h.same fun k _ hk => hB.block k hk
/-- Blocks of two kinds are two. -/
theorem BoxT.ne {w : World} {b b' : Nat} {cs cs' : Array Value} {t t' : TypeId} (h : BoxT w b cs t) (h' : BoxT w b' cs' t') (ht : t ≠ t') : b ≠ b' := by
  rintro rfl
  have := h.symm.trans h'
  simp at this
  exact ht this.2
theorem RowO.ne {w : World} {v : Value} {xs : List Int} (h : RowO w v xs) {g : Nat} (hg : v.ownBlock = some g) {b : Nat} {cs : Array Value} {t : TypeId} (h' : BoxT w b cs t) (ht : t ≠ 3) : g ≠ b := by
  rcases h with ⟨rfl, _⟩ | ⟨g', off, cap, cur, rfl, hg', _⟩
  · cases hg
  · obtain rfl : g' = g := by simpa [Value.ownBlock] using hg
    exact BoxT.ne (show BoxT w g' cur 3 from hg') h' (Ne.symm ht)
theorem BoxT.set {w : World} {b : Nat} {cs : Array Value} {t : TypeId} (h : BoxT w b cs t) (i : Nat) (v : Value) : BoxT (w.setCell ⟨b, i, none⟩ v) b (cs.setIfInBounds i v) t := by
  exact setCell_block w b i v cs t _ h
theorem bk_index (m D : Int) (hD : 1 ≤ D) (a0 : -9223372036854775808 ≤ m) (a1 : m ≤ 9223372036854775807) (w : World) : Pure Tryz.prog 40 #[.int .i64 m, .int .i64 D] w (.int .i64 (m / D)) := by
  have hb := tdiv_bd m D hD a0 a1
  have hf := flr_ediv (a := m) hD
  have he := ediv_bd hD a0 a1
  have hd0 : D ≠ 0 := by omega
  by_cases h2 : m.tmod D < 0
  · rw [if_pos h2] at hf
    have hb2 : -9223372036854775808 ≤ m.tdiv D - 1 := by omega
    have HF := Lib.hid hf
    clear hf he
    go_enter Tryz.func40, Tryz.ntmps40
    go_wp2
    go_ret
    refine ⟨?_, Below.refl _ _⟩
    rw [← HF.out]
    first | done | rfl | (refine ret_int ?_; unfold wrap64; omega)
  · rw [if_neg h2] at hf
    have HF := Lib.hid hf
    clear hf he
    go_enter Tryz.func40, Tryz.ntmps40
    go_wp2
    go_ret
    refine ⟨?_, Below.refl _ _⟩
    rw [← HF.out]
    first | done | rfl
structure BkAt (w : World) (b : Bk) (bb gr low top : Nat) : Prop where
  c0 : w.cell? ⟨bb, 0, none⟩ = some (.int .i64 b.D)
  c1 : w.cell? ⟨bb, 1, none⟩ = some (.int .i64 b.lo)
  c2 : w.cell? ⟨bb, 2, none⟩ = some (.int .i64 b.hi)
  c3 : w.cell? ⟨bb, 3, none⟩ = some (.int .i64 b.cap)
  c4 : w.cell? ⟨bb, 4, none⟩ = some (.int .i64 b.base)
  c5 : w.cell? ⟨bb, 5, none⟩ = some (.slice (some ⟨gr, 0, none⟩) b.K b.K)
  c6 : w.cell? ⟨bb, 6, none⟩ = some (.int .i64 b.I.length)
  c7 : w.cell? ⟨bb, 7, none⟩ = some (.int .i64 low)
  c8 : w.cell? ⟨bb, 8, none⟩ = some (.int .i64 top)
  c9 : w.cell? ⟨bb, 9, none⟩ = some (.int .i64 b.mark)
  c10 : w.cell? ⟨bb, 10, none⟩ = some (.bool b.mkd)
theorem BkIn.at_ {w : World} {b : Bk} {bb gr low top : Nat} {vs : List Value} {Own : Nat → Prop} (h : BkIn w b bb gr low top vs Own) : BkAt w b bb gr low top :=
  ⟨h.box.box.cell 0, h.box.box.cell 1, h.box.box.cell 2, h.box.box.cell 3, h.box.box.cell 4, h.box.box.cell 5, h.box.box.cell 6, h.box.box.cell 7, h.box.box.cell 8, h.box.box.cell 9, h.box.box.cell 10⟩
set_option maxRecDepth 5000 in
theorem bk_none {b : Bk} (hb : b.Ok) {bb gr low top : Nat} {vs : List Value} {Own : Nat → Prop} (w : World) (h : BkIn w b bb gr low top vs Own) : Pure Tryz.prog 63 #[.pointer (some ⟨bb, 0, none⟩)] w (.bool false) := by
  have c3 := h.at_.c3
  have hc : ((b.cap : Int) == 0) = false := by have := hb.c0; simp; omega
  go_enter Tryz.func63, Tryz.ntmps63
  go_wp2
  go_ret
  exact ⟨rfl, Below.refl _ _⟩
set_option maxRecDepth 5000 in
theorem bk_Mark {b : Bk} (hb : b.Ok) {bb gr low top : Nat} {vs : List Value} {Own : Nat → Prop} (w : World) (h : BkIn w b bb gr low top vs Own) : Pure Tryz.prog 50 #[.pointer (some ⟨bb, 0, none⟩)] w (.tuple #[.int .i64 b.mark, .bool b.mkd]) := by
  go_enter Tryz.func50, Tryz.ntmps50
  go_wp2_with fail
  refine (bk_none hb w h).mono ?_
  rintro e w1 ⟨rfl, B1⟩
  have h1 := (h.kept B1).at_
  have c9 := h1.c9
  have c10 := h1.c10
  go_upto_region 3 with fail
  (refine wp_region_treeE (.pure 0 (.pure 1 (.pure 2 (.pure 3 (.pure 4 (.pure 5 (.pure 6 (.pure 7 (.pure 8 (.pure 9 .nil)))))))))) (by kernel_rfl) (by kernel_rfl) ?_; simp only [List.getD_cons_zero, List.getD_cons_succ, wpOTE])
  intro w2 B2
  have b2 := h.box.box.kept B1 |>.kept B2
  iterate 10
    refine ⟨rfl, _, fun W hW => by have c9 := (b2.kept hW).cell 9; have c10 := (b2.kept hW).cell 10; simp only [bkCells, List.getElem?_toArray, List.getElem?_cons_zero, List.getElem?_cons_succ] at c9 c10; go_simp; first | done | rfl, ?_⟩
    try simp only [put_list, List.set_cons_zero, List.set_cons_succ]
  go_wp2
  go_ret2
  exact ⟨rfl, bOn B1 B2⟩
/-! ### The highest and the lowest -/
def bkNum (w : World) (bb j : Nat) : Nat := match w.cell? ⟨bb, j, none⟩ with
  | some (.int _ t) => t.toNat
  | _ => 0
theorem bkNum_of {w : World} {bb j : Nat} {t : Nat} (h : w.cell? ⟨bb, j, none⟩ = some (.int .i64 (t : Int))) : bkNum w bb j = t := by unfold bkNum; rw [h]; simp
theorem Bk.row_nil {b : Bk} {k : Nat} : b.row k = [] ↔ ∀ x ∈ b.I, b.ix x.2 ≠ k := by
  unfold Bk.row
  rw [List.map_eq_nil_iff, List.filter_eq_nil_iff]
  simp
theorem BkIn.top {w : World} {b : Bk} {bb gr low top : Nat} {vs : List Value} {Own : Nat → Prop} (h : BkIn w b bb gr low top vs Own) {t : Nat} (ht : t < b.K) (hr : ∀ x ∈ b.I, b.ix x.2 ≤ t) : BkIn (w.setCell ⟨bb, 8, none⟩ (.int .i64 t)) b bb gr low t vs Own := by
  have hne : gr ≠ bb := BoxT.ne h.arr h.box (by decide)
  exact ⟨h.box.set 8 _, h.arr.same (Below.heap_setCell _ _ _ _ hne), h.vlen, fun k v hv => (h.rows k v hv).block fun g hg => Below.heap_setCell _ _ _ _ ((h.rows k v hv).ne hg h.box (by decide)), h.sep, h.own, h.low_lt, ht, fun x hx => ⟨(h.rng x hx).1, hr x hx⟩⟩
theorem BkIn.low {w : World} {b : Bk} {bb gr low top : Nat} {vs : List Value} {Own : Nat → Prop} (h : BkIn w b bb gr low top vs Own) {t : Nat} (ht : t < b.K) (hr : ∀ x ∈ b.I, t ≤ b.ix x.2) : BkIn (w.setCell ⟨bb, 7, none⟩ (.int .i64 t)) b bb gr t top vs Own := by
  have hne : gr ≠ bb := BoxT.ne h.arr h.box (by decide)
  exact ⟨h.box.set 7 _, h.arr.same (Below.heap_setCell _ _ _ _ hne), h.vlen, fun k v hv => (h.rows k v hv).block fun g hg => Below.heap_setCell _ _ _ _ ((h.rows k v hv).ne hg h.box (by decide)), h.sep, h.own, ht, h.top_lt, fun x hx => ⟨hr x hx, (h.rng x hx).2⟩⟩
theorem BkIn.row {w : World} {b : Bk} {bb gr low top : Nat} {vs : List Value} {Own : Nat → Prop} (h : BkIn w b bb gr low top vs Own) {k : Nat} (hk : k < b.K) : ∃ a c, vs[k]? = some (.slice a (b.row k).length c) ∧ w.cell? ⟨gr, k, none⟩ = some (.slice a (b.row k).length c) := by
  have hv : vs[k]? = some (vs[k]'(by rw [h.vlen]; exact hk)) := List.getElem?_eq_getElem _
  obtain ⟨a, c, e⟩ := (h.rows k _ hv).form
  rw [e] at hv
  exact ⟨a, c, hv, by rw [h.arr.box.cell, List.getElem?_toArray]; exact hv⟩
def BkHiPost (b : Bk) (bb gr low : Nat) (vs : List Value) (Own : Nat → Prop) (w : World) (e : Ending) (w' : World) : Prop :=
  ∃ top : Nat, e = .returned (.tuple #[.int .i64 ((top : Int) + b.base), .bool true]) ∧ BkIn w' b bb gr low top vs Own ∧ (∃ x ∈ b.I, b.ix x.2 = top) ∧ Turn (fun k => k = bb) w w'
set_option maxRecDepth 5000 in
set_option maxHeartbeats 1000000 in
theorem bk_Highest {b : Bk} (hb : b.Ok) {bb gr low top : Nat} {vs : List Value} {Own : Nat → Prop} (hne : b.I ≠ []) (w : World) (h : BkIn w b bb gr low top vs Own) : Calls Tryz.prog 47 #[.pointer (some ⟨bb, 0, none⟩)] w (BkHiPost b bb gr low vs Own w) := by
  have hl : 0 < b.I.length := by cases hI : b.I with | nil => exact absurd hI hne | cons x l => simp
  have hz : ((b.I.length : Int) == 0) = false := by simp; omega
  have hK := hb.kpos
  have hbase := hb.base
  go_enter Tryz.func47, Tryz.ntmps47
  go_wp2_with fail
  refine (bk_none hb w h).mono ?_
  rintro e w1 ⟨rfl, B1⟩
  have h1 := h.kept B1
  have T1 : Turn (fun k => k = bb) w w1 := Turn.ofBelow B1
  have c6 := h1.at_.c6
  clear h B1
  go_wp2_with fail
  clear c6
  go_loopw [24] (fun _ wr => ∃ top, BkIn wr b bb gr low top vs Own ∧ Turn (fun k => k = bb) w wr) (fun _ wr => bkNum wr bb 8)
  case atStart => exact ⟨top, h1, T1⟩
  case round =>
    obtain ⟨top, hR, TR⟩ := hrel
    clear h1 T1
    have hA := hR.at_
    have c4 := hA.c4
    have c5 := hA.c5
    have c8 := hA.c8
    have htl := hR.top_lt
    obtain ⟨a, c, hv, cr⟩ := hR.row htl
    have hm := Lib.hid (bkNum_of c8)
    have q4 := KeptW.cell c4
    have q5 := KeptW.cell c5
    have q8 := KeptW.cell c8
    have qr := KeptW.cell cr
    have t0 : (top : Int) < (b.K : Int) := by omega
    by_cases hrow : b.row top = []
    · have hall := Bk.row_nil.1 hrow
      obtain ⟨x, hx⟩ := List.exists_mem_of_ne_nil _ hne
      have hpos : top ≠ 0 := fun h0 => by
        have h1 := (hR.rng x hx).2
        have h2 := hall x hx
        omega
      obtain ⟨t, rfl⟩ : ∃ t, top = t + 1 := ⟨top - 1, by omega⟩
      have hrg : ∀ y ∈ b.I, b.ix y.2 ≤ t := fun y hy => by
        have h1 := (hR.rng y hy).2
        have h2 := hall y hy
        omega
      have hlen : (b.row (t + 1)).length = 0 := by rw [hrow]; rfl
      rw [hlen] at qr
      have htt : (t : Int) < (b.K : Int) := by omega
      have ht1 : (t : Int) + 1 < (b.K : Int) := by omega
      have HRG := Lib.hid hrg
      clear hrow hall hx hpos hrg hlen cr c4 c5 c8 hv hA
      go_upto_region 3 with fail
      refine wp_region_kept (by kernel_rfl) (by kernel_rfl) ?_
      repeat first
        | go_big_quiet_step (fail)
      refine wpQuiet_nil ?_
      intro w2 B2
      have h2 := hR.kept B2
      have e8 := h2.at_.c8
      have f8 := h2.box.box.frozen 8
      have h3 := h2.top (t := t) (by omega) HRG.out
      have T3 : Turn (fun k => k = bb) w (w2.setCell ⟨bb, 8, none⟩ (.int .i64 (t : Int))) := (TR.trans (Turn.ofBelow B2)).trans (Turn.setCell _ _ _ rfl)
      have hm3 := Lib.hid (bkNum_of h3.at_.c8)
      clear q4 q5 q8 qr t0 htt ht1
      go_wp2
      go_roundw
      case measure => have := hm.out; have := hm3.out; show bkNum _ bb 8 < bkNum _ bb 8; simp at *; omega
      case rel => exact ⟨t, h3, T3⟩
    · have hlen : (((b.row top).length : Int) == 0) = false := by
        have : (b.row top).length ≠ 0 := fun h => hrow (List.length_eq_zero_iff.1 h)
        simp; exact hrow
      have hex : ∃ x ∈ b.I, b.ix x.2 = top := by
        by_cases h : ∃ x ∈ b.I, b.ix x.2 = top
        · exact h
        · exact absurd (Bk.row_nil.2 fun x hx he => h ⟨x, hx, he⟩) hrow
      have hsum1 : -200000000 ≤ (top : Int) + b.base := by omega
      have hsum2 : (top : Int) + b.base ≤ 200000000 := by omega
      have HEX := Lib.hid hex
      clear hrow hex cr c4 c5 c8 hv hA
      go_upto_region 3 with fail
      refine wp_region_kept (by kernel_rfl) (by kernel_rfl) ?_
      repeat first
        | go_big_quiet_step (fail)
      refine wpQuiet_nil ?_
      intro w2 B2
      go_upto_region 5 with fail
      have h2 := hR.kept B2
      have hw : IntKind.i64.wrap ((top : Int) + b.base) = (top : Int) + b.base := IntWalk.i64_in _ (by omega)
      clear q4 q5 q8 qr t0
      (refine wp_region_treeE (.pure 0 (.pure 1 (.pure 2 (.pure 3 (.pure 4 (.pure 5 (.pure 6 (.pure 7 (.pure 8 (.pure 9 (.pure 10 .nil))))))))))) (by kernel_rfl) (by kernel_rfl) ?_; simp only [List.getD_cons_zero, List.getD_cons_succ, wpOTE])
      intro w3 B3
      have h3 := h2.kept B3
      iterate 11
        refine ⟨rfl, _, fun W hW => by have c4 := (h3.kept hW).at_.c4; have c8 := (h3.kept hW).at_.c8; go_simp; first | done | rfl, ?_⟩
        try simp only [put_list, List.set_cons_zero, List.set_cons_succ]
      go_wp2
      go_ret2
      exact (show BkHiPost _ _ _ _ _ _ _ _ _ from ⟨top, rfl, h3, HEX.out, TR.trans ((Turn.ofBelow B2).trans (Turn.ofBelow B3))⟩)
def BkLoPost (b : Bk) (bb gr top : Nat) (vs : List Value) (Own : Nat → Prop) (w : World) (e : Ending) (w' : World) : Prop :=
  ∃ low : Nat, e = .returned (.tuple #[.int .i64 ((low : Int) + b.base), .bool true]) ∧ BkIn w' b bb gr low top vs Own ∧ (∃ x ∈ b.I, b.ix x.2 = low) ∧ Turn (fun k => k = bb) w w'
set_option maxRecDepth 5000 in
set_option maxHeartbeats 1000000 in
theorem bk_Lowest {b : Bk} (hb : b.Ok) {bb gr low top : Nat} {vs : List Value} {Own : Nat → Prop} (hne : b.I ≠ []) (w : World) (h : BkIn w b bb gr low top vs Own) : Calls Tryz.prog 64 #[.pointer (some ⟨bb, 0, none⟩)] w (BkLoPost b bb gr top vs Own w) := by
  have hl : 0 < b.I.length := by cases hI : b.I with | nil => exact absurd hI hne | cons x l => simp
  have hz : ((b.I.length : Int) == 0) = false := by simp; omega
  have hK := hb.kpos
  have hbase := hb.base
  go_enter Tryz.func64, Tryz.ntmps64
  go_wp2_with fail
  refine (bk_none hb w h).mono ?_
  rintro e w1 ⟨rfl, B1⟩
  have h1 := h.kept B1
  have T1 : Turn (fun k => k = bb) w w1 := Turn.ofBelow B1
  have c6 := h1.at_.c6
  clear h B1
  go_wp2_with fail
  clear c6
  go_loopw [24] (fun _ wr => ∃ low, BkIn wr b bb gr low top vs Own ∧ Turn (fun k => k = bb) w wr) (fun _ wr => b.K - bkNum wr bb 7)
  case atStart => exact ⟨low, h1, T1⟩
  case round =>
    obtain ⟨low, hR, TR⟩ := hrel
    clear h1 T1
    have hA := hR.at_
    have c4 := hA.c4
    have c5 := hA.c5
    have c7 := hA.c7
    have htl := hR.low_lt
    obtain ⟨a, c, hv, cr⟩ := hR.row htl
    have hm := Lib.hid (bkNum_of c7)
    have q4 := KeptW.cell c4
    have q5 := KeptW.cell c5
    have q7 := KeptW.cell c7
    have qr := KeptW.cell cr
    have t0 : (low : Int) < (b.K : Int) := by omega
    by_cases hrow : b.row low = []
    · have hall := Bk.row_nil.1 hrow
      obtain ⟨x, hx⟩ := List.exists_mem_of_ne_nil _ hne
      have hpos : low + 1 < b.K := by
        have h1 := (hR.rng x hx).1
        have h2 := hall x hx
        have h3 := hb.ix (hb.ms x hx).1 (hb.ms x hx).2
        omega
      have hrg : ∀ y ∈ b.I, low + 1 ≤ b.ix y.2 := fun y hy => by
        have h1 := (hR.rng y hy).1
        have h2 := hall y hy
        omega
      have hlen : (b.row low).length = 0 := by rw [hrow]; rfl
      rw [hlen] at qr
      have ht1 : (low : Int) + 1 < (b.K : Int) := by omega
      have HRG := Lib.hid hrg
      clear hrow hall hx hrg hlen cr c4 c5 c7 hv hA
      go_upto_region 3 with fail
      refine wp_region_kept (by kernel_rfl) (by kernel_rfl) ?_
      repeat first
        | go_big_quiet_step (fail)
      refine wpQuiet_nil ?_
      intro w2 B2
      have h2 := hR.kept B2
      have e7 := h2.at_.c7
      have f7 := h2.box.box.frozen 7
      have h3 := h2.low (t := low + 1) hpos HRG.out
      have T3 : Turn (fun k => k = bb) w (w2.setCell ⟨bb, 7, none⟩ (.int .i64 ((low + 1 : Nat) : Int))) := (TR.trans (Turn.ofBelow B2)).trans (Turn.setCell _ _ _ rfl)
      have hm3 := Lib.hid (bkNum_of h3.at_.c7)
      clear q4 q5 q7 qr
      go_wp2
      go_roundw
      case measure => have := hm.out; have := hm3.out; show b.K - bkNum _ bb 7 < b.K - bkNum _ bb 7; simp at *; omega
      case rel => exact ⟨low + 1, h3, T3⟩
    · have hlen : (((b.row low).length : Int) == 0) = false := by
        have : (b.row low).length ≠ 0 := fun h => hrow (List.length_eq_zero_iff.1 h)
        simp; exact hrow
      have hex : ∃ x ∈ b.I, b.ix x.2 = low := by
        by_cases h : ∃ x ∈ b.I, b.ix x.2 = low
        · exact h
        · exact absurd (Bk.row_nil.2 fun x hx he => h ⟨x, hx, he⟩) hrow
      have hsum1 : -200000000 ≤ (low : Int) + b.base := by omega
      have hsum2 : (low : Int) + b.base ≤ 200000000 := by omega
      have HEX := Lib.hid hex
      clear hrow hex cr c4 c5 c7 hv hA
      go_upto_region 3 with fail
      refine wp_region_kept (by kernel_rfl) (by kernel_rfl) ?_
      repeat first
        | go_big_quiet_step (fail)
      refine wpQuiet_nil ?_
      intro w2 B2
      go_upto_region 5 with fail
      have h2 := hR.kept B2
      have hw : IntKind.i64.wrap ((low : Int) + b.base) = (low : Int) + b.base := IntWalk.i64_in _ (by omega)
      clear q4 q5 q7 qr t0
      (refine wp_region_treeE (.pure 0 (.pure 1 (.pure 2 (.pure 3 (.pure 4 (.pure 5 (.pure 6 (.pure 7 (.pure 8 (.pure 9 (.pure 10 .nil))))))))))) (by kernel_rfl) (by kernel_rfl) ?_; simp only [List.getD_cons_zero, List.getD_cons_succ, wpOTE])
      intro w3 B3
      have h3 := h2.kept B3
      iterate 11
        refine ⟨rfl, _, fun W hW => by have c4 := (h3.kept hW).at_.c4; have c7 := (h3.kept hW).at_.c7; go_simp; first | done | rfl, ?_⟩
        try simp only [put_list, List.set_cons_zero, List.set_cons_succ]
      go_wp2
      go_ret2
      exact (show BkLoPost _ _ _ _ _ _ _ _ _ from ⟨low, rfl, h3, HEX.out, TR.trans ((Turn.ofBelow B2).trans (Turn.ofBelow B3))⟩)
end Go.Proofs.YtnjmplapjnnjdaaGreat
