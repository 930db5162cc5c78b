import Derived.Test.YtkjnmjilkhigaaaCount
import Derived.Test.YtkjnmjilkhigaaaTreeI
set_option linter.unusedSimpArgs false
set_option linter.unusedVariables false
set_option linter.unnecessarySimpa false
/- Arguments opened: a row of integers, a hunt (a problem, a number, a row of integers, a row of bytes). -/
namespace Go.Proofs.Ytkjnmjilkhigaaa
open Go.RowKit Go.ChangeShapes Go.WideShapes Go.ChangeAt

/-- A row of integers. -/
def Nums (w : World) (a : Option Addr) (l : List Int) : Prop := (∀ (k : Nat) (x : Int), l[k]? = some x → ∃ b o, a = some ⟨b, o, none⟩ ∧ w.cell? ⟨b, o + k, none⟩ = some (.int .i64 x)) ∧ ∀ x ∈ l, -9223372036854775808 ≤ x ∧ x ≤ 9223372036854775807
theorem Nums.kept {w w' : World} {a : Option Addr} {l : List Int} (h : Nums w a l) (hB : Below w.heap.size w w') : Nums w' a l :=
  ⟨fun k x hk => by
    obtain ⟨b, o, ha, hc⟩ := h.1 k x hk
    exact ⟨b, o, ha, KeptW.cell hc ⟨w', hB⟩⟩, h.2⟩
section
variable {H : Type} {enc : TypeId × Value → H} {P : Program} {w : World} {base : Nat} {sp : Nat → Bool} {held : Bool}
/-- A row of integers that came in. -/
theorem open_nums {t e : TypeId} {fuel : Nat} {cs : List Value} {x : DataW H × List MemPlace} (ht : P.underlying t = some (.slice e)) (he : P.underlying e = some (.int .i64)) (hc : P.cellsOf e = 1)
    (h : DataW.trod enc P w base sp held fuel t cs = some x) : ∃ (a : Option Addr) (cap : Nat) (l : List Int), cs = [.slice a l.length cap] ∧ Nums w a l ∧ (l.length : Int) ≤ 9223372036854775807 ∧ (l = [] ∨ ∃ el sp, x.1 = .slice el sp ∧ el.length + sp.length ≥ l.length) := by
  rcases open_ints ht he hc h with ⟨rfl, _⟩ | ⟨a, len, cap, zs, rfl, _, hl, hm, hz, hx, hcell, hwf⟩
  · exact ⟨none, 0, [], rfl, ⟨fun k x hk => by simp at hk, by simp⟩, by simp, .inl rfl⟩
  · have hlz : len ≤ zs.length := by rw [hz]; split <;> omega
    have hlen : (zs.take len).length = len := by simp; omega
    refine ⟨some a, cap, zs.take len, by rw [hlen], ⟨fun k x hk => ?_, fun x hx => bd_i64 (hwf x (List.mem_of_mem_take hx))⟩, by rw [hlen]; unfold maxLen at hm; omega, .inr ⟨_, _, by rw [hx], by rw [hlen]; simp [lits]; omega⟩⟩
    obtain ⟨hk1, hk3⟩ := List.getElem?_eq_some_iff.1 hk
    rw [hlen] at hk1
    obtain ⟨b, off, spot⟩ := a
    have hk2 : k < zs.length := by omega
    have hcl := hcell k hk2
    have hspot : spot = none := by simpa [Addr.add] using World.cell?_spot (hcell 0 (by omega))
    subst hspot
    refine ⟨b, off, rfl, ?_⟩
    have hadd : (⟨b, off, none⟩ : Addr).add k = ⟨b, off + k, none⟩ := by unfold Addr.add; split <;> simp_all
    rw [hadd] at hcl
    rw [hcl, ← hk3]
    simp [List.getElem?_eq_getElem hk2]
end

/-- A hunt. -/
structure Hu where
  p : Pb
  D : Int
  bs : List Int
  path : List Nat
def Hu.cells (h : Hu) (vw vb vp : Value) : Array Value := h.p.cells vw ++ #[.int .i64 h.D, vb, vp]
structure Hu.Ok (h : Hu) : Prop where
  p : h.p.Ok
  d0 : -9223372036854775808 ≤ h.D
  d1 : h.D ≤ 9223372036854775807
  bl : (h.bs.length : Int) ≤ 9223372036854775807
  pl : (h.path.length : Int) ≤ 9223372036854775807
/-- What a hunt's rows are. -/
structure Hu.At (h : Hu) (w : World) (a ab ap : Option Addr) : Prop where
  win : Bytes w a h.p.B
  bud : Nums w ab h.bs
  path : Bytes w ap h.path
theorem Hu.At.kept {h : Hu} {w w' : World} {a ab ap : Option Addr} (x : h.At w a ab ap) (hB : Below w.heap.size w w') : h.At w' a ab ap := ⟨x.win.kept hB, x.bud.kept hB, x.path.kept hB⟩
def Hu.v (h : Hu) (a ab ap : Option Addr) (c cb cp : Nat) : Array Value := h.cells (.slice a h.p.B.length c) (.slice ab h.bs.length cb) (.slice ap h.path.length cp)
def hunt0 : Array Value := (Hu.mk ⟨⟨0, 0, 0, 0, 0⟩, ⟨0, List.replicate 32 0⟩, 0, []⟩ 0 [] []).v none none none 0 0 0
theorem parts43 {α : Type} {cs : List α} (h : cs.length = 43) : cs = (cs.drop 0).take 40 ++ ((cs.drop 40).take 1 ++ ((cs.drop 41).take 1 ++ (cs.drop 42).take 1)) := by
  have h1 : (cs.drop 41).take 1 ++ (cs.drop 42).take 1 = cs.drop 41 := by
    rw [List.take_of_length_le (l := cs.drop 42) (by simp; omega)]
    have := List.take_append_drop 1 (cs.drop 41)
    rwa [List.drop_drop] at this
  have h2 : (cs.drop 40).take 1 ++ cs.drop 41 = cs.drop 40 := by
    have := List.take_append_drop 1 (cs.drop 40)
    rwa [List.drop_drop] at this
  rw [h1, h2, List.drop_zero, List.take_append_drop]
section
variable {H : Type} {enc : TypeId × Value → H} {w : World} {base : Nat} {sp : Nat → Bool} {held : Bool}
set_option maxRecDepth 5000 in
theorem open_huntL {fuel : Nat} {cs : List Value} {x : DataW H × List MemPlace} (h : DataW.trod enc Try.prog w base sp held fuel 48 cs = some x) :
    ∃ (u : Hu) (a ab ap : Option Addr) (c cb cp : Nat), u.Ok ∧ u.At w a ab ap ∧ cs = (u.v a ab ap c cb cp).toList ∧ ((∀ n ∈ x.1.weights Try.prog 48, n ≤ reachBytes) → u.p.B.length ≤ 140737488351232) := by
  obtain ⟨xs, n, rfl, hx, hl, hxs, hall⟩ := DataW.trod_struct Try.underlying48 h
  have h43 : cs.length = 43 := hl.trans (by kernel_rfl)
  have f0 : DataW.trod enc Try.prog w base sp held n 32 ((cs.drop 0).take (Try.prog.cellsOf 32)) = xs[0]? := hall 0 _ rfl
  have f1 : DataW.trod enc Try.prog w base sp held n 3 ((cs.drop 40).take (Try.prog.cellsOf 3)) = xs[1]? := hall 1 _ rfl
  have f2 : DataW.trod enc Try.prog w base sp held n 46 ((cs.drop 41).take (Try.prog.cellsOf 46)) = xs[2]? := hall 2 _ rfl
  have f3 : DataW.trod enc Try.prog w base sp held n 30 ((cs.drop 42).take (Try.prog.cellsOf 30)) = xs[3]? := hall 3 _ rfl
  obtain ⟨y0, e0⟩ := get_some (i := 0) hxs (by decide)
  obtain ⟨y1, e1⟩ := get_some (i := 1) hxs (by decide)
  obtain ⟨y2, e2⟩ := get_some (i := 2) hxs (by decide)
  obtain ⟨y3, e3⟩ := get_some (i := 3) hxs (by decide)
  rw [e0] at f0
  rw [e1] at f1
  rw [e2] at f2
  rw [e3] at f3
  rw [show Try.prog.cellsOf 32 = 40 by kernel_rfl] at f0
  rw [show Try.prog.cellsOf 3 = 1 by kernel_rfl] at f1
  rw [show Try.prog.cellsOf 46 = 1 by kernel_rfl] at f2
  rw [show Try.prog.cellsOf 30 = 1 by kernel_rfl] at f3
  obtain ⟨p, a, c, hp, hb, g0, hz⟩ := open_problemL f0
  obtain ⟨D, g1, _, w1⟩ := DataW.trod_int Try.underlying3 f1
  obtain ⟨ab, cb, bs, g2, hbs, hbl, _⟩ := open_nums Try.underlying46 Try.underlying3 (by kernel_rfl) f2
  obtain ⟨ap, cp, pl, g3, hpl, hpll, _⟩ := open_bytes Try.underlying30 Try.underlying5 (by kernel_rfl) f3
  have k1 := bd_i64 w1
  refine ⟨⟨p, D, bs, pl⟩, a, ab, ap, c, cb, cp, ⟨hp, k1.1, k1.2, hbl, hpll⟩, ⟨hb, hbs, hpl⟩, ?_, fun hw => hz fun m hm => hw m ?_⟩
  · rw [parts43 h43, g0, g1, g2, g3]
    simp [Hu.v, Hu.cells]
  · rw [hx]
    simp only [DataW.weights, Try.underlying48]
    exact DataW.weights_mem_each (j := 0) (t := 32) (d := y0.1) rfl (by rw [List.getElem?_map, e0]; rfl) _ hm
set_option maxRecDepth 5000 in
/-- A hunt that came in. -/
theorem open_hunt {r : Reach} {b0 : Nat} {v : Value} {d : DataW H} {ps : List MemPlace}
    (hval : Value.okWide Try.prog w r b0 48 v) (hd : DataW.Trod enc Try.prog w base sp held 48 v d ps) :
    ∃ (u : Hu) (a ab ap : Option Addr) (c cb cp : Nat), u.Ok ∧ u.At w a ab ap ∧ v = .agg (u.v a ab ap c cb cp) ∧ ((∀ n ∈ d.weights Try.prog 48, n ≤ reachBytes) → u.p.B.length ≤ 140737488351232) := by
  obtain ⟨cs, rfl, hsz⟩ := okWide_struct Try.underlying48 hval
  obtain ⟨fuel, hf⟩ := hd
  obtain ⟨u, a, ab, ap, c, cb, cp, hu, hat, he, hz⟩ := open_huntL hf
  exact ⟨u, a, ab, ap, c, cb, cp, hu, hat, by rw [show cs = u.v a ab ap c cb cp from Array.ext' he], hz⟩
end
end Go.Proofs.Ytkjnmjilkhigaaa

/- Orders as a tree, whose pure steps hold in each world that keeps what lay at their base. No program's text is named here. -/
namespace Go.Proofs.Ytkjnmjilkhigaaa
open Go.RowKit

section
variable {P : Program} {ops : Array Oper} {md : Region.Mode} {Q : Exit → Act → World → Prop} {b : World}
def wpAnyE (P : Program) (md : Region.Mode) (ops : Array Oper) (b : World) (Q : Exit → Act → World → Prop) : Nat → Array Bool → Act → World → Prop
  | 0, d, a, w => Ext b w ∧ Region.ready md ops d = [] ∧ Q .normal a w
  | f + 1, d, a, w => Ext b w ∧ (Region.ready md ops d = [] → Q .normal a w) ∧ ∀ i ∈ Region.ready md ops d, wpOp P ops Q i (wpAnyE P md ops b Q f (d.setIfInBounds i true)) a w
theorem wpAny_of_E : ∀ (f : Nat) (d : Array Bool) (a : Act) (w : World), wpAnyE P md ops b Q f d a w → wpAny P md ops Q f d a w
  | 0, _, _, _, h => h.2
  | f + 1, _, _, _, h => ⟨h.2.1, fun i hi => wpOp_mono (fun a w h' => wpAny_of_E f _ a w h') (h.2.2 i hi)⟩
theorem wpAnyE_ext {f : Nat} {d : Array Bool} {a : Act} {w : World} (h : wpAnyE P md ops b Q f d a w) : Ext b w := by
  cases f with
  | zero => exact h.1
  | succ f => exact h.1
theorem wpAnyE_base {b' : World} (hb : Ext b' b) : ∀ (f : Nat) (d : Array Bool) (a : Act) (w : World), wpAnyE P md ops b Q f d a w → wpAnyE P md ops b' Q f d a w
  | 0, _, _, _, h => ⟨hb.trans (h.1.mono hb.size), h.2⟩
  | f + 1, _, _, _, h => ⟨hb.trans (h.1.mono hb.size), h.2.1, fun i hi => wpOp_mono (fun a w h' => wpAnyE_base hb f _ a w h') (h.2.2 i hi)⟩
theorem wpOp_putW {j : Nat} {oi oj : Oper} {v : Value} {K : Act → World → Prop} {a : Act} {w : World} (hj : ops[j]? = some oj) (hsel : ∀ cs b, oj.op ≠ .select cs b) (hselI : ∀ cs b, oi.op ≠ .select cs b) (hap : oi.apart ops oj = true)
    (hQ : ∀ e a w, Q e a w → e = .normal) (h : wpOp P ops Q j K (a.put oi.dst v) w) : wpOp P ops Q j (fun a' w' => execOp a'.eval oi = execOp a.eval oi ∧ Region.wanted oi (yielded ops a'.tmps) = Region.wanted oi (yielded ops a.tmps) ∧ K (a'.put oi.dst v) w') a w := by
  obtain ⟨p1, p2, p3⟩ := Oper.apart_spec hap
  have c1 : execOp (a.put oi.dst v).eval oj = execOp a.eval oj := execOp_put oj hsel a oi.dst v p1
  have c2 : Region.wanted oj (yielded ops (a.put oi.dst v).tmps) = Region.wanted oj (yielded ops a.tmps) := wanted_put oj a oi.dst v p1
  have lets : ¬LetsOut Q := fun ⟨a, w, h⟩ => by cases hQ _ _ _ h
  have key : ∀ u w', K ((a.put oi.dst v).put oj.dst u) w' → execOp (a.put oj.dst u).eval oi = execOp a.eval oi ∧ Region.wanted oi (yielded ops (a.put oj.dst u).tmps) = Region.wanted oi (yielded ops a.tmps) ∧ K ((a.put oj.dst u).put oi.dst v) w' := fun u w' hk =>
    ⟨execOp_put oi hselI a oj.dst u p3, wanted_put oi a oj.dst u p3, by rw [← Act.put_comm a v u p2]; exact hk⟩
  unfold wpOp at *
  rw [hj] at h ⊢
  simp only at h ⊢
  rw [c2] at h
  split
  · rename_i hw
    rw [if_pos hw] at h
    rcases h with h | h
    · refine .inl ?_
      unfold Oper.wp at h ⊢
      rw [c1] at h
      generalize (execOp a.eval oj).run P w = r at h ⊢
      cases r with
      | ok n w' =>
        cases n <;> simp only [Oper.upon] at h ⊢
        case value u => exact key _ _ h
        case skip => exact key _ _ h
        case defer df =>
          refine ⟨execOp_put oi hselI ({ a with defers := df :: a.defers } : Act) oj.dst undef p3, wanted_put oi ({ a with defers := df :: a.defers } : Act) oj.dst undef p3, ?_⟩
          rw [Act.put_defers] at h
          rw [← Act.put_comm _ v undef p2]
          exact h
        case enter f args =>
          exact Calls.mono h fun e w'' he => by
            cases e with
            | returned u => exact key _ _ he
            | panicked c => cases hQ _ _ _ he
            | outgrown => exact he
        case row rw_ args => exact Rows.mono h fun u w'' he => key _ _ he
        all_goals exact h
      | halt y w' =>
        cases y <;> simp only [Oper.upon] at h ⊢
        case panic c => cases hQ _ _ _ h
        all_goals exact h
    · exact absurd h.2 lets
  · rename_i hw
    rw [if_neg hw] at h
    exact key _ _ h
theorem wpAnyE_pure {i : Nat} {oi : Oper} {v : Value} (h0 : ops[i]? = some oi) (hsel : Region.noSelect ops = true) (hQ : ∀ e a w, Q e a w → e = .normal) : ∀ (f : Nat) (listed : Array Bool) (a : Act) (w : World),
    (∀ j oj, ops[j]? = some oj → j ≠ i → listed.getD j true = false → (∀ e ∈ oj.after, Region.binds md e = true → e.on ≠ i) → oi.apart ops oj = true) → i ∈ Region.ready md ops listed →
    Region.wanted oi (yielded ops a.tmps) = true → (∀ w, Ext b w → (execOp a.eval oi).run P w = .ok (.value v) w) → Ext b w → wpAnyE P md ops b Q f (listed.setIfInBounds i true) (a.put oi.dst v) w → wpAnyE P md ops b Q (f + 1) listed a w := by
  have op0 : ∀ (K : Act → World → Prop) (a : Act) (w : World), Region.wanted oi (yielded ops a.tmps) = true → Ext b w → (∀ w, Ext b w → (execOp a.eval oi).run P w = .ok (.value v) w) → K (a.put oi.dst v) w → wpOp P ops Q i K a w := fun K a w hwt hw hv hK => by
    unfold wpOp
    rw [h0]
    simp only
    rw [if_pos hwt]
    refine .inl ?_
    unfold Oper.wp
    rw [hv w hw]
    exact hK
  intro f
  induction f with
  | zero =>
    intro listed a w _ hr hwt hv hw H
    refine ⟨hw, fun hh => (by rw [hh] at hr; cases hr), fun j hj => ?_⟩
    by_cases hj0 : j = i
    · subst hj0; exact op0 _ _ _ hwt hw hv H
    · have := ready_mono hj hj0
      rw [H.2.1] at this
      cases this
  | succ f ih =>
    intro listed a w hfree hr hwt hv hw H
    refine ⟨hw, fun hh => (by rw [hh] at hr; cases hr), fun j hj => ?_⟩
    by_cases hj0 : j = i
    · subst hj0; exact op0 _ _ _ hwt hw hv H
    obtain ⟨hjun, oj, hoj, hall⟩ := mem_ready.1 hj
    have hnot : ∀ e ∈ oj.after, Region.binds md e = true → e.on ≠ i := fun e he hb heq => by
      have h1 := hall e he hb
      have h2 := (mem_ready.1 hr).1
      rw [heq, getD_both h2] at h1
      cases h1
    have hap := hfree j oj hoj hj0 hjun hnot
    have step := wpOp_putW hoj (Region.noSelect_spec hsel j oj · · hoj) (Region.noSelect_spec hsel i oi · · h0) hap hQ (H.2.2 j (ready_mono hj hj0))
    refine wpOp_mono (fun a' w' ⟨e1, e2, hk⟩ => ?_) step
    refine ih (listed.setIfInBounds j true) a' w' (fun k ok hk2 hk0 hun hno => ?_) (ready_mono hr (Ne.symm hj0)) (e2.trans hwt) (fun w hh => by rw [e1]; exact hv w hh) (wpAnyE_ext hk) ?_
    · refine hfree k ok hk2 hk0 ?_ hno
      by_cases hjk : j = k
      · subst hjk; exact hjun
      · rwa [getD_set_ne true hjk] at hun
    · rw [Array.setIfInBounds_comm _ _ hj0]
      exact hk
def wpOTE (P : Program) (ops : Array Oper) (Q : Exit → Act → World → Prop) (l : List Oper) : OT → Act → World → Prop
  | .nil, a, w => Q .normal a w
  | .pure i t, a, w => Region.wanted (l.getD i default) (yielded ops a.tmps) = true ∧ ∃ v, (∀ W, Ext w W → (execOp a.eval (l.getD i default)).run P W = .ok (.value v) W) ∧ wpOTE P ops Q l t (a.put (l.getD i default).dst v) w
  | .one i t, a, w => wpList P ops (fun e a w' => e = .normal ∧ Ext w w' ∧ wpOTE P ops Q l t a w') [l.getD i default] a w
  | .two i t j u, a, w => wpList P ops (fun e a w' => e = .normal ∧ Ext w w' ∧ wpOTE P ops Q l t a w') [l.getD i default] a w ∧ wpList P ops (fun e a w' => e = .normal ∧ Ext w w' ∧ wpOTE P ops Q l u a w') [l.getD j default] a w
def otE (md : Region.Mode) (ops : Array Oper) : OT → Array Bool → Bool
  | .nil, d => (Region.ready md ops d).isEmpty
  | .pure i t, d => (Region.ready md ops d).contains i && (Region.free md ops d i && otE md ops t (d.setIfInBounds i true))
  | .one i t, d => (Region.ready md ops d == [i]) && otE md ops t (d.setIfInBounds i true)
  | .two i t j u, d => (Region.ready md ops d == [i, j]) && (otE md ops t (d.setIfInBounds i true) && (otE md ops u (d.setIfInBounds j true) && decide (t.len = u.len)))
theorem wpAnyE_of_tree {l : List Oper} (hl : ∀ i : Nat, ops[i]? = l[i]?) (hsel : Region.noSelect ops = true) : ∀ (t : OT) (d : Array Bool) (a : Act) (w : World), otE md ops t d = true → wpOTE P ops Q l t a w → wpAnyE P md ops w (OnlyNormal Q) t.len d a w
  | .nil, d, a, w, hB, h => ⟨Below.refl _ _, by simpa [otE] using hB, rfl, h⟩
  | .one i t, d, a, w, hB, h => by
    simp only [otE, Bool.and_eq_true, beq_iff_eq] at hB
    obtain ⟨h1, h2⟩ := hB
    refine ⟨Below.refl _ _, fun hh => (by rw [hh] at h1; cases h1), fun j hj => ?_⟩
    rw [h1] at hj
    obtain rfl := List.mem_singleton.1 hj
    have hr : j ∈ Region.ready md ops d := by rw [h1]; simp
    obtain ⟨hun, o, ho, _⟩ := mem_ready.1 hr
    have ho' : l.getD j default = o := by rw [hl j] at ho; rw [List.getD_eq_getElem?_getD, ho]; rfl
    unfold wpOTE at h
    rw [ho'] at h
    exact wpOp_of_list ho (fun a w' hh => wpAnyE_base hh.1 _ _ _ _ (wpAnyE_of_tree hl hsel t _ a w' h2 hh.2)) h
  | .two i t j u, d, a, w, hB, h => by
    simp only [otE, Bool.and_eq_true, beq_iff_eq, decide_eq_true_eq] at hB
    obtain ⟨h1, h2, h3, h4⟩ := hB
    unfold wpOTE at h
    refine ⟨Below.refl _ _, fun hh => (by rw [hh] at h1; cases h1), fun k hk => ?_⟩
    have hr : k ∈ Region.ready md ops d := hk
    obtain ⟨hun, o, ho, _⟩ := mem_ready.1 hr
    have ho' : l.getD k default = o := by rw [hl k] at ho; rw [List.getD_eq_getElem?_getD, ho]; rfl
    rw [h1] at hk
    rcases List.mem_cons.1 hk with rfl | hk
    · rw [ho'] at h
      exact wpOp_of_list ho (fun a w' hh => wpAnyE_base hh.1 _ _ _ _ (wpAnyE_of_tree hl hsel t _ a w' h2 hh.2)) h.1
    · obtain rfl := List.mem_singleton.1 hk
      rw [ho'] at h
      exact wpOp_of_list ho (fun a w' hh => by have := wpAnyE_base hh.1 _ _ _ _ (wpAnyE_of_tree hl hsel u _ a w' h3 hh.2); rwa [← h4] at this) h.2
  | .pure i t, d, a, w, hB, h => by
    simp only [otE, Bool.and_eq_true] at hB
    obtain ⟨h1, h2, h7⟩ := hB
    have hr : i ∈ Region.ready md ops d := by simpa using h1
    obtain ⟨hun, o, ho, _⟩ := mem_ready.1 hr
    have ho' : l.getD i default = o := by rw [hl i] at ho; rw [List.getD_eq_getElem?_getD, ho]; rfl
    unfold wpOTE at h
    rw [ho'] at h
    obtain ⟨hwt, v, hv, hn⟩ := h
    exact wpAnyE_pure ho hsel (fun _ _ _ h => h.1) t.len d a w (Region.free_spec ho h2) hr hwt hv (Below.refl _ _) (wpAnyE_of_tree hl hsel t _ _ _ h7 hn)
/-- THE LAW. -/
theorem wp_region_treeE {id : Nat} {a : Act} {w : World} {l : List Oper} (t : OT) (hm : P.follows .mixedOrders = true) (hB : (Region.noSelect l.toArray && (otE .any l.toArray t (Array.replicate l.toArray.size false) && decide (t.len = l.toArray.size))) = true)
    (h : ∀ w1, Ext w w1 → wpOTE P l.toArray Q l t a w1) : (Code.region id l.toArray true).wp P Q a w := by
  simp only [Bool.and_eq_true, decide_eq_true_eq] at hB
  obtain ⟨hsel, hord, hsz⟩ := hB
  refine wp_region_any hm ?_
  refine wpAny_Q (Q := OnlyNormal Q) (fun _ _ _ h => h.2) _ _ _ _ ?_
  have := wpAnyE_of_tree (P := P) (md := .any) (Q := Q) (l := l) (fun i => by simp) hsel t _ a _ hord (h _ (Below.refl _ w).drew)
  rw [hsz] at this
  exact wpAny_of_E _ _ _ _ this
/-- A call, by its contract, where it is the only operation of its list. -/
theorem one_call {l : List Value} {ds : List Deferred} {w : World} {x : Operand} {xs : List Operand} {ts : Array TypeId} {d : Nat} {f : FuncId} {cap args : List Value} {ty : TypeId} {ps : String} {af : Array Edge} {gd : Option (Nat × Bool)}
    (hw : Region.wanted ⟨some d, .call { callee := .value x, args := xs.toArray, argTypes := ts }, ty, ps, af, gd⟩ (yielded ops l.toArray) = true)
    (hx : (Act.mk l.toArray ds).eval x = .func (.func f) #[] cap.toArray) (E : EnterF P f) (ha : xs.map (Act.mk l.toArray ds).eval ++ cap = args)
    (hc : Calls P f args.toArray w (fun e w' => ∃ v, e = .returned v ∧ Q .normal ⟨(l.set d v).toArray, ds⟩ w')) :
    wpList P ops Q [⟨some d, .call { callee := .value x, args := xs.toArray, argTypes := ts }, ty, ps, af, gd⟩] ⟨l.toArray, ds⟩ w := by
  have hr : (execOp (Act.mk l.toArray ds).eval ⟨some d, .call { callee := .value x, args := xs.toArray, argTypes := ts }, ty, ps, af, gd⟩).run P w = .ok (.enter f args.toArray) w := by
    have hE := E.out args.toArray w
    rw [← ha] at hE ⊢
    unfold execOp
    simp only [resolve, hx, Deferred.ofValue, Sem.run_bind, Sem.run_pure, Result.andThen_ok, invoke]
    simpa using hE
  refine BigFrame.wpList_want hw fun K hK => ?_
  unfold Oper.wp
  rw [hr]
  refine hc.mono ?_
  rintro e w' ⟨v, rfl, h⟩
  refine hK _ _ ?_
  rw [put_list]
  exact h
end
end Go.Proofs.Ytkjnmjilkhigaaa
