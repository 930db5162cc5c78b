/- Arms for operations in a fence that lets all in, in a round or not. No program's text is named here. -/
import Derived.Test.YtiiljecocajdpaaSeq
namespace Go.Proofs.Ytiiljecocajdpaa
open Go.RowKit Go.Shelf

section
variable {P : Program} {ops : Array Oper} {rest : List Oper} {Q : Exit → Act → World → Prop} {w w' : World} {a : Act} {o : Oper} {F : Fence} {n : Nat}

theorem semAt_exec {r : Option Nat} (ρ : Operand → Value) (hnd : ∀ c, o.op ≠ .defer c) : o.semAt r ρ = execOp ρ o := by
  cases r with
  | none => rfl
  | some l => exact Oper.semAt_some l ρ o hnd
theorem in_value (hF : ∀ f, F.fn f) (hnd : ∀ c, o.op ≠ .defer c) (hw : Region.wanted o (yielded ops a.tmps) = true) {v : Value} (hr : (execOp a.eval o).run P w = .ok (.value v) w') (h : wpListIn F n P ops Q rest (a.put o.dst v) w') : wpListIn F n P ops Q (o :: rest) a w := by
  unfold wpListIn
  rw [if_pos hw]
  refine ⟨fun f _ => hF f, ?_⟩
  rw [semAt_exec _ hnd, hr]
  exact h
theorem in_skip (hF : ∀ f, F.fn f) (hnd : ∀ c, o.op ≠ .defer c) (hw : Region.wanted o (yielded ops a.tmps) = true) (hr : (execOp a.eval o).run P w = .ok .skip w') (h : wpListIn F n P ops Q rest (a.put o.dst undef) w') : wpListIn F n P ops Q (o :: rest) a w := by
  unfold wpListIn
  rw [if_pos hw]
  refine ⟨fun f _ => hF f, ?_⟩
  rw [semAt_exec _ hnd, hr]
  exact h
/-- THE ARM for a load of a whole struct or array. -/
theorem ldIn {l l' : List Value} {ds : List Deferred} {t m b off d : Nat} {x : Operand} {v : Value} {ty : TypeId} {ps : String} {af : Array Edge} (hF : ∀ f, F.fn f)
    (hx : (Act.mk l.toArray ds).eval x = .pointer (some ⟨b, off, none⟩)) [T : AggTy P t m] (hl : loadAgg w b off m = .ok v w) (hs : l.set d v = l') (h : wpListIn F n P ops Q rest ⟨l'.toArray, ds⟩ w) :
    wpListIn F n P ops Q (⟨some d, .load t x, ty, ps, af, none⟩ :: rest) ⟨l.toArray, ds⟩ w := by
  obtain ⟨_, h1, h2, h3⟩ := T.out
  have := run_loadVar_agg (P := P) (w := w) (b := b) (off := off) h1 h2 h3 (by rw [hl]; rfl)
  refine in_value (v := v) (w' := w) hF (fun c h => by cases h) rfl ?_ (by rw [put_list, hs]; exact h)
  unfold execOp
  simp only [hx, Instr.loadAt, Instr.sureAddr, Sem.run_bind, Sem.run_pure, Result.andThen_ok, this, hl]
/-- THE ARM for a store of a whole struct or array into a variable of its own block. -/
theorem stIn {l : List Value} {ds : List Deferred} {t m b : Nat} {x y : Operand} {cs old : Array Value} {ty : TypeId} {ps : String} {af : Array Edge} (hF : ∀ f, F.fn f)
    (hx : (Act.mk l.toArray ds).eval x = .pointer (some ⟨b, 0, none⟩)) [T : AggTy P t m] (hy : (Act.mk l.toArray ds).eval y = .agg cs) (hb : Box w b old) (ho : old.size = m) (hn : cs.size = m) (hf : Flat cs)
    (h : ∀ w', Box w' b cs → Below b w w' → (∀ k, k ≠ b → w'.heap[k]? = w.heap[k]?) → w'.heap.size = w.heap.size → wpListIn F n P ops Q rest ⟨l.toArray, ds⟩ w') : wpListIn F n P ops Q (⟨none, .store t x y, ty, ps, af, none⟩ :: rest) ⟨l.toArray, ds⟩ w := by
  obtain ⟨d, h1, h2, h3⟩ := T.out
  obtain ⟨tb, hb⟩ := hb
  obtain ⟨w', hr, hh, hB, hs, hoth⟩ := run_storeCells_box (P := P) cs.toList 0 w b [] old.toList tb hf (by simpa using hb) rfl (by simp [hn, ho])
  refine in_skip (w' := w') hF (fun c h => by cases h) rfl ?_ (by simpa [Act.put] using h w' ⟨tb, by simpa using hh⟩ hB hoth hs)
  unfold execOp
  cases hq : P.info? t with
  | none => simp [hq] at h3
  | some i =>
    have hsz : i.size = m := by simpa [hq] using h3
    simp only [hx, hy, Instr.storeAt, Instr.sureAddr, Sem.run_bind, Sem.run_pure, Result.andThen_ok, storeVar, sizeOf, typeInfo, program, Sem.run, hq, hsz, Value.cells, hn, ne_eq, not_true_eq_false, if_false, hr]
end
theorem fn_wide : ∀ f, Fence.wide.fn f := fun _ => trivial
theorem fn_round (l : Nat) : ∀ f, (Fence.wide.inRound l).fn f := fun _ => trivial
end Go.Proofs.Ytiiljecocajdpaa
