/- Words that all texts of this seat share: how a problem lies in memory, loads of whole structs and arrays, small laws on worlds. No program's text is named here. -/
import Derived.Test.YtiiljecocajdpaaProg
import Derived.WalkKit
import Derived.WalkSpells
import Derived.WalkLawsBesides
import Derived.BigQuiet
import Derived.Deep.QuietTactic
import Derived.Deep.CutBlock
import Derived.Deep.DeepCutAuto
import Derived.Deep.LoopGhost
import Derived.Lib.Hide
namespace Go.Proofs.Ytiiljecocajdpaa
open Go.RowKit

section
variable {P : Program}

def isAggD : TypeDesc → Bool
  | .struct _ | .array _ _ => true
  | _ => false

/-- What a load of a struct or an array of n cells comes to. -/
def loadAgg (w : World) (b off n : Nat) : Result Value :=
  match w.heap[b]? with
  | some (.cells cs _ _) => if off + n ≤ cs.size then .ok (.agg (cs.extract off (off + n))) w else .halt (.stuck "no such cells") w
  | _ => .halt (.stuck "no such cells") w

theorem loadAgg_block {w : World} {b off n : Nat} {cs : Array Value} {t : TypeId} {fr : Nat × Nat} (hb : w.heap[b]? = some (.cells cs t fr)) (h : off + n ≤ cs.size) :
    loadAgg w b off n = .ok (.agg (cs.extract off (off + n))) w := by simp [loadAgg, hb, h]

theorem run_loadVar_block (w : World) (b off n : Nat) (t ty : TypeId) (cs : Array Value) (fr : Nat × Nat) (d : TypeDesc) (hg : w.heap[b]? = some (.cells cs t fr))
    (hu : P.underlying ty = some d) (hd : isAggD d = true) (hi : (P.info? ty).map (·.size) = some n) (hn : off + n ≤ cs.size) :
    (loadVar ty ⟨b, off, none⟩).run P w = .ok (.agg (cs.extract off (off + n))) w := by
  have hl : (loadCells ⟨b, off, none⟩ n).run P w = .ok (cs.extract off (off + n)) w := by
    have hsz : ((cs.toList.drop off).take n).length = n := by simp; omega
    have := run_loadCells_list (P := P) w ⟨b, off, none⟩ ((cs.toList.drop off).take n) (fun j v hv => by
      have hadd : (⟨b, off, none⟩ : Addr).add j = ⟨b, off + j, none⟩ := by unfold Addr.add; split <;> simp_all
      rw [hadd, cell_of_row w b (off + j) cs t fr hg]
      rw [List.getElem?_take] at hv
      split at hv
      · simpa using hv
      · cases hv)
    rw [hsz] at this
    rw [this]
    congr 1
    apply Array.ext'
    simp [Array.toList_extract, List.extract_eq_take_drop]
  cases hq : P.info? ty with
  | none => simp [hq] at hi
  | some i =>
    have hs : i.size = n := by simpa [hq] using hi
    have hagg : (isAgg ty).run P w = .ok true w := by
      unfold isAgg
      rw [Sem.run_bind, run_underlying hu w]
      cases d <;> simp_all [isAggD]
    simp [loadVar, Sem.run_bind, hagg, sizeOf, typeInfo, hq, hs, hl]

end

/-- Did it come to an end? -/
def okRes : Result Value → Bool
  | .ok _ _ => true
  | _ => false
theorem okRes_ok (v : Value) (w : World) : okRes (.ok v w) = true := rfl

theorem run_loadVar_agg {P : Program} {w : World} {b off n : Nat} {ty : TypeId} {d : TypeDesc} (hu : P.underlying ty = some d) (hd : isAggD d = true)
    (hi : (P.info? ty).map (·.size) = some n) (h : okRes (loadAgg w b off n) = true) : (loadVar ty ⟨b, off, none⟩).run P w = loadAgg w b off n := by
  unfold loadAgg at h ⊢
  split at h
  · rename_i cs t fr hb
    split at h
    · rename_i hn
      rw [run_loadVar_block w b off n t ty cs fr d hb hu hd hi hn, if_pos hn]
    · cases h
  · cases h

/-- A struct's or an array's type of n cells. -/
class AggTy (P : Program) (t : TypeId) (n : outParam Nat) : Prop where
  out : ∃ d, P.underlying t = some d ∧ isAggD d = true ∧ (P.info? t).map (·.size) = some n
theorem AggTy.mk' {P : Program} {t : TypeId} {n : Nat} {d : TypeDesc} (h1 : P.underlying t = some d) (h2 : isAggD d = true) (h3 : (P.info? t).map (·.size) = some n) : AggTy P t n := ⟨d, h1, h2, h3⟩

theorem put_list (l : List Value) (ds : List Deferred) (d : Nat) (v : Value) : (Act.mk l.toArray ds).put (some d) v = ⟨(l.set d v).toArray, ds⟩ := by simp [Act.put]
/-- THE ARM for a load of a whole struct or array: '((with_reducible apply ld); rfl; (with_reducible assumption); lset)', where 'lset' is 'simp only [List.set_cons_zero, List.set_cons_succ]'. -/
theorem ld {P : Program} {ops : Array Oper} {rest : List Oper} {l l' : List Value} {ds : List Deferred} {w : World} {Q : Exit → Act → World → Prop} {t n b off d : Nat} {x : Operand} {v : Value} {ty : TypeId} {ps : String} {af : Array Edge}
    (hx : (Act.mk l.toArray ds).eval x = .pointer (some ⟨b, off, none⟩)) [T : AggTy P t n] (hl : loadAgg w b off n = .ok v w) (hs : l.set d v = l') (h : wpList P ops Q rest ⟨l'.toArray, ds⟩ w) :
    wpList P ops Q (⟨some d, .load t x, ty, ps, af, none⟩ :: rest) ⟨l.toArray, ds⟩ w := by
  obtain ⟨d, h1, h2, h3⟩ := T.out
  refine wpList_plain rfl fun K hK => ?_
  unfold Oper.wp execOp
  have := run_loadVar_agg (P := P) (w := w) (b := b) (off := off) h1 h2 h3 (by rw [hl]; rfl)
  simp only [hx, Instr.loadAt, Instr.sureAddr, Sem.run_bind, Sem.run_pure, Result.andThen_ok, this, hl]
  rw [Oper.upon_value, put_list, hs]
  exact hK _ _ h

/-- A type whose variables are one cell. -/
class CellTy (P : Program) (t : TypeId) : Prop where
  out : ∃ d, P.underlying t = some d ∧ isAggD d = false ∧ (P.info? t).map (·.size) = some 1
theorem CellTy.mk' {P : Program} {t : TypeId} {d : TypeDesc} (h1 : P.underlying t = some d) (h2 : isAggD d = false) (h3 : (P.info? t).map (·.size) = some 1) : CellTy P t := ⟨d, h1, h2, h3⟩
/-- A function whose call enters its body. -/
class EnterF (P : Program) (f : FuncId) : Prop where
  out : ∀ (args : Array Value) (w : World), (callFunc f args).run P w = .ok (.enter f args) w
theorem EnterF.mk' {P : Program} {f : FuncId} {fn : Func} {c : Code} (hf : P.funcs[f]? = some fn) (hname : (fn.name == "runtime.NumGoroutine") = false) (hb : fn.body = some c) : EnterF P f := ⟨fun args w => by
  have hn : ¬ fn.name = "runtime.NumGoroutine" := by simpa using hname
  simp [callFunc, Sem.run_bind, program, Sem.run, hf, hn, hb]⟩

/-- The call hands back v, and leaves all that was there as it was. -/
abbrev Pure (P : Program) (f : FuncId) (args : Array Value) (w : World) (v : Value) : Prop := Calls P f args w fun e w' => e = .returned v ∧ Below w.heap.size w w'
theorem ret_int {k : IntKind} {a b : Int} (h : a = b) : Ending.returned (.int k a) = .returned (.int k b) := by rw [h]
theorem ret_bool {a b : Bool} (h : a = b) : Ending.returned (.bool a) = .returned (.bool b) := by rw [h]

/-! ### Regions that draw their order, all of whose operations leave what lay there as it was -/
theorem lt_of_cell {w : World} {ad : Addr} {v : Value} (h : w.cell? ad = some v) : ad.block < w.heap.size := by
  unfold World.cell? at h
  split at h
  · rename_i hb
    exact (Array.getElem?_eq_some_iff.1 hb).1
  · cases h
theorem lt_of_loadAgg {w w1 : World} {b off n : Nat} {v : Value} (h : loadAgg w b off n = .ok v w1) : b < w.heap.size := by
  unfold loadAgg at h
  split at h
  · rename_i hb
    exact (Array.getElem?_eq_some_iff.1 hb).1
  · cases h
theorem Below.loadAgg {B : Nat} {w w' : World} (h : Below B w w') {b off n : Nat} {v : Value} (hb : b < B) (hl : Proofs.Ytiiljecocajdpaa.loadAgg w b off n = .ok v w) : Proofs.Ytiiljecocajdpaa.loadAgg w' b off n = .ok v w' := by
  unfold Proofs.Ytiiljecocajdpaa.loadAgg at hl ⊢
  rw [h.block b hb]
  split at hl
  · split at hl
    · rename_i hn
      rw [if_pos hn]
      injection hl with hl _
      rw [hl]
    · cases hl
  · cases hl

/-- The worlds that a region of this kind may come to. -/
def KeptW (w : World) := { w' : World // Below w.heap.size w w' }
instance (w : World) : Nonempty (KeptW w) := ⟨⟨w, Below.refl _ _⟩⟩
theorem KeptW.cell {w : World} {ad : Addr} {v : Value} (h : w.cell? ad = some v) (s : KeptW w) : s.val.cell? ad = some v := (s.property.cell (lt_of_cell h)).trans h
section
variable {P : Program} {ops : Array Oper} {w : World} {Q : Act → Prop} {a : Act} {o : Oper} {rest : List Oper} {ty : TypeId} {ps : String} {af : Array Edge} {d : Nat}

theorem wp_region_kept {id : Nat} {Q : Exit → Act → World → Prop} {l : List Oper} (hm : P.follows .mixedOrders = true) (hB : Region.lexB .any l.toArray = true)
    (h : wpQuiet P l.toArray (fun w' => ∃ s : KeptW w, w' = s.val) (fun a' => ∀ w', Below w.heap.size w w' → Q .normal a' w') l a) : (Code.region id l.toArray true).wp P Q a w :=
  wp_region_quiet (C := fun w' => ∃ s : KeptW w, w' = s.val) hm hB ⟨⟨_, (Below.refl _ w).drew⟩, rfl⟩ (by
    have : (fun a' => ∀ w', Below w.heap.size w w' → Q .normal a' w') = (fun a' => ∀ w', (∃ s : KeptW w, w' = s.val) → Q .normal a' w') := by
      funext a'
      exact propext ⟨fun h w' ⟨s, hs⟩ => hs ▸ h _ s.property, fun h w' hb => h w' ⟨⟨w', hb⟩, rfl⟩⟩
    rw [← this]
    simpa using h)
/-- a load of a struct or an array in such a region -/
theorem q_ld {l l' : List Value} {ds : List Deferred} {t n b off : Nat} {x : Operand} {v : Value} (hx : (Act.mk l.toArray ds).eval x = .pointer (some ⟨b, off, none⟩)) [T : AggTy P t n] (hl : loadAgg w b off n = .ok v w) (hs : l.set d v = l')
    (h : wpQuiet P ops (fun w' => ∃ s : KeptW w, w' = s.val) Q rest ⟨l'.toArray, ds⟩) : wpQuiet P ops (fun w' => ∃ s : KeptW w, w' = s.val) Q (⟨some d, .load t x, ty, ps, af, none⟩ :: rest) ⟨l.toArray, ds⟩ := by
  obtain ⟨d, h1, h2, h3⟩ := T.out
  refine BigFrame.wpQuiet_want rfl fun K hK => ⟨v, fun w' ⟨s, hs⟩ => ?_, hK _ (by rw [put_list, hs]; exact h)⟩
  subst hs
  have hl' := Below.loadAgg s.property (lt_of_loadAgg hl) hl
  have := run_loadVar_agg (P := P) (w := s.val) (b := b) (off := off) h1 h2 h3 (by rw [hl']; rfl)
  unfold Oper.quietAt execOp
  simp [hx, Instr.loadAt, Instr.sureAddr, Sem.run_bind, this, hl', Oper.quietUpon]
/-- a call's contract, in such a region -/
theorem Calls.kept {f : FuncId} {args : Array Value} {s : KeptW w} {v : Value} (h : Calls P f args s.val fun e w' => e = .returned v ∧ Below s.val.heap.size s.val w') :
    Calls P f args s.val fun e w'' => e = .returned v ∧ ∃ s' : KeptW w, w'' = s'.val :=
  h.mono fun _ w'' ⟨he, hb⟩ => ⟨he, ⟨w'', s.property.trans (hb.mono s.property.size)⟩, rfl⟩
end

/-! ### A table in a string constant -/
theorem run_strtab {P : Program} {t : TypeId} {s : ByteArray} {k : IntKind} {n : Int} {f : Nat → Nat} (w : World) (ht : P.underlying t = some .string) (hs : (List.range 256).all (fun i => s[i]? == some (UInt8.ofNat (f i))) = true) (h0 : 0 ≤ n) (hn : n < 256) (hf : f n.toNat < 256) :
    (Instr.index t (.string s) (.int k n)).run P w = .ok (.int .u8 (f n.toNat)) w := by
  have h := List.all_eq_true.1 hs n.toNat (by simp; omega)
  have h' : s[n.toNat]? = some (UInt8.ofNat (f n.toNat)) := by simpa using h
  have hv : (UInt8.ofNat (f n.toNat)).toNat = f n.toNat := by simp; omega
  simp [Instr.index, asIntOf, Sem.run_bind, run_underlying ht w, h0, h', hv]
/-- THE ARM in a plain region -/
theorem w_strtab {P : Program} {ops : Array Oper} {rest : List Oper} {l l' : List Value} {ds : List Deferred} {w : World} {Q : Exit → Act → World → Prop} {t : TypeId} {s : ByteArray} {y : Operand} {k : IntKind} {n : Int} (f : Nat → Nat) {d : Nat} {ty : TypeId} {ps : String} {af : Array Edge}
    (ht : P.underlying t = some .string) (hs : (List.range 256).all (fun i => s[i]? == some (UInt8.ofNat (f i))) = true) (hy : (Act.mk l.toArray ds).eval y = .int k n) (h0 : 0 ≤ n) (hn : n < 256) (hf : f n.toNat < 256) (hl : l.set d (.int .u8 (f n.toNat)) = l')
    (h : wpList P ops Q rest ⟨l'.toArray, ds⟩ w) : wpList P ops Q (⟨some d, .index t (.const (.string s)) y, ty, ps, af, none⟩ :: rest) ⟨l.toArray, ds⟩ w := by
  refine wpList_plain rfl fun K hK => ?_
  unfold Oper.wp execOp
  simp only [hy, BigFrame.eval_const, Sem.run_bind, run_strtab w ht hs h0 hn hf, Result.andThen_ok, Sem.run_pure]
  rw [Oper.upon_value, put_list, hl]
  exact hK _ _ h
/-- .. and in one that draws its order -/
theorem q_strtab {P : Program} {ops : Array Oper} {rest : List Oper} {l l' : List Value} {ds : List Deferred} {C : World → Prop} {Q : Act → Prop} {t : TypeId} {s : ByteArray} {y : Operand} {k : IntKind} {n : Int} (f : Nat → Nat) {d : Nat} {ty : TypeId} {ps : String} {af : Array Edge}
    (ht : P.underlying t = some .string) (hs : (List.range 256).all (fun i => s[i]? == some (UInt8.ofNat (f i))) = true) (hy : (Act.mk l.toArray ds).eval y = .int k n) (h0 : 0 ≤ n) (hn : n < 256) (hf : f n.toNat < 256) (hl : l.set d (.int .u8 (f n.toNat)) = l')
    (h : wpQuiet P ops C Q rest ⟨l'.toArray, ds⟩) : wpQuiet P ops C Q (⟨some d, .index t (.const (.string s)) y, ty, ps, af, none⟩ :: rest) ⟨l.toArray, ds⟩ := by
  refine BigFrame.wpQuiet_want rfl fun K hK => ⟨_, fun w' _ => ?_, hK _ (by rw [put_list, hl]; exact h)⟩
  unfold Oper.quietAt execOp
  simp only [hy, BigFrame.eval_const, Sem.run_bind, run_strtab w' ht hs h0 hn hf, Result.andThen_ok]
  exact ⟨rfl, rfl⟩

end Go.Proofs.Ytiiljecocajdpaa
