import Derived.Test.YtnjmplapjnnjdaaProg
import Derived.WalkKit
import Derived.WalkSpells
import Derived.WalkLawsBesides
import Derived.BigQuiet
import Derived.Deep.QuietTactic
import Derived.Deep.CutBlock
import Derived.Deep.DeepCutAuto
import Derived.Deep.LoopGhost
import Derived.Lib.Hide
set_option linter.unusedSimpArgs false
set_option linter.unusedVariables false
set_option linter.unnecessarySimpa false
/- Words that all texts of this seat share: how a problem lies in memory, loads of whole structs and arrays, small laws on worlds. No program's text is named here. -/
namespace Go.Proofs.Ytnjmplapjnnjdaa
open Go.RowKit

section
variable {P : Program}

def isAggD : TypeDesc → Bool
  | .struct _ | .array _ _ => true
  | _ => false

/-- What a load of a struct or an array of n cells comes to. -/
def loadAgg (w : World) (b off n : Nat) : Result Value :=
  match w.heap[b]? with
  | some (.cells cs _ _) => if off + n ≤ cs.size then .ok (.agg (cs.extract off (off + n))) w else .halt (.stuck "no such cells") w
  | _ => .halt (.stuck "no such cells") w

theorem loadAgg_block {w : World} {b off n : Nat} {cs : Array Value} {t : TypeId} {fr : Nat × Nat} (hb : w.heap[b]? = some (.cells cs t fr)) (h : off + n ≤ cs.size) :
    loadAgg w b off n = .ok (.agg (cs.extract off (off + n))) w := by simp [loadAgg, hb, h]

theorem run_loadVar_block (w : World) (b off n : Nat) (t ty : TypeId) (cs : Array Value) (fr : Nat × Nat) (d : TypeDesc) (hg : w.heap[b]? = some (.cells cs t fr))
    (hu : P.underlying ty = some d) (hd : isAggD d = true) (hi : (P.info? ty).map (·.size) = some n) (hn : off + n ≤ cs.size) :
    (loadVar ty ⟨b, off, none⟩).run P w = .ok (.agg (cs.extract off (off + n))) w := by
  have hl : (loadCells ⟨b, off, none⟩ n).run P w = .ok (cs.extract off (off + n)) w := by
    have hsz : ((cs.toList.drop off).take n).length = n := by simp; omega
    have := run_loadCells_list (P := P) w ⟨b, off, none⟩ ((cs.toList.drop off).take n) (fun j v hv => by
      have hadd : (⟨b, off, none⟩ : Addr).add j = ⟨b, off + j, none⟩ := by unfold Addr.add; split <;> simp_all
      rw [hadd, cell_of_row w b (off + j) cs t fr hg]
      rw [List.getElem?_take] at hv
      split at hv
      · simpa using hv
      · cases hv)
    rw [hsz] at this
    rw [this]
    congr 1
    apply Array.ext'
    simp [Array.toList_extract, List.extract_eq_take_drop]
  cases hq : P.info? ty with
  | none => simp [hq] at hi
  | some i =>
    have hs : i.size = n := by simpa [hq] using hi
    have hagg : (isAgg ty).run P w = .ok true w := by
      unfold isAgg
      rw [Sem.run_bind, run_underlying hu w]
      cases d <;> simp_all [isAggD]
    simp [loadVar, Sem.run_bind, hagg, sizeOf, typeInfo, hq, hs, hl]

end

/-- Did it come to an end? -/
def okRes : Result Value → Bool
  | .ok _ _ => true
  | _ => false
theorem run_loadVar_agg {P : Program} {w : World} {b off n : Nat} {ty : TypeId} {d : TypeDesc} (hu : P.underlying ty = some d) (hd : isAggD d = true)
    (hi : (P.info? ty).map (·.size) = some n) (h : okRes (loadAgg w b off n) = true) : (loadVar ty ⟨b, off, none⟩).run P w = loadAgg w b off n := by
  unfold loadAgg at h ⊢
  split at h
  · rename_i cs t fr hb
    split at h
    · rename_i hn
      rw [run_loadVar_block w b off n t ty cs fr d hb hu hd hi hn, if_pos hn]
    · cases h
  · cases h

/-- A struct's or an array's type of n cells. -/
class AggTy (P : Program) (t : TypeId) (n : outParam Nat) : Prop where
  out : ∃ d, P.underlying t = some d ∧ isAggD d = true ∧ (P.info? t).map (·.size) = some n
theorem AggTy.mk' {P : Program} {t : TypeId} {n : Nat} {d : TypeDesc} (h1 : P.underlying t = some d) (h2 : isAggD d = true) (h3 : (P.info? t).map (·.size) = some n) : AggTy P t n := ⟨d, h1, h2, h3⟩

theorem put_list (l : List Value) (ds : List Deferred) (d : Nat) (v : Value) : (Act.mk l.toArray ds).put (some d) v = ⟨(l.set d v).toArray, ds⟩ := by simp [Act.put]
/-- THE ARM for a load of a whole struct or array: '((with_reducible apply ld); rfl; (with_reducible assumption); lset)', where 'lset' is 'simp only [List.set_cons_zero, List.set_cons_succ]'. -/
theorem ld {P : Program} {ops : Array Oper} {rest : List Oper} {l l' : List Value} {ds : List Deferred} {w : World} {Q : Exit → Act → World → Prop} {t n b off d : Nat} {x : Operand} {v : Value} {ty : TypeId} {ps : String} {af : Array Edge}
    (hx : (Act.mk l.toArray ds).eval x = .pointer (some ⟨b, off, none⟩)) [T : AggTy P t n] (hl : loadAgg w b off n = .ok v w) (hs : l.set d v = l') (h : wpList P ops Q rest ⟨l'.toArray, ds⟩ w) :
    wpList P ops Q (⟨some d, .load t x, ty, ps, af, none⟩ :: rest) ⟨l.toArray, ds⟩ w := by
  obtain ⟨d, h1, h2, h3⟩ := T.out
  refine wpList_plain rfl fun K hK => ?_
  unfold Oper.wp execOp
  have := run_loadVar_agg (P := P) (w := w) (b := b) (off := off) h1 h2 h3 (by rw [hl]; rfl)
  simp only [hx, Instr.loadAt, Instr.sureAddr, Sem.run_bind, Sem.run_pure, Result.andThen_ok, this, hl]
  rw [Oper.upon_value, put_list, hs]
  exact hK _ _ h

/-- A type whose variables are one cell. -/
class CellTy (P : Program) (t : TypeId) : Prop where
  out : ∃ d, P.underlying t = some d ∧ isAggD d = false ∧ (P.info? t).map (·.size) = some 1
theorem CellTy.mk' {P : Program} {t : TypeId} {d : TypeDesc} (h1 : P.underlying t = some d) (h2 : isAggD d = false) (h3 : (P.info? t).map (·.size) = some 1) : CellTy P t := ⟨d, h1, h2, h3⟩
/-- A function whose call enters its body. -/
class EnterF (P : Program) (f : FuncId) : Prop where
  out : ∀ (args : Array Value) (w : World), (callFunc f args).run P w = .ok (.enter f args) w
theorem EnterF.mk' {P : Program} {f : FuncId} {fn : Func} {c : Code} (hf : P.funcs[f]? = some fn) (hname : (fn.name == "runtime.NumGoroutine") = false) (hb : fn.body = some c) : EnterF P f := ⟨fun args w => by
  have hn : ¬ fn.name = "runtime.NumGoroutine" := by simpa using hname
  simp [callFunc, Sem.run_bind, program, Sem.run, hf, hn, hb]⟩

/-- The call hands back v, and leaves all that was there as it was. -/
abbrev Pure (P : Program) (f : FuncId) (args : Array Value) (w : World) (v : Value) : Prop := Calls P f args w fun e w' => e = .returned v ∧ Below w.heap.size w w'
theorem ret_int {k : IntKind} {a b : Int} (h : a = b) : Ending.returned (.int k a) = .returned (.int k b) := by rw [h]
/-! ### Regions that draw their order, all of whose operations leave what lay there as it was -/
theorem lt_of_cell {w : World} {ad : Addr} {v : Value} (h : w.cell? ad = some v) : ad.block < w.heap.size := by
  unfold World.cell? at h
  split at h
  · rename_i hb
    exact (Array.getElem?_eq_some_iff.1 hb).1
  · cases h
theorem lt_of_loadAgg {w w1 : World} {b off n : Nat} {v : Value} (h : loadAgg w b off n = .ok v w1) : b < w.heap.size := by
  unfold loadAgg at h
  split at h
  · rename_i hb
    exact (Array.getElem?_eq_some_iff.1 hb).1
  · cases h
theorem Below.loadAgg {B : Nat} {w w' : World} (h : Below B w w') {b off n : Nat} {v : Value} (hb : b < B) (hl : Proofs.Ytnjmplapjnnjdaa.loadAgg w b off n = .ok v w) : Proofs.Ytnjmplapjnnjdaa.loadAgg w' b off n = .ok v w' := by
  unfold Proofs.Ytnjmplapjnnjdaa.loadAgg at hl ⊢
  rw [h.block b hb]
  split at hl
  · split at hl
    · rename_i hn
      rw [if_pos hn]
      injection hl with hl _
      rw [hl]
    · cases hl
  · cases hl

/-- The worlds that a region of this kind may come to. -/
def KeptW (w : World) := { w' : World // Below w.heap.size w w' }
instance (w : World) : Nonempty (KeptW w) := ⟨⟨w, Below.refl _ _⟩⟩
theorem KeptW.cell {w : World} {ad : Addr} {v : Value} (h : w.cell? ad = some v) (s : KeptW w) : s.val.cell? ad = some v := (s.property.cell (lt_of_cell h)).trans h
section
variable {P : Program} {ops : Array Oper} {w : World} {Q : Act → Prop} {a : Act} {o : Oper} {rest : List Oper} {ty : TypeId} {ps : String} {af : Array Edge} {d : Nat}

theorem wp_region_kept {id : Nat} {Q : Exit → Act → World → Prop} {l : List Oper} (hm : P.follows .mixedOrders = true) (hB : Region.lexB .any l.toArray = true)
    (h : wpQuiet P l.toArray (fun w' => ∃ s : KeptW w, w' = s.val) (fun a' => ∀ w', Below w.heap.size w w' → Q .normal a' w') l a) : (Code.region id l.toArray true).wp P Q a w :=
  wp_region_quiet (C := fun w' => ∃ s : KeptW w, w' = s.val) hm hB ⟨⟨_, (Below.refl _ w).drew⟩, rfl⟩ (by
    have : (fun a' => ∀ w', Below w.heap.size w w' → Q .normal a' w') = (fun a' => ∀ w', (∃ s : KeptW w, w' = s.val) → Q .normal a' w') := by
      funext a'
      exact propext ⟨fun h w' ⟨s, hs⟩ => hs ▸ h _ s.property, fun h w' hb => h w' ⟨⟨w', hb⟩, rfl⟩⟩
    rw [← this]
    simpa using h)
/-- a load of a struct or an array in such a region -/
theorem q_ld {l l' : List Value} {ds : List Deferred} {t n b off : Nat} {x : Operand} {v : Value} (hx : (Act.mk l.toArray ds).eval x = .pointer (some ⟨b, off, none⟩)) [T : AggTy P t n] (hl : loadAgg w b off n = .ok v w) (hs : l.set d v = l')
    (h : wpQuiet P ops (fun w' => ∃ s : KeptW w, w' = s.val) Q rest ⟨l'.toArray, ds⟩) : wpQuiet P ops (fun w' => ∃ s : KeptW w, w' = s.val) Q (⟨some d, .load t x, ty, ps, af, none⟩ :: rest) ⟨l.toArray, ds⟩ := by
  obtain ⟨d, h1, h2, h3⟩ := T.out
  refine BigFrame.wpQuiet_want rfl fun K hK => ⟨v, fun w' ⟨s, hs⟩ => ?_, hK _ (by rw [put_list, hs]; exact h)⟩
  subst hs
  have hl' := Below.loadAgg s.property (lt_of_loadAgg hl) hl
  have := run_loadVar_agg (P := P) (w := s.val) (b := b) (off := off) h1 h2 h3 (by rw [hl']; rfl)
  unfold Oper.quietAt execOp
  simp [hx, Instr.loadAt, Instr.sureAddr, Sem.run_bind, this, hl', Oper.quietUpon]
/-- a call's contract, in such a region -/
theorem Calls.kept {f : FuncId} {args : Array Value} {s : KeptW w} {v : Value} (h : Calls P f args s.val fun e w' => e = .returned v ∧ Below s.val.heap.size s.val w') :
    Calls P f args s.val fun e w'' => e = .returned v ∧ ∃ s' : KeptW w, w'' = s'.val :=
  h.mono fun _ w'' ⟨he, hb⟩ => ⟨he, ⟨w'', s.property.trans (hb.mono s.property.size)⟩, rfl⟩
end

/-! ### A table in a string constant -/
theorem run_strtab {P : Program} {t : TypeId} {s : ByteArray} {k : IntKind} {n : Int} {f : Nat → Nat} (w : World) (ht : P.underlying t = some .string) (hs : (List.range 256).all (fun i => s[i]? == some (UInt8.ofNat (f i))) = true) (h0 : 0 ≤ n) (hn : n < 256) (hf : f n.toNat < 256) :
    (Instr.index t (.string s) (.int k n)).run P w = .ok (.int .u8 (f n.toNat)) w := by
  have h := List.all_eq_true.1 hs n.toNat (by simp; omega)
  have h' : s[n.toNat]? = some (UInt8.ofNat (f n.toNat)) := by simpa using h
  have hv : (UInt8.ofNat (f n.toNat)).toNat = f n.toNat := by simp; omega
  simp [Instr.index, asIntOf, Sem.run_bind, run_underlying ht w, h0, h', hv]
/-- THE ARM in a plain region -/
theorem w_strtab {P : Program} {ops : Array Oper} {rest : List Oper} {l l' : List Value} {ds : List Deferred} {w : World} {Q : Exit → Act → World → Prop} {t : TypeId} {s : ByteArray} {y : Operand} {k : IntKind} {n : Int} (f : Nat → Nat) {d : Nat} {ty : TypeId} {ps : String} {af : Array Edge}
    (ht : P.underlying t = some .string) (hs : (List.range 256).all (fun i => s[i]? == some (UInt8.ofNat (f i))) = true) (hy : (Act.mk l.toArray ds).eval y = .int k n) (h0 : 0 ≤ n) (hn : n < 256) (hf : f n.toNat < 256) (hl : l.set d (.int .u8 (f n.toNat)) = l')
    (h : wpList P ops Q rest ⟨l'.toArray, ds⟩ w) : wpList P ops Q (⟨some d, .index t (.const (.string s)) y, ty, ps, af, none⟩ :: rest) ⟨l.toArray, ds⟩ w := by
  refine wpList_plain rfl fun K hK => ?_
  unfold Oper.wp execOp
  simp only [hy, BigFrame.eval_const, Sem.run_bind, run_strtab w ht hs h0 hn hf, Result.andThen_ok, Sem.run_pure]
  rw [Oper.upon_value, put_list, hl]
  exact hK _ _ h
/-- .. and in one that draws its order -/
theorem q_strtab {P : Program} {ops : Array Oper} {rest : List Oper} {l l' : List Value} {ds : List Deferred} {C : World → Prop} {Q : Act → Prop} {t : TypeId} {s : ByteArray} {y : Operand} {k : IntKind} {n : Int} (f : Nat → Nat) {d : Nat} {ty : TypeId} {ps : String} {af : Array Edge}
    (ht : P.underlying t = some .string) (hs : (List.range 256).all (fun i => s[i]? == some (UInt8.ofNat (f i))) = true) (hy : (Act.mk l.toArray ds).eval y = .int k n) (h0 : 0 ≤ n) (hn : n < 256) (hf : f n.toNat < 256) (hl : l.set d (.int .u8 (f n.toNat)) = l')
    (h : wpQuiet P ops C Q rest ⟨l'.toArray, ds⟩) : wpQuiet P ops C Q (⟨some d, .index t (.const (.string s)) y, ty, ps, af, none⟩ :: rest) ⟨l.toArray, ds⟩ := by
  refine BigFrame.wpQuiet_want rfl fun K hK => ⟨_, fun w' _ => ?_, hK _ (by rw [put_list, hl]; exact h)⟩
  unfold Oper.quietAt execOp
  simp only [hy, BigFrame.eval_const, Sem.run_bind, run_strtab w' ht hs h0 hn hf, Result.andThen_ok]
  exact ⟨rfl, rfl⟩

end Go.Proofs.Ytnjmplapjnnjdaa

/- Facts on this seat's types and functions: the sizes of structs and arrays, the types of one cell, the functions that a call enters. By gen_types.py. -/
namespace Go.Proofs.Ytnjmplapjnnjdaa
open Go.RowKit

instance aT7 : AggTy Try.prog 7 4 := .mk' Try.underlying7 rfl (by kernel_rfl)
instance aT8 : AggTy Try.prog 8 4 := .mk' Try.underlying8 rfl (by kernel_rfl)
instance aT13 : AggTy Try.prog 13 2 := .mk' Try.underlying13 rfl (by kernel_rfl)
instance aT14 : AggTy Try.prog 14 2 := .mk' Try.underlying14 rfl (by kernel_rfl)
instance aT18 : AggTy Try.prog 18 1 := .mk' Try.underlying18 rfl (by kernel_rfl)
instance aT19 : AggTy Try.prog 19 1 := .mk' Try.underlying19 rfl (by kernel_rfl)
instance aT23 : AggTy Try.prog 23 3 := .mk' Try.underlying23 rfl (by kernel_rfl)
instance aT24 : AggTy Try.prog 24 5 := .mk' Try.underlying24 rfl (by kernel_rfl)
instance aT25 : AggTy Try.prog 25 5 := .mk' Try.underlying25 rfl (by kernel_rfl)
instance aT26 : AggTy Try.prog 26 16 := .mk' Try.underlying26 rfl (by kernel_rfl)
instance aT27 : AggTy Try.prog 27 32 := .mk' Try.underlying27 rfl (by kernel_rfl)
instance aT28 : AggTy Try.prog 28 33 := .mk' Try.underlying28 rfl (by kernel_rfl)
instance aT29 : AggTy Try.prog 29 33 := .mk' Try.underlying29 rfl (by kernel_rfl)
instance aT31 : AggTy Try.prog 31 40 := .mk' Try.underlying31 rfl (by kernel_rfl)
instance aT32 : AggTy Try.prog 32 40 := .mk' Try.underlying32 rfl (by kernel_rfl)
instance aT34 : AggTy Try.prog 34 7 := .mk' Try.underlying34 rfl (by kernel_rfl)
instance aT35 : AggTy Try.prog 35 7 := .mk' Try.underlying35 rfl (by kernel_rfl)
instance aT68 : AggTy Try.prog 68 2 := .mk' Try.underlying68 rfl (by kernel_rfl)
instance aT69 : AggTy Try.prog 69 2 := .mk' Try.underlying69 rfl (by kernel_rfl)
instance aT76 : AggTy Try.prog 76 9 := .mk' Try.underlying76 rfl (by kernel_rfl)
instance aT77 : AggTy Try.prog 77 9 := .mk' Try.underlying77 rfl (by kernel_rfl)
instance aT98 : AggTy Try.prog 98 3 := .mk' Try.underlying98 rfl (by kernel_rfl)
instance aT99 : AggTy Try.prog 99 3 := .mk' Try.underlying99 rfl (by kernel_rfl)
instance aT101 : AggTy Try.prog 101 6 := .mk' Try.underlying101 rfl (by kernel_rfl)
instance aT102 : AggTy Try.prog 102 6 := .mk' Try.underlying102 rfl (by kernel_rfl)
instance aT108 : AggTy Try.prog 108 3 := .mk' Try.underlying108 rfl (by kernel_rfl)
instance aT113 : AggTy Try.prog 113 6 := .mk' Try.underlying113 rfl (by kernel_rfl)
instance aT114 : AggTy Try.prog 114 6 := .mk' Try.underlying114 rfl (by kernel_rfl)
instance aT123 : AggTy Try.prog 123 40 := .mk' Try.underlying123 rfl (by kernel_rfl)
instance aT124 : AggTy Try.prog 124 40 := .mk' Try.underlying124 rfl (by kernel_rfl)
instance aT125 : AggTy Try.prog 125 4 := .mk' Try.underlying125 rfl (by kernel_rfl)
instance aT126 : AggTy Try.prog 126 4 := .mk' Try.underlying126 rfl (by kernel_rfl)
instance aT128 : AggTy Try.prog 128 53 := .mk' Try.underlying128 rfl (by kernel_rfl)
instance aT129 : AggTy Try.prog 129 53 := .mk' Try.underlying129 rfl (by kernel_rfl)
instance aT146 : AggTy Try.prog 146 11 := .mk' Try.underlying146 rfl (by kernel_rfl)
instance aT147 : AggTy Try.prog 147 11 := .mk' Try.underlying147 rfl (by kernel_rfl)
instance aT188 : AggTy Try.prog 188 4 := .mk' Try.underlying188 rfl (by kernel_rfl)
instance aT189 : AggTy Try.prog 189 4 := .mk' Try.underlying189 rfl (by kernel_rfl)
instance aT190 : AggTy Try.prog 190 0 := .mk' Try.underlying190 rfl (by kernel_rfl)
instance aT191 : AggTy Try.prog 191 0 := .mk' Try.underlying191 rfl (by kernel_rfl)
instance aT192 : AggTy Try.prog 192 0 := .mk' Try.underlying192 rfl (by kernel_rfl)
instance aT199 : AggTy Try.prog 199 11 := .mk' Try.underlying199 rfl (by kernel_rfl)
instance aT200 : AggTy Try.prog 200 11 := .mk' Try.underlying200 rfl (by kernel_rfl)
instance cT1 : CellTy Try.prog 1 := .mk' Try.underlying1 rfl (by kernel_rfl)
instance cT2 : CellTy Try.prog 2 := .mk' Try.underlying2 rfl (by kernel_rfl)
instance cT3 : CellTy Try.prog 3 := .mk' Try.underlying3 rfl (by kernel_rfl)
instance cT4 : CellTy Try.prog 4 := .mk' Try.underlying4 rfl (by kernel_rfl)
instance cT5 : CellTy Try.prog 5 := .mk' Try.underlying5 rfl (by kernel_rfl)
instance cT6 : CellTy Try.prog 6 := .mk' Try.underlying6 rfl (by kernel_rfl)
instance cT9 : CellTy Try.prog 9 := .mk' Try.underlying9 rfl (by kernel_rfl)
instance cT10 : CellTy Try.prog 10 := .mk' Try.underlying10 rfl (by kernel_rfl)
instance cT11 : CellTy Try.prog 11 := .mk' Try.underlying11 rfl (by kernel_rfl)
instance cT12 : CellTy Try.prog 12 := .mk' Try.underlying12 rfl (by kernel_rfl)
instance cT15 : CellTy Try.prog 15 := .mk' Try.underlying15 rfl (by kernel_rfl)
instance cT16 : CellTy Try.prog 16 := .mk' Try.underlying16 rfl (by kernel_rfl)
instance cT17 : CellTy Try.prog 17 := .mk' Try.underlying17 rfl (by kernel_rfl)
instance cT21 : CellTy Try.prog 21 := .mk' Try.underlying21 rfl (by kernel_rfl)
instance cT22 : CellTy Try.prog 22 := .mk' Try.underlying22 rfl (by kernel_rfl)
instance cT30 : CellTy Try.prog 30 := .mk' Try.underlying30 rfl (by kernel_rfl)
instance cT33 : CellTy Try.prog 33 := .mk' Try.underlying33 rfl (by kernel_rfl)
instance cT36 : CellTy Try.prog 36 := .mk' Try.underlying36 rfl (by kernel_rfl)
instance cT38 : CellTy Try.prog 38 := .mk' Try.underlying38 rfl (by kernel_rfl)
instance cT40 : CellTy Try.prog 40 := .mk' Try.underlying40 rfl (by kernel_rfl)
instance cT41 : CellTy Try.prog 41 := .mk' Try.underlying41 rfl (by kernel_rfl)
instance cT42 : CellTy Try.prog 42 := .mk' Try.underlying42 rfl (by kernel_rfl)
instance cT43 : CellTy Try.prog 43 := .mk' Try.underlying43 rfl (by kernel_rfl)
instance cT44 : CellTy Try.prog 44 := .mk' Try.underlying44 rfl (by kernel_rfl)
instance cT45 : CellTy Try.prog 45 := .mk' Try.underlying45 rfl (by kernel_rfl)
instance cT46 : CellTy Try.prog 46 := .mk' Try.underlying46 rfl (by kernel_rfl)
instance cT48 : CellTy Try.prog 48 := .mk' Try.underlying48 rfl (by kernel_rfl)
instance cT50 : CellTy Try.prog 50 := .mk' Try.underlying50 rfl (by kernel_rfl)
instance cT51 : CellTy Try.prog 51 := .mk' Try.underlying51 rfl (by kernel_rfl)
instance cT52 : CellTy Try.prog 52 := .mk' Try.underlying52 rfl (by kernel_rfl)
instance cT53 : CellTy Try.prog 53 := .mk' Try.underlying53 rfl (by kernel_rfl)
instance cT55 : CellTy Try.prog 55 := .mk' Try.underlying55 rfl (by kernel_rfl)
instance cT56 : CellTy Try.prog 56 := .mk' Try.underlying56 rfl (by kernel_rfl)
instance cT58 : CellTy Try.prog 58 := .mk' Try.underlying58 rfl (by kernel_rfl)
instance cT60 : CellTy Try.prog 60 := .mk' Try.underlying60 rfl (by kernel_rfl)
instance cT61 : CellTy Try.prog 61 := .mk' Try.underlying61 rfl (by kernel_rfl)
instance cT62 : CellTy Try.prog 62 := .mk' Try.underlying62 rfl (by kernel_rfl)
instance cT63 : CellTy Try.prog 63 := .mk' Try.underlying63 rfl (by kernel_rfl)
instance cT64 : CellTy Try.prog 64 := .mk' Try.underlying64 rfl (by kernel_rfl)
instance cT66 : CellTy Try.prog 66 := .mk' Try.underlying66 rfl (by kernel_rfl)
instance cT67 : CellTy Try.prog 67 := .mk' Try.underlying67 rfl (by kernel_rfl)
instance cT70 : CellTy Try.prog 70 := .mk' Try.underlying70 rfl (by kernel_rfl)
instance cT71 : CellTy Try.prog 71 := .mk' Try.underlying71 rfl (by kernel_rfl)
instance cT72 : CellTy Try.prog 72 := .mk' Try.underlying72 rfl (by kernel_rfl)
instance cT73 : CellTy Try.prog 73 := .mk' Try.underlying73 rfl (by kernel_rfl)
instance cT74 : CellTy Try.prog 74 := .mk' Try.underlying74 rfl (by kernel_rfl)
instance cT75 : CellTy Try.prog 75 := .mk' Try.underlying75 rfl (by kernel_rfl)
instance cT78 : CellTy Try.prog 78 := .mk' Try.underlying78 rfl (by kernel_rfl)
instance cT80 : CellTy Try.prog 80 := .mk' Try.underlying80 rfl (by kernel_rfl)
instance cT81 : CellTy Try.prog 81 := .mk' Try.underlying81 rfl (by kernel_rfl)
instance cT82 : CellTy Try.prog 82 := .mk' Try.underlying82 rfl (by kernel_rfl)
instance cT84 : CellTy Try.prog 84 := .mk' Try.underlying84 rfl (by kernel_rfl)
instance cT86 : CellTy Try.prog 86 := .mk' Try.underlying86 rfl (by kernel_rfl)
instance cT87 : CellTy Try.prog 87 := .mk' Try.underlying87 rfl (by kernel_rfl)
instance cT88 : CellTy Try.prog 88 := .mk' Try.underlying88 rfl (by kernel_rfl)
instance cT89 : CellTy Try.prog 89 := .mk' Try.underlying89 rfl (by kernel_rfl)
instance cT90 : CellTy Try.prog 90 := .mk' Try.underlying90 rfl (by kernel_rfl)
instance cT91 : CellTy Try.prog 91 := .mk' Try.underlying91 rfl (by kernel_rfl)
instance cT93 : CellTy Try.prog 93 := .mk' Try.underlying93 rfl (by kernel_rfl)
instance cT94 : CellTy Try.prog 94 := .mk' Try.underlying94 rfl (by kernel_rfl)
instance cT96 : CellTy Try.prog 96 := .mk' Try.underlying96 rfl (by kernel_rfl)
instance cT97 : CellTy Try.prog 97 := .mk' Try.underlying97 rfl (by kernel_rfl)
instance cT100 : CellTy Try.prog 100 := .mk' Try.underlying100 rfl (by kernel_rfl)
instance cT103 : CellTy Try.prog 103 := .mk' Try.underlying103 rfl (by kernel_rfl)
instance cT104 : CellTy Try.prog 104 := .mk' Try.underlying104 rfl (by kernel_rfl)
instance cT105 : CellTy Try.prog 105 := .mk' Try.underlying105 rfl (by kernel_rfl)
instance cT106 : CellTy Try.prog 106 := .mk' Try.underlying106 rfl (by kernel_rfl)
instance cT107 : CellTy Try.prog 107 := .mk' Try.underlying107 rfl (by kernel_rfl)
instance cT110 : CellTy Try.prog 110 := .mk' Try.underlying110 rfl (by kernel_rfl)
instance cT111 : CellTy Try.prog 111 := .mk' Try.underlying111 rfl (by kernel_rfl)
instance cT112 : CellTy Try.prog 112 := .mk' Try.underlying112 rfl (by kernel_rfl)
instance cT115 : CellTy Try.prog 115 := .mk' Try.underlying115 rfl (by kernel_rfl)
instance cT117 : CellTy Try.prog 117 := .mk' Try.underlying117 rfl (by kernel_rfl)
instance cT118 : CellTy Try.prog 118 := .mk' Try.underlying118 rfl (by kernel_rfl)
instance cT119 : CellTy Try.prog 119 := .mk' Try.underlying119 rfl (by kernel_rfl)
instance cT121 : CellTy Try.prog 121 := .mk' Try.underlying121 rfl (by kernel_rfl)
instance cT122 : CellTy Try.prog 122 := .mk' Try.underlying122 rfl (by kernel_rfl)
instance cT127 : CellTy Try.prog 127 := .mk' Try.underlying127 rfl (by kernel_rfl)
instance cT130 : CellTy Try.prog 130 := .mk' Try.underlying130 rfl (by kernel_rfl)
instance cT131 : CellTy Try.prog 131 := .mk' Try.underlying131 rfl (by kernel_rfl)
instance cT132 : CellTy Try.prog 132 := .mk' Try.underlying132 rfl (by kernel_rfl)
instance cT133 : CellTy Try.prog 133 := .mk' Try.underlying133 rfl (by kernel_rfl)
instance cT134 : CellTy Try.prog 134 := .mk' Try.underlying134 rfl (by kernel_rfl)
instance cT135 : CellTy Try.prog 135 := .mk' Try.underlying135 rfl (by kernel_rfl)
instance cT136 : CellTy Try.prog 136 := .mk' Try.underlying136 rfl (by kernel_rfl)
instance cT137 : CellTy Try.prog 137 := .mk' Try.underlying137 rfl (by kernel_rfl)
instance cT138 : CellTy Try.prog 138 := .mk' Try.underlying138 rfl (by kernel_rfl)
instance cT139 : CellTy Try.prog 139 := .mk' Try.underlying139 rfl (by kernel_rfl)
instance cT140 : CellTy Try.prog 140 := .mk' Try.underlying140 rfl (by kernel_rfl)
instance cT142 : CellTy Try.prog 142 := .mk' Try.underlying142 rfl (by kernel_rfl)
instance cT143 : CellTy Try.prog 143 := .mk' Try.underlying143 rfl (by kernel_rfl)
instance cT144 : CellTy Try.prog 144 := .mk' Try.underlying144 rfl (by kernel_rfl)
instance cT145 : CellTy Try.prog 145 := .mk' Try.underlying145 rfl (by kernel_rfl)
instance cT149 : CellTy Try.prog 149 := .mk' Try.underlying149 rfl (by kernel_rfl)
instance cT150 : CellTy Try.prog 150 := .mk' Try.underlying150 rfl (by kernel_rfl)
instance cT152 : CellTy Try.prog 152 := .mk' Try.underlying152 rfl (by kernel_rfl)
instance cT153 : CellTy Try.prog 153 := .mk' Try.underlying153 rfl (by kernel_rfl)
instance cT154 : CellTy Try.prog 154 := .mk' Try.underlying154 rfl (by kernel_rfl)
instance cT155 : CellTy Try.prog 155 := .mk' Try.underlying155 rfl (by kernel_rfl)
instance cT156 : CellTy Try.prog 156 := .mk' Try.underlying156 rfl (by kernel_rfl)
instance cT157 : CellTy Try.prog 157 := .mk' Try.underlying157 rfl (by kernel_rfl)
instance cT158 : CellTy Try.prog 158 := .mk' Try.underlying158 rfl (by kernel_rfl)
instance cT159 : CellTy Try.prog 159 := .mk' Try.underlying159 rfl (by kernel_rfl)
instance cT160 : CellTy Try.prog 160 := .mk' Try.underlying160 rfl (by kernel_rfl)
instance cT161 : CellTy Try.prog 161 := .mk' Try.underlying161 rfl (by kernel_rfl)
instance cT162 : CellTy Try.prog 162 := .mk' Try.underlying162 rfl (by kernel_rfl)
instance cT163 : CellTy Try.prog 163 := .mk' Try.underlying163 rfl (by kernel_rfl)
instance cT164 : CellTy Try.prog 164 := .mk' Try.underlying164 rfl (by kernel_rfl)
instance cT165 : CellTy Try.prog 165 := .mk' Try.underlying165 rfl (by kernel_rfl)
instance cT166 : CellTy Try.prog 166 := .mk' Try.underlying166 rfl (by kernel_rfl)
instance cT167 : CellTy Try.prog 167 := .mk' Try.underlying167 rfl (by kernel_rfl)
instance cT168 : CellTy Try.prog 168 := .mk' Try.underlying168 rfl (by kernel_rfl)
instance cT169 : CellTy Try.prog 169 := .mk' Try.underlying169 rfl (by kernel_rfl)
instance cT170 : CellTy Try.prog 170 := .mk' Try.underlying170 rfl (by kernel_rfl)
instance cT171 : CellTy Try.prog 171 := .mk' Try.underlying171 rfl (by kernel_rfl)
instance cT173 : CellTy Try.prog 173 := .mk' Try.underlying173 rfl (by kernel_rfl)
instance cT174 : CellTy Try.prog 174 := .mk' Try.underlying174 rfl (by kernel_rfl)
instance cT175 : CellTy Try.prog 175 := .mk' Try.underlying175 rfl (by kernel_rfl)
instance cT176 : CellTy Try.prog 176 := .mk' Try.underlying176 rfl (by kernel_rfl)
instance cT177 : CellTy Try.prog 177 := .mk' Try.underlying177 rfl (by kernel_rfl)
instance cT178 : CellTy Try.prog 178 := .mk' Try.underlying178 rfl (by kernel_rfl)
instance cT180 : CellTy Try.prog 180 := .mk' Try.underlying180 rfl (by kernel_rfl)
instance cT181 : CellTy Try.prog 181 := .mk' Try.underlying181 rfl (by kernel_rfl)
instance cT182 : CellTy Try.prog 182 := .mk' Try.underlying182 rfl (by kernel_rfl)
instance cT184 : CellTy Try.prog 184 := .mk' Try.underlying184 rfl (by kernel_rfl)
instance cT185 : CellTy Try.prog 185 := .mk' Try.underlying185 rfl (by kernel_rfl)
instance cT186 : CellTy Try.prog 186 := .mk' Try.underlying186 rfl (by kernel_rfl)
instance cT187 : CellTy Try.prog 187 := .mk' Try.underlying187 rfl (by kernel_rfl)
instance cT193 : CellTy Try.prog 193 := .mk' Try.underlying193 rfl (by kernel_rfl)
instance cT194 : CellTy Try.prog 194 := .mk' Try.underlying194 rfl (by kernel_rfl)
instance cT195 : CellTy Try.prog 195 := .mk' Try.underlying195 rfl (by kernel_rfl)
instance cT196 : CellTy Try.prog 196 := .mk' Try.underlying196 rfl (by kernel_rfl)
instance cT197 : CellTy Try.prog 197 := .mk' Try.underlying197 rfl (by kernel_rfl)
instance cT198 : CellTy Try.prog 198 := .mk' Try.underlying198 rfl (by kernel_rfl)
instance eF3 : EnterF Try.prog 3 := .mk' Try.func3 (by kernel_rfl) rfl
instance eF4 : EnterF Try.prog 4 := .mk' Try.func4 (by kernel_rfl) rfl
instance eF5 : EnterF Try.prog 5 := .mk' Try.func5 (by kernel_rfl) rfl
instance eF6 : EnterF Try.prog 6 := .mk' Try.func6 (by kernel_rfl) rfl
instance eF7 : EnterF Try.prog 7 := .mk' Try.func7 (by kernel_rfl) rfl
instance eF8 : EnterF Try.prog 8 := .mk' Try.func8 (by kernel_rfl) rfl
instance eF9 : EnterF Try.prog 9 := .mk' Try.func9 (by kernel_rfl) rfl
instance eF10 : EnterF Try.prog 10 := .mk' Try.func10 (by kernel_rfl) rfl
instance eF11 : EnterF Try.prog 11 := .mk' Try.func11 (by kernel_rfl) rfl
instance eF12 : EnterF Try.prog 12 := .mk' Try.func12 (by kernel_rfl) rfl
instance eF13 : EnterF Try.prog 13 := .mk' Try.func13 (by kernel_rfl) rfl
instance eF14 : EnterF Try.prog 14 := .mk' Try.func14 (by kernel_rfl) rfl
instance eF15 : EnterF Try.prog 15 := .mk' Try.func15 (by kernel_rfl) rfl
instance eF16 : EnterF Try.prog 16 := .mk' Try.func16 (by kernel_rfl) rfl
instance eF17 : EnterF Try.prog 17 := .mk' Try.func17 (by kernel_rfl) rfl
instance eF18 : EnterF Try.prog 18 := .mk' Try.func18 (by kernel_rfl) rfl
instance eF19 : EnterF Try.prog 19 := .mk' Try.func19 (by kernel_rfl) rfl
instance eF20 : EnterF Try.prog 20 := .mk' Try.func20 (by kernel_rfl) rfl
instance eF21 : EnterF Try.prog 21 := .mk' Try.func21 (by kernel_rfl) rfl
instance eF22 : EnterF Try.prog 22 := .mk' Try.func22 (by kernel_rfl) rfl
instance eF23 : EnterF Try.prog 23 := .mk' Try.func23 (by kernel_rfl) rfl
instance eF24 : EnterF Try.prog 24 := .mk' Try.func24 (by kernel_rfl) rfl
instance eF25 : EnterF Try.prog 25 := .mk' Try.func25 (by kernel_rfl) rfl
instance eF26 : EnterF Try.prog 26 := .mk' Try.func26 (by kernel_rfl) rfl
instance eF27 : EnterF Try.prog 27 := .mk' Try.func27 (by kernel_rfl) rfl
instance eF28 : EnterF Try.prog 28 := .mk' Try.func28 (by kernel_rfl) rfl
instance eF29 : EnterF Try.prog 29 := .mk' Try.func29 (by kernel_rfl) rfl
instance eF30 : EnterF Try.prog 30 := .mk' Try.func30 (by kernel_rfl) rfl
instance eF31 : EnterF Try.prog 31 := .mk' Try.func31 (by kernel_rfl) rfl
instance eF32 : EnterF Try.prog 32 := .mk' Try.func32 (by kernel_rfl) rfl
instance eF33 : EnterF Try.prog 33 := .mk' Try.func33 (by kernel_rfl) rfl
instance eF34 : EnterF Try.prog 34 := .mk' Try.func34 (by kernel_rfl) rfl
instance eF35 : EnterF Try.prog 35 := .mk' Try.func35 (by kernel_rfl) rfl
instance eF36 : EnterF Try.prog 36 := .mk' Try.func36 (by kernel_rfl) rfl
instance eF37 : EnterF Try.prog 37 := .mk' Try.func37 (by kernel_rfl) rfl
instance eF38 : EnterF Try.prog 38 := .mk' Try.func38 (by kernel_rfl) rfl
instance eF39 : EnterF Try.prog 39 := .mk' Try.func39 (by kernel_rfl) rfl
instance eF40 : EnterF Try.prog 40 := .mk' Try.func40 (by kernel_rfl) rfl
instance eF41 : EnterF Try.prog 41 := .mk' Try.func41 (by kernel_rfl) rfl
instance eF42 : EnterF Try.prog 42 := .mk' Try.func42 (by kernel_rfl) rfl
instance eF43 : EnterF Try.prog 43 := .mk' Try.func43 (by kernel_rfl) rfl
instance eF44 : EnterF Try.prog 44 := .mk' Try.func44 (by kernel_rfl) rfl
instance eF45 : EnterF Try.prog 45 := .mk' Try.func45 (by kernel_rfl) rfl
instance eF46 : EnterF Try.prog 46 := .mk' Try.func46 (by kernel_rfl) rfl
instance eF47 : EnterF Try.prog 47 := .mk' Try.func47 (by kernel_rfl) rfl
instance eF48 : EnterF Try.prog 48 := .mk' Try.func48 (by kernel_rfl) rfl
instance eF49 : EnterF Try.prog 49 := .mk' Try.func49 (by kernel_rfl) rfl
instance eF50 : EnterF Try.prog 50 := .mk' Try.func50 (by kernel_rfl) rfl
instance eF51 : EnterF Try.prog 51 := .mk' Try.func51 (by kernel_rfl) rfl
instance eF52 : EnterF Try.prog 52 := .mk' Try.func52 (by kernel_rfl) rfl
instance eF53 : EnterF Try.prog 53 := .mk' Try.func53 (by kernel_rfl) rfl
instance eF54 : EnterF Try.prog 54 := .mk' Try.func54 (by kernel_rfl) rfl
instance eF55 : EnterF Try.prog 55 := .mk' Try.func55 (by kernel_rfl) rfl
instance eF56 : EnterF Try.prog 56 := .mk' Try.func56 (by kernel_rfl) rfl
instance eF57 : EnterF Try.prog 57 := .mk' Try.func57 (by kernel_rfl) rfl
instance eF58 : EnterF Try.prog 58 := .mk' Try.func58 (by kernel_rfl) rfl
instance eF59 : EnterF Try.prog 59 := .mk' Try.func59 (by kernel_rfl) rfl
instance eF60 : EnterF Try.prog 60 := .mk' Try.func60 (by kernel_rfl) rfl
instance eF61 : EnterF Try.prog 61 := .mk' Try.func61 (by kernel_rfl) rfl
instance eF62 : EnterF Try.prog 62 := .mk' Try.func62 (by kernel_rfl) rfl
instance eF63 : EnterF Try.prog 63 := .mk' Try.func63 (by kernel_rfl) rfl
instance eF64 : EnterF Try.prog 64 := .mk' Try.func64 (by kernel_rfl) rfl
instance eF65 : EnterF Try.prog 65 := .mk' Try.func65 (by kernel_rfl) rfl
instance eF66 : EnterF Try.prog 66 := .mk' Try.func66 (by kernel_rfl) rfl
instance eF67 : EnterF Try.prog 67 := .mk' Try.func67 (by kernel_rfl) rfl
instance eF68 : EnterF Try.prog 68 := .mk' Try.func68 (by kernel_rfl) rfl
instance eF69 : EnterF Try.prog 69 := .mk' Try.func69 (by kernel_rfl) rfl
instance eF70 : EnterF Try.prog 70 := .mk' Try.func70 (by kernel_rfl) rfl
instance eF71 : EnterF Try.prog 71 := .mk' Try.func71 (by kernel_rfl) rfl
instance eF72 : EnterF Try.prog 72 := .mk' Try.func72 (by kernel_rfl) rfl
instance eF73 : EnterF Try.prog 73 := .mk' Try.func73 (by kernel_rfl) rfl
instance eF74 : EnterF Try.prog 74 := .mk' Try.func74 (by kernel_rfl) rfl
instance eF75 : EnterF Try.prog 75 := .mk' Try.func75 (by kernel_rfl) rfl
instance eF76 : EnterF Try.prog 76 := .mk' Try.func76 (by kernel_rfl) rfl
instance eF77 : EnterF Try.prog 77 := .mk' Try.func77 (by kernel_rfl) rfl
instance eF78 : EnterF Try.prog 78 := .mk' Try.func78 (by kernel_rfl) rfl
instance eF79 : EnterF Try.prog 79 := .mk' Try.func79 (by kernel_rfl) rfl
instance eF80 : EnterF Try.prog 80 := .mk' Try.func80 (by kernel_rfl) rfl
instance eF81 : EnterF Try.prog 81 := .mk' Try.func81 (by kernel_rfl) rfl
instance eF82 : EnterF Try.prog 82 := .mk' Try.func82 (by kernel_rfl) rfl
instance eF83 : EnterF Try.prog 83 := .mk' Try.func83 (by kernel_rfl) rfl
instance eF84 : EnterF Try.prog 84 := .mk' Try.func84 (by kernel_rfl) rfl
instance eF85 : EnterF Try.prog 85 := .mk' Try.func85 (by kernel_rfl) rfl
instance eF86 : EnterF Try.prog 86 := .mk' Try.func86 (by kernel_rfl) rfl
instance eF87 : EnterF Try.prog 87 := .mk' Try.func87 (by kernel_rfl) rfl
instance eF88 : EnterF Try.prog 88 := .mk' Try.func88 (by kernel_rfl) rfl
instance eF89 : EnterF Try.prog 89 := .mk' Try.func89 (by kernel_rfl) rfl
instance eF90 : EnterF Try.prog 90 := .mk' Try.func90 (by kernel_rfl) rfl
instance eF91 : EnterF Try.prog 91 := .mk' Try.func91 (by kernel_rfl) rfl
instance eF92 : EnterF Try.prog 92 := .mk' Try.func92 (by kernel_rfl) rfl
instance eF93 : EnterF Try.prog 93 := .mk' Try.func93 (by kernel_rfl) rfl
instance eF94 : EnterF Try.prog 94 := .mk' Try.func94 (by kernel_rfl) rfl
instance eF95 : EnterF Try.prog 95 := .mk' Try.func95 (by kernel_rfl) rfl
instance eF96 : EnterF Try.prog 96 := .mk' Try.func96 (by kernel_rfl) rfl
instance eF97 : EnterF Try.prog 97 := .mk' Try.func97 (by kernel_rfl) rfl
instance eF98 : EnterF Try.prog 98 := .mk' Try.func98 (by kernel_rfl) rfl
instance eF99 : EnterF Try.prog 99 := .mk' Try.func99 (by kernel_rfl) rfl
instance eF100 : EnterF Try.prog 100 := .mk' Try.func100 (by kernel_rfl) rfl
instance eF101 : EnterF Try.prog 101 := .mk' Try.func101 (by kernel_rfl) rfl
instance eF102 : EnterF Try.prog 102 := .mk' Try.func102 (by kernel_rfl) rfl
instance eF103 : EnterF Try.prog 103 := .mk' Try.func103 (by kernel_rfl) rfl
instance eF104 : EnterF Try.prog 104 := .mk' Try.func104 (by kernel_rfl) rfl
instance eF105 : EnterF Try.prog 105 := .mk' Try.func105 (by kernel_rfl) rfl
instance eF106 : EnterF Try.prog 106 := .mk' Try.func106 (by kernel_rfl) rfl
instance eF107 : EnterF Try.prog 107 := .mk' Try.func107 (by kernel_rfl) rfl
instance eF108 : EnterF Try.prog 108 := .mk' Try.func108 (by kernel_rfl) rfl
instance eF109 : EnterF Try.prog 109 := .mk' Try.func109 (by kernel_rfl) rfl
instance eF110 : EnterF Try.prog 110 := .mk' Try.func110 (by kernel_rfl) rfl
instance eF111 : EnterF Try.prog 111 := .mk' Try.func111 (by kernel_rfl) rfl
instance eF112 : EnterF Try.prog 112 := .mk' Try.func112 (by kernel_rfl) rfl
instance eF113 : EnterF Try.prog 113 := .mk' Try.func113 (by kernel_rfl) rfl
instance eF114 : EnterF Try.prog 114 := .mk' Try.func114 (by kernel_rfl) rfl
instance eF115 : EnterF Try.prog 115 := .mk' Try.func115 (by kernel_rfl) rfl
instance eF116 : EnterF Try.prog 116 := .mk' Try.func116 (by kernel_rfl) rfl
instance eF117 : EnterF Try.prog 117 := .mk' Try.func117 (by kernel_rfl) rfl
instance eF118 : EnterF Try.prog 118 := .mk' Try.func118 (by kernel_rfl) rfl
instance eF119 : EnterF Try.prog 119 := .mk' Try.func119 (by kernel_rfl) rfl
instance eF120 : EnterF Try.prog 120 := .mk' Try.func120 (by kernel_rfl) rfl
instance eF121 : EnterF Try.prog 121 := .mk' Try.func121 (by kernel_rfl) rfl
instance eF122 : EnterF Try.prog 122 := .mk' Try.func122 (by kernel_rfl) rfl
instance eF123 : EnterF Try.prog 123 := .mk' Try.func123 (by kernel_rfl) rfl
instance eF124 : EnterF Try.prog 124 := .mk' Try.func124 (by kernel_rfl) rfl
instance eF125 : EnterF Try.prog 125 := .mk' Try.func125 (by kernel_rfl) rfl
instance eF126 : EnterF Try.prog 126 := .mk' Try.func126 (by kernel_rfl) rfl
instance eF127 : EnterF Try.prog 127 := .mk' Try.func127 (by kernel_rfl) rfl
instance eF128 : EnterF Try.prog 128 := .mk' Try.func128 (by kernel_rfl) rfl
end Go.Proofs.Ytnjmplapjnnjdaa
