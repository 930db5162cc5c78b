import Derived.Test.YtnjmplapjnnjdaaGreatProg
import Derived.WalkKit
import Derived.WalkSpells
import Derived.WalkLawsBesides
import Derived.BigQuiet
import Derived.Deep.QuietTactic
import Derived.Deep.CutBlock
import Derived.Deep.DeepCutAuto
import Derived.Deep.LoopGhost
import Derived.Lib.Hide
set_option linter.unusedSimpArgs false
set_option linter.unusedVariables false
set_option linter.unnecessarySimpa false
/- Words that all texts of this seat share: how a problem lies in memory, loads of whole structs and arrays, small laws on worlds. No program's text is named here. -/
namespace Go.Proofs.YtnjmplapjnnjdaaGreat
open Go.RowKit

section
variable {P : Program}

def isAggD : TypeDesc → Bool
  | .struct _ | .array _ _ => true
  | _ => false

/-- What a load of a struct or an array of n cells comes to. -/
def loadAgg (w : World) (b off n : Nat) : Result Value :=
  match w.heap[b]? with
  | some (.cells cs _ _) => if off + n ≤ cs.size then .ok (.agg (cs.extract off (off + n))) w else .halt (.stuck "no such cells") w
  | _ => .halt (.stuck "no such cells") w

theorem loadAgg_block {w : World} {b off n : Nat} {cs : Array Value} {t : TypeId} {fr : Nat × Nat} (hb : w.heap[b]? = some (.cells cs t fr)) (h : off + n ≤ cs.size) :
    loadAgg w b off n = .ok (.agg (cs.extract off (off + n))) w := by simp [loadAgg, hb, h]

theorem run_loadVar_block (w : World) (b off n : Nat) (t ty : TypeId) (cs : Array Value) (fr : Nat × Nat) (d : TypeDesc) (hg : w.heap[b]? = some (.cells cs t fr))
    (hu : P.underlying ty = some d) (hd : isAggD d = true) (hi : (P.info? ty).map (·.size) = some n) (hn : off + n ≤ cs.size) :
    (loadVar ty ⟨b, off, none⟩).run P w = .ok (.agg (cs.extract off (off + n))) w := by
  have hl : (loadCells ⟨b, off, none⟩ n).run P w = .ok (cs.extract off (off + n)) w := by
    have hsz : ((cs.toList.drop off).take n).length = n := by simp; omega
    have := run_loadCells_list (P := P) w ⟨b, off, none⟩ ((cs.toList.drop off).take n) (fun j v hv => by
      have hadd : (⟨b, off, none⟩ : Addr).add j = ⟨b, off + j, none⟩ := by unfold Addr.add; split <;> simp_all
      rw [hadd, cell_of_row w b (off + j) cs t fr hg]
      rw [List.getElem?_take] at hv
      split at hv
      · simpa using hv
      · cases hv)
    rw [hsz] at this
    rw [this]
    congr 1
    apply Array.ext'
    simp [Array.toList_extract, List.extract_eq_take_drop]
  cases hq : P.info? ty with
  | none => simp [hq] at hi
  | some i =>
    have hs : i.size = n := by simpa [hq] using hi
    have hagg : (isAgg ty).run P w = .ok true w := by
      unfold isAgg
      rw [Sem.run_bind, run_underlying hu w]
      cases d <;> simp_all [isAggD]
    simp [loadVar, Sem.run_bind, hagg, sizeOf, typeInfo, hq, hs, hl]

end

/-- Did it come to an end? -/
def okRes : Result Value → Bool
  | .ok _ _ => true
  | _ => false
theorem run_loadVar_agg {P : Program} {w : World} {b off n : Nat} {ty : TypeId} {d : TypeDesc} (hu : P.underlying ty = some d) (hd : isAggD d = true)
    (hi : (P.info? ty).map (·.size) = some n) (h : okRes (loadAgg w b off n) = true) : (loadVar ty ⟨b, off, none⟩).run P w = loadAgg w b off n := by
  unfold loadAgg at h ⊢
  split at h
  · rename_i cs t fr hb
    split at h
    · rename_i hn
      rw [run_loadVar_block w b off n t ty cs fr d hb hu hd hi hn, if_pos hn]
    · cases h
  · cases h

/-- A struct's or an array's type of n cells. -/
class AggTy (P : Program) (t : TypeId) (n : outParam Nat) : Prop where
  out : ∃ d, P.underlying t = some d ∧ isAggD d = true ∧ (P.info? t).map (·.size) = some n
theorem AggTy.mk' {P : Program} {t : TypeId} {n : Nat} {d : TypeDesc} (h1 : P.underlying t = some d) (h2 : isAggD d = true) (h3 : (P.info? t).map (·.size) = some n) : AggTy P t n := ⟨d, h1, h2, h3⟩

theorem put_list (l : List Value) (ds : List Deferred) (d : Nat) (v : Value) : (Act.mk l.toArray ds).put (some d) v = ⟨(l.set d v).toArray, ds⟩ := by simp [Act.put]
/-- THE ARM for a load of a whole struct or array: '((with_reducible apply ld); rfl; (with_reducible assumption); lset)', where 'lset' is 'simp only [List.set_cons_zero, List.set_cons_succ]'. -/
theorem ld {P : Program} {ops : Array Oper} {rest : List Oper} {l l' : List Value} {ds : List Deferred} {w : World} {Q : Exit → Act → World → Prop} {t n b off d : Nat} {x : Operand} {v : Value} {ty : TypeId} {ps : String} {af : Array Edge}
    (hx : (Act.mk l.toArray ds).eval x = .pointer (some ⟨b, off, none⟩)) [T : AggTy P t n] (hl : loadAgg w b off n = .ok v w) (hs : l.set d v = l') (h : wpList P ops Q rest ⟨l'.toArray, ds⟩ w) :
    wpList P ops Q (⟨some d, .load t x, ty, ps, af, none⟩ :: rest) ⟨l.toArray, ds⟩ w := by
  obtain ⟨d, h1, h2, h3⟩ := T.out
  refine wpList_plain rfl fun K hK => ?_
  unfold Oper.wp execOp
  have := run_loadVar_agg (P := P) (w := w) (b := b) (off := off) h1 h2 h3 (by rw [hl]; rfl)
  simp only [hx, Instr.loadAt, Instr.sureAddr, Sem.run_bind, Sem.run_pure, Result.andThen_ok, this, hl]
  rw [Oper.upon_value, put_list, hs]
  exact hK _ _ h

/-- A type whose variables are one cell. -/
class CellTy (P : Program) (t : TypeId) : Prop where
  out : ∃ d, P.underlying t = some d ∧ isAggD d = false ∧ (P.info? t).map (·.size) = some 1
theorem CellTy.mk' {P : Program} {t : TypeId} {d : TypeDesc} (h1 : P.underlying t = some d) (h2 : isAggD d = false) (h3 : (P.info? t).map (·.size) = some 1) : CellTy P t := ⟨d, h1, h2, h3⟩
/-- A function whose call enters its body. -/
class EnterF (P : Program) (f : FuncId) : Prop where
  out : ∀ (args : Array Value) (w : World), (callFunc f args).run P w = .ok (.enter f args) w
theorem EnterF.mk' {P : Program} {f : FuncId} {fn : Func} {c : Code} (hf : P.funcs[f]? = some fn) (hname : (fn.name == "runtime.NumGoroutine") = false) (hb : fn.body = some c) : EnterF P f := ⟨fun args w => by
  have hn : ¬ fn.name = "runtime.NumGoroutine" := by simpa using hname
  simp [callFunc, Sem.run_bind, program, Sem.run, hf, hn, hb]⟩

/-- The call hands back v, and leaves all that was there as it was. -/
abbrev Pure (P : Program) (f : FuncId) (args : Array Value) (w : World) (v : Value) : Prop := Calls P f args w fun e w' => e = .returned v ∧ Below w.heap.size w w'
theorem ret_int {k : IntKind} {a b : Int} (h : a = b) : Ending.returned (.int k a) = .returned (.int k b) := by rw [h]
/-! ### Regions that draw their order, all of whose operations leave what lay there as it was -/
theorem lt_of_cell {w : World} {ad : Addr} {v : Value} (h : w.cell? ad = some v) : ad.block < w.heap.size := by
  unfold World.cell? at h
  split at h
  · rename_i hb
    exact (Array.getElem?_eq_some_iff.1 hb).1
  · cases h
theorem lt_of_loadAgg {w w1 : World} {b off n : Nat} {v : Value} (h : loadAgg w b off n = .ok v w1) : b < w.heap.size := by
  unfold loadAgg at h
  split at h
  · rename_i hb
    exact (Array.getElem?_eq_some_iff.1 hb).1
  · cases h
theorem Below.loadAgg {B : Nat} {w w' : World} (h : Below B w w') {b off n : Nat} {v : Value} (hb : b < B) (hl : Proofs.YtnjmplapjnnjdaaGreat.loadAgg w b off n = .ok v w) : Proofs.YtnjmplapjnnjdaaGreat.loadAgg w' b off n = .ok v w' := by
  unfold Proofs.YtnjmplapjnnjdaaGreat.loadAgg at hl ⊢
  rw [h.block b hb]
  split at hl
  · split at hl
    · rename_i hn
      rw [if_pos hn]
      injection hl with hl _
      rw [hl]
    · cases hl
  · cases hl

/-- The worlds that a region of this kind may come to. -/
def KeptW (w : World) := { w' : World // Below w.heap.size w w' }
instance (w : World) : Nonempty (KeptW w) := ⟨⟨w, Below.refl _ _⟩⟩
theorem KeptW.cell {w : World} {ad : Addr} {v : Value} (h : w.cell? ad = some v) (s : KeptW w) : s.val.cell? ad = some v := (s.property.cell (lt_of_cell h)).trans h
section
variable {P : Program} {ops : Array Oper} {w : World} {Q : Act → Prop} {a : Act} {o : Oper} {rest : List Oper} {ty : TypeId} {ps : String} {af : Array Edge} {d : Nat}

theorem wp_region_kept {id : Nat} {Q : Exit → Act → World → Prop} {l : List Oper} (hm : P.follows .mixedOrders = true) (hB : Region.lexB .any l.toArray = true)
    (h : wpQuiet P l.toArray (fun w' => ∃ s : KeptW w, w' = s.val) (fun a' => ∀ w', Below w.heap.size w w' → Q .normal a' w') l a) : (Code.region id l.toArray true).wp P Q a w :=
  wp_region_quiet (C := fun w' => ∃ s : KeptW w, w' = s.val) hm hB ⟨⟨_, (Below.refl _ w).drew⟩, rfl⟩ (by
    have : (fun a' => ∀ w', Below w.heap.size w w' → Q .normal a' w') = (fun a' => ∀ w', (∃ s : KeptW w, w' = s.val) → Q .normal a' w') := by
      funext a'
      exact propext ⟨fun h w' ⟨s, hs⟩ => hs ▸ h _ s.property, fun h w' hb => h w' ⟨⟨w', hb⟩, rfl⟩⟩
    rw [← this]
    simpa using h)
/-- a load of a struct or an array in such a region -/
theorem q_ld {l l' : List Value} {ds : List Deferred} {t n b off : Nat} {x : Operand} {v : Value} (hx : (Act.mk l.toArray ds).eval x = .pointer (some ⟨b, off, none⟩)) [T : AggTy P t n] (hl : loadAgg w b off n = .ok v w) (hs : l.set d v = l')
    (h : wpQuiet P ops (fun w' => ∃ s : KeptW w, w' = s.val) Q rest ⟨l'.toArray, ds⟩) : wpQuiet P ops (fun w' => ∃ s : KeptW w, w' = s.val) Q (⟨some d, .load t x, ty, ps, af, none⟩ :: rest) ⟨l.toArray, ds⟩ := by
  obtain ⟨d, h1, h2, h3⟩ := T.out
  refine BigFrame.wpQuiet_want rfl fun K hK => ⟨v, fun w' ⟨s, hs⟩ => ?_, hK _ (by rw [put_list, hs]; exact h)⟩
  subst hs
  have hl' := Below.loadAgg s.property (lt_of_loadAgg hl) hl
  have := run_loadVar_agg (P := P) (w := s.val) (b := b) (off := off) h1 h2 h3 (by rw [hl']; rfl)
  unfold Oper.quietAt execOp
  simp [hx, Instr.loadAt, Instr.sureAddr, Sem.run_bind, this, hl', Oper.quietUpon]
/-- a call's contract, in such a region -/
theorem Calls.kept {f : FuncId} {args : Array Value} {s : KeptW w} {v : Value} (h : Calls P f args s.val fun e w' => e = .returned v ∧ Below s.val.heap.size s.val w') :
    Calls P f args s.val fun e w'' => e = .returned v ∧ ∃ s' : KeptW w, w'' = s'.val :=
  h.mono fun _ w'' ⟨he, hb⟩ => ⟨he, ⟨w'', s.property.trans (hb.mono s.property.size)⟩, rfl⟩
end

/-! ### A table in a string constant -/
theorem run_strtab {P : Program} {t : TypeId} {s : ByteArray} {k : IntKind} {n : Int} {f : Nat → Nat} (w : World) (ht : P.underlying t = some .string) (hs : (List.range 256).all (fun i => s[i]? == some (UInt8.ofNat (f i))) = true) (h0 : 0 ≤ n) (hn : n < 256) (hf : f n.toNat < 256) :
    (Instr.index t (.string s) (.int k n)).run P w = .ok (.int .u8 (f n.toNat)) w := by
  have h := List.all_eq_true.1 hs n.toNat (by simp; omega)
  have h' : s[n.toNat]? = some (UInt8.ofNat (f n.toNat)) := by simpa using h
  have hv : (UInt8.ofNat (f n.toNat)).toNat = f n.toNat := by simp; omega
  simp [Instr.index, asIntOf, Sem.run_bind, run_underlying ht w, h0, h', hv]
/-- THE ARM in a plain region -/
theorem w_strtab {P : Program} {ops : Array Oper} {rest : List Oper} {l l' : List Value} {ds : List Deferred} {w : World} {Q : Exit → Act → World → Prop} {t : TypeId} {s : ByteArray} {y : Operand} {k : IntKind} {n : Int} (f : Nat → Nat) {d : Nat} {ty : TypeId} {ps : String} {af : Array Edge}
    (ht : P.underlying t = some .string) (hs : (List.range 256).all (fun i => s[i]? == some (UInt8.ofNat (f i))) = true) (hy : (Act.mk l.toArray ds).eval y = .int k n) (h0 : 0 ≤ n) (hn : n < 256) (hf : f n.toNat < 256) (hl : l.set d (.int .u8 (f n.toNat)) = l')
    (h : wpList P ops Q rest ⟨l'.toArray, ds⟩ w) : wpList P ops Q (⟨some d, .index t (.const (.string s)) y, ty, ps, af, none⟩ :: rest) ⟨l.toArray, ds⟩ w := by
  refine wpList_plain rfl fun K hK => ?_
  unfold Oper.wp execOp
  simp only [hy, BigFrame.eval_const, Sem.run_bind, run_strtab w ht hs h0 hn hf, Result.andThen_ok, Sem.run_pure]
  rw [Oper.upon_value, put_list, hl]
  exact hK _ _ h
/-- .. and in one that draws its order -/
theorem q_strtab {P : Program} {ops : Array Oper} {rest : List Oper} {l l' : List Value} {ds : List Deferred} {C : World → Prop} {Q : Act → Prop} {t : TypeId} {s : ByteArray} {y : Operand} {k : IntKind} {n : Int} (f : Nat → Nat) {d : Nat} {ty : TypeId} {ps : String} {af : Array Edge}
    (ht : P.underlying t = some .string) (hs : (List.range 256).all (fun i => s[i]? == some (UInt8.ofNat (f i))) = true) (hy : (Act.mk l.toArray ds).eval y = .int k n) (h0 : 0 ≤ n) (hn : n < 256) (hf : f n.toNat < 256) (hl : l.set d (.int .u8 (f n.toNat)) = l')
    (h : wpQuiet P ops C Q rest ⟨l'.toArray, ds⟩) : wpQuiet P ops C Q (⟨some d, .index t (.const (.string s)) y, ty, ps, af, none⟩ :: rest) ⟨l.toArray, ds⟩ := by
  refine BigFrame.wpQuiet_want rfl fun K hK => ⟨_, fun w' _ => ?_, hK _ (by rw [put_list, hl]; exact h)⟩
  unfold Oper.quietAt execOp
  simp only [hy, BigFrame.eval_const, Sem.run_bind, run_strtab w' ht hs h0 hn hf, Result.andThen_ok]
  exact ⟨rfl, rfl⟩

end Go.Proofs.YtnjmplapjnnjdaaGreat

/- Facts on this seat's types and functions: the sizes of structs and arrays, the types of one cell, the functions that a call enters. By gen_types.py. -/
namespace Go.Proofs.YtnjmplapjnnjdaaGreat
open Go.RowKit

instance aT7 : AggTy Tryz.prog 7 4 := .mk' Tryz.underlying7 rfl (by kernel_rfl)
instance aT8 : AggTy Tryz.prog 8 4 := .mk' Tryz.underlying8 rfl (by kernel_rfl)
instance aT13 : AggTy Tryz.prog 13 2 := .mk' Tryz.underlying13 rfl (by kernel_rfl)
instance aT14 : AggTy Tryz.prog 14 2 := .mk' Tryz.underlying14 rfl (by kernel_rfl)
instance aT18 : AggTy Tryz.prog 18 1 := .mk' Tryz.underlying18 rfl (by kernel_rfl)
instance aT19 : AggTy Tryz.prog 19 1 := .mk' Tryz.underlying19 rfl (by kernel_rfl)
instance aT23 : AggTy Tryz.prog 23 3 := .mk' Tryz.underlying23 rfl (by kernel_rfl)
instance aT24 : AggTy Tryz.prog 24 5 := .mk' Tryz.underlying24 rfl (by kernel_rfl)
instance aT25 : AggTy Tryz.prog 25 5 := .mk' Tryz.underlying25 rfl (by kernel_rfl)
instance aT26 : AggTy Tryz.prog 26 16 := .mk' Tryz.underlying26 rfl (by kernel_rfl)
instance aT27 : AggTy Tryz.prog 27 32 := .mk' Tryz.underlying27 rfl (by kernel_rfl)
instance aT28 : AggTy Tryz.prog 28 33 := .mk' Tryz.underlying28 rfl (by kernel_rfl)
instance aT29 : AggTy Tryz.prog 29 33 := .mk' Tryz.underlying29 rfl (by kernel_rfl)
instance aT31 : AggTy Tryz.prog 31 40 := .mk' Tryz.underlying31 rfl (by kernel_rfl)
instance aT32 : AggTy Tryz.prog 32 40 := .mk' Tryz.underlying32 rfl (by kernel_rfl)
instance aT47 : AggTy Tryz.prog 47 2 := .mk' Tryz.underlying47 rfl (by kernel_rfl)
instance aT48 : AggTy Tryz.prog 48 2 := .mk' Tryz.underlying48 rfl (by kernel_rfl)
instance aT62 : AggTy Tryz.prog 62 9 := .mk' Tryz.underlying62 rfl (by kernel_rfl)
instance aT63 : AggTy Tryz.prog 63 9 := .mk' Tryz.underlying63 rfl (by kernel_rfl)
instance aT65 : AggTy Tryz.prog 65 3 := .mk' Tryz.underlying65 rfl (by kernel_rfl)
instance aT66 : AggTy Tryz.prog 66 3 := .mk' Tryz.underlying66 rfl (by kernel_rfl)
instance aT68 : AggTy Tryz.prog 68 6 := .mk' Tryz.underlying68 rfl (by kernel_rfl)
instance aT69 : AggTy Tryz.prog 69 6 := .mk' Tryz.underlying69 rfl (by kernel_rfl)
instance aT74 : AggTy Tryz.prog 74 40 := .mk' Tryz.underlying74 rfl (by kernel_rfl)
instance aT75 : AggTy Tryz.prog 75 40 := .mk' Tryz.underlying75 rfl (by kernel_rfl)
instance aT76 : AggTy Tryz.prog 76 4 := .mk' Tryz.underlying76 rfl (by kernel_rfl)
instance aT77 : AggTy Tryz.prog 77 4 := .mk' Tryz.underlying77 rfl (by kernel_rfl)
instance aT79 : AggTy Tryz.prog 79 53 := .mk' Tryz.underlying79 rfl (by kernel_rfl)
instance aT80 : AggTy Tryz.prog 80 53 := .mk' Tryz.underlying80 rfl (by kernel_rfl)
instance aT85 : AggTy Tryz.prog 85 7 := .mk' Tryz.underlying85 rfl (by kernel_rfl)
instance aT86 : AggTy Tryz.prog 86 7 := .mk' Tryz.underlying86 rfl (by kernel_rfl)
instance aT98 : AggTy Tryz.prog 98 6 := .mk' Tryz.underlying98 rfl (by kernel_rfl)
instance aT99 : AggTy Tryz.prog 99 6 := .mk' Tryz.underlying99 rfl (by kernel_rfl)
instance aT102 : AggTy Tryz.prog 102 3 := .mk' Tryz.underlying102 rfl (by kernel_rfl)
instance aT110 : AggTy Tryz.prog 110 11 := .mk' Tryz.underlying110 rfl (by kernel_rfl)
instance aT111 : AggTy Tryz.prog 111 11 := .mk' Tryz.underlying111 rfl (by kernel_rfl)
instance aT160 : AggTy Tryz.prog 160 4 := .mk' Tryz.underlying160 rfl (by kernel_rfl)
instance aT161 : AggTy Tryz.prog 161 4 := .mk' Tryz.underlying161 rfl (by kernel_rfl)
instance aT162 : AggTy Tryz.prog 162 0 := .mk' Tryz.underlying162 rfl (by kernel_rfl)
instance aT163 : AggTy Tryz.prog 163 0 := .mk' Tryz.underlying163 rfl (by kernel_rfl)
instance aT164 : AggTy Tryz.prog 164 0 := .mk' Tryz.underlying164 rfl (by kernel_rfl)
instance aT171 : AggTy Tryz.prog 171 11 := .mk' Tryz.underlying171 rfl (by kernel_rfl)
instance aT172 : AggTy Tryz.prog 172 11 := .mk' Tryz.underlying172 rfl (by kernel_rfl)
instance cT1 : CellTy Tryz.prog 1 := .mk' Tryz.underlying1 rfl (by kernel_rfl)
instance cT2 : CellTy Tryz.prog 2 := .mk' Tryz.underlying2 rfl (by kernel_rfl)
instance cT3 : CellTy Tryz.prog 3 := .mk' Tryz.underlying3 rfl (by kernel_rfl)
instance cT4 : CellTy Tryz.prog 4 := .mk' Tryz.underlying4 rfl (by kernel_rfl)
instance cT5 : CellTy Tryz.prog 5 := .mk' Tryz.underlying5 rfl (by kernel_rfl)
instance cT6 : CellTy Tryz.prog 6 := .mk' Tryz.underlying6 rfl (by kernel_rfl)
instance cT9 : CellTy Tryz.prog 9 := .mk' Tryz.underlying9 rfl (by kernel_rfl)
instance cT10 : CellTy Tryz.prog 10 := .mk' Tryz.underlying10 rfl (by kernel_rfl)
instance cT11 : CellTy Tryz.prog 11 := .mk' Tryz.underlying11 rfl (by kernel_rfl)
instance cT12 : CellTy Tryz.prog 12 := .mk' Tryz.underlying12 rfl (by kernel_rfl)
instance cT15 : CellTy Tryz.prog 15 := .mk' Tryz.underlying15 rfl (by kernel_rfl)
instance cT16 : CellTy Tryz.prog 16 := .mk' Tryz.underlying16 rfl (by kernel_rfl)
instance cT17 : CellTy Tryz.prog 17 := .mk' Tryz.underlying17 rfl (by kernel_rfl)
instance cT21 : CellTy Tryz.prog 21 := .mk' Tryz.underlying21 rfl (by kernel_rfl)
instance cT22 : CellTy Tryz.prog 22 := .mk' Tryz.underlying22 rfl (by kernel_rfl)
instance cT30 : CellTy Tryz.prog 30 := .mk' Tryz.underlying30 rfl (by kernel_rfl)
instance cT33 : CellTy Tryz.prog 33 := .mk' Tryz.underlying33 rfl (by kernel_rfl)
instance cT34 : CellTy Tryz.prog 34 := .mk' Tryz.underlying34 rfl (by kernel_rfl)
instance cT35 : CellTy Tryz.prog 35 := .mk' Tryz.underlying35 rfl (by kernel_rfl)
instance cT36 : CellTy Tryz.prog 36 := .mk' Tryz.underlying36 rfl (by kernel_rfl)
instance cT38 : CellTy Tryz.prog 38 := .mk' Tryz.underlying38 rfl (by kernel_rfl)
instance cT39 : CellTy Tryz.prog 39 := .mk' Tryz.underlying39 rfl (by kernel_rfl)
instance cT41 : CellTy Tryz.prog 41 := .mk' Tryz.underlying41 rfl (by kernel_rfl)
instance cT42 : CellTy Tryz.prog 42 := .mk' Tryz.underlying42 rfl (by kernel_rfl)
instance cT43 : CellTy Tryz.prog 43 := .mk' Tryz.underlying43 rfl (by kernel_rfl)
instance cT44 : CellTy Tryz.prog 44 := .mk' Tryz.underlying44 rfl (by kernel_rfl)
instance cT45 : CellTy Tryz.prog 45 := .mk' Tryz.underlying45 rfl (by kernel_rfl)
instance cT46 : CellTy Tryz.prog 46 := .mk' Tryz.underlying46 rfl (by kernel_rfl)
instance cT49 : CellTy Tryz.prog 49 := .mk' Tryz.underlying49 rfl (by kernel_rfl)
instance cT50 : CellTy Tryz.prog 50 := .mk' Tryz.underlying50 rfl (by kernel_rfl)
instance cT51 : CellTy Tryz.prog 51 := .mk' Tryz.underlying51 rfl (by kernel_rfl)
instance cT53 : CellTy Tryz.prog 53 := .mk' Tryz.underlying53 rfl (by kernel_rfl)
instance cT55 : CellTy Tryz.prog 55 := .mk' Tryz.underlying55 rfl (by kernel_rfl)
instance cT56 : CellTy Tryz.prog 56 := .mk' Tryz.underlying56 rfl (by kernel_rfl)
instance cT58 : CellTy Tryz.prog 58 := .mk' Tryz.underlying58 rfl (by kernel_rfl)
instance cT59 : CellTy Tryz.prog 59 := .mk' Tryz.underlying59 rfl (by kernel_rfl)
instance cT60 : CellTy Tryz.prog 60 := .mk' Tryz.underlying60 rfl (by kernel_rfl)
instance cT61 : CellTy Tryz.prog 61 := .mk' Tryz.underlying61 rfl (by kernel_rfl)
instance cT64 : CellTy Tryz.prog 64 := .mk' Tryz.underlying64 rfl (by kernel_rfl)
instance cT67 : CellTy Tryz.prog 67 := .mk' Tryz.underlying67 rfl (by kernel_rfl)
instance cT70 : CellTy Tryz.prog 70 := .mk' Tryz.underlying70 rfl (by kernel_rfl)
instance cT72 : CellTy Tryz.prog 72 := .mk' Tryz.underlying72 rfl (by kernel_rfl)
instance cT73 : CellTy Tryz.prog 73 := .mk' Tryz.underlying73 rfl (by kernel_rfl)
instance cT78 : CellTy Tryz.prog 78 := .mk' Tryz.underlying78 rfl (by kernel_rfl)
instance cT82 : CellTy Tryz.prog 82 := .mk' Tryz.underlying82 rfl (by kernel_rfl)
instance cT83 : CellTy Tryz.prog 83 := .mk' Tryz.underlying83 rfl (by kernel_rfl)
instance cT84 : CellTy Tryz.prog 84 := .mk' Tryz.underlying84 rfl (by kernel_rfl)
instance cT87 : CellTy Tryz.prog 87 := .mk' Tryz.underlying87 rfl (by kernel_rfl)
instance cT89 : CellTy Tryz.prog 89 := .mk' Tryz.underlying89 rfl (by kernel_rfl)
instance cT90 : CellTy Tryz.prog 90 := .mk' Tryz.underlying90 rfl (by kernel_rfl)
instance cT92 : CellTy Tryz.prog 92 := .mk' Tryz.underlying92 rfl (by kernel_rfl)
instance cT94 : CellTy Tryz.prog 94 := .mk' Tryz.underlying94 rfl (by kernel_rfl)
instance cT95 : CellTy Tryz.prog 95 := .mk' Tryz.underlying95 rfl (by kernel_rfl)
instance cT96 : CellTy Tryz.prog 96 := .mk' Tryz.underlying96 rfl (by kernel_rfl)
instance cT97 : CellTy Tryz.prog 97 := .mk' Tryz.underlying97 rfl (by kernel_rfl)
instance cT101 : CellTy Tryz.prog 101 := .mk' Tryz.underlying101 rfl (by kernel_rfl)
instance cT104 : CellTy Tryz.prog 104 := .mk' Tryz.underlying104 rfl (by kernel_rfl)
instance cT106 : CellTy Tryz.prog 106 := .mk' Tryz.underlying106 rfl (by kernel_rfl)
instance cT107 : CellTy Tryz.prog 107 := .mk' Tryz.underlying107 rfl (by kernel_rfl)
instance cT108 : CellTy Tryz.prog 108 := .mk' Tryz.underlying108 rfl (by kernel_rfl)
instance cT109 : CellTy Tryz.prog 109 := .mk' Tryz.underlying109 rfl (by kernel_rfl)
instance cT113 : CellTy Tryz.prog 113 := .mk' Tryz.underlying113 rfl (by kernel_rfl)
instance cT114 : CellTy Tryz.prog 114 := .mk' Tryz.underlying114 rfl (by kernel_rfl)
instance cT115 : CellTy Tryz.prog 115 := .mk' Tryz.underlying115 rfl (by kernel_rfl)
instance cT116 : CellTy Tryz.prog 116 := .mk' Tryz.underlying116 rfl (by kernel_rfl)
instance cT117 : CellTy Tryz.prog 117 := .mk' Tryz.underlying117 rfl (by kernel_rfl)
instance cT118 : CellTy Tryz.prog 118 := .mk' Tryz.underlying118 rfl (by kernel_rfl)
instance cT119 : CellTy Tryz.prog 119 := .mk' Tryz.underlying119 rfl (by kernel_rfl)
instance cT120 : CellTy Tryz.prog 120 := .mk' Tryz.underlying120 rfl (by kernel_rfl)
instance cT121 : CellTy Tryz.prog 121 := .mk' Tryz.underlying121 rfl (by kernel_rfl)
instance cT122 : CellTy Tryz.prog 122 := .mk' Tryz.underlying122 rfl (by kernel_rfl)
instance cT123 : CellTy Tryz.prog 123 := .mk' Tryz.underlying123 rfl (by kernel_rfl)
instance cT124 : CellTy Tryz.prog 124 := .mk' Tryz.underlying124 rfl (by kernel_rfl)
instance cT126 : CellTy Tryz.prog 126 := .mk' Tryz.underlying126 rfl (by kernel_rfl)
instance cT127 : CellTy Tryz.prog 127 := .mk' Tryz.underlying127 rfl (by kernel_rfl)
instance cT128 : CellTy Tryz.prog 128 := .mk' Tryz.underlying128 rfl (by kernel_rfl)
instance cT129 : CellTy Tryz.prog 129 := .mk' Tryz.underlying129 rfl (by kernel_rfl)
instance cT131 : CellTy Tryz.prog 131 := .mk' Tryz.underlying131 rfl (by kernel_rfl)
instance cT132 : CellTy Tryz.prog 132 := .mk' Tryz.underlying132 rfl (by kernel_rfl)
instance cT133 : CellTy Tryz.prog 133 := .mk' Tryz.underlying133 rfl (by kernel_rfl)
instance cT135 : CellTy Tryz.prog 135 := .mk' Tryz.underlying135 rfl (by kernel_rfl)
instance cT136 : CellTy Tryz.prog 136 := .mk' Tryz.underlying136 rfl (by kernel_rfl)
instance cT137 : CellTy Tryz.prog 137 := .mk' Tryz.underlying137 rfl (by kernel_rfl)
instance cT139 : CellTy Tryz.prog 139 := .mk' Tryz.underlying139 rfl (by kernel_rfl)
instance cT140 : CellTy Tryz.prog 140 := .mk' Tryz.underlying140 rfl (by kernel_rfl)
instance cT141 : CellTy Tryz.prog 141 := .mk' Tryz.underlying141 rfl (by kernel_rfl)
instance cT142 : CellTy Tryz.prog 142 := .mk' Tryz.underlying142 rfl (by kernel_rfl)
instance cT143 : CellTy Tryz.prog 143 := .mk' Tryz.underlying143 rfl (by kernel_rfl)
instance cT144 : CellTy Tryz.prog 144 := .mk' Tryz.underlying144 rfl (by kernel_rfl)
instance cT145 : CellTy Tryz.prog 145 := .mk' Tryz.underlying145 rfl (by kernel_rfl)
instance cT146 : CellTy Tryz.prog 146 := .mk' Tryz.underlying146 rfl (by kernel_rfl)
instance cT148 : CellTy Tryz.prog 148 := .mk' Tryz.underlying148 rfl (by kernel_rfl)
instance cT149 : CellTy Tryz.prog 149 := .mk' Tryz.underlying149 rfl (by kernel_rfl)
instance cT150 : CellTy Tryz.prog 150 := .mk' Tryz.underlying150 rfl (by kernel_rfl)
instance cT151 : CellTy Tryz.prog 151 := .mk' Tryz.underlying151 rfl (by kernel_rfl)
instance cT152 : CellTy Tryz.prog 152 := .mk' Tryz.underlying152 rfl (by kernel_rfl)
instance cT154 : CellTy Tryz.prog 154 := .mk' Tryz.underlying154 rfl (by kernel_rfl)
instance cT155 : CellTy Tryz.prog 155 := .mk' Tryz.underlying155 rfl (by kernel_rfl)
instance cT156 : CellTy Tryz.prog 156 := .mk' Tryz.underlying156 rfl (by kernel_rfl)
instance cT157 : CellTy Tryz.prog 157 := .mk' Tryz.underlying157 rfl (by kernel_rfl)
instance cT158 : CellTy Tryz.prog 158 := .mk' Tryz.underlying158 rfl (by kernel_rfl)
instance cT159 : CellTy Tryz.prog 159 := .mk' Tryz.underlying159 rfl (by kernel_rfl)
instance cT165 : CellTy Tryz.prog 165 := .mk' Tryz.underlying165 rfl (by kernel_rfl)
instance cT166 : CellTy Tryz.prog 166 := .mk' Tryz.underlying166 rfl (by kernel_rfl)
instance cT167 : CellTy Tryz.prog 167 := .mk' Tryz.underlying167 rfl (by kernel_rfl)
instance cT168 : CellTy Tryz.prog 168 := .mk' Tryz.underlying168 rfl (by kernel_rfl)
instance cT169 : CellTy Tryz.prog 169 := .mk' Tryz.underlying169 rfl (by kernel_rfl)
instance cT170 : CellTy Tryz.prog 170 := .mk' Tryz.underlying170 rfl (by kernel_rfl)
instance eF3 : EnterF Tryz.prog 3 := .mk' Tryz.func3 (by kernel_rfl) rfl
instance eF4 : EnterF Tryz.prog 4 := .mk' Tryz.func4 (by kernel_rfl) rfl
instance eF5 : EnterF Tryz.prog 5 := .mk' Tryz.func5 (by kernel_rfl) rfl
instance eF6 : EnterF Tryz.prog 6 := .mk' Tryz.func6 (by kernel_rfl) rfl
instance eF7 : EnterF Tryz.prog 7 := .mk' Tryz.func7 (by kernel_rfl) rfl
instance eF8 : EnterF Tryz.prog 8 := .mk' Tryz.func8 (by kernel_rfl) rfl
instance eF9 : EnterF Tryz.prog 9 := .mk' Tryz.func9 (by kernel_rfl) rfl
instance eF10 : EnterF Tryz.prog 10 := .mk' Tryz.func10 (by kernel_rfl) rfl
instance eF11 : EnterF Tryz.prog 11 := .mk' Tryz.func11 (by kernel_rfl) rfl
instance eF12 : EnterF Tryz.prog 12 := .mk' Tryz.func12 (by kernel_rfl) rfl
instance eF13 : EnterF Tryz.prog 13 := .mk' Tryz.func13 (by kernel_rfl) rfl
instance eF14 : EnterF Tryz.prog 14 := .mk' Tryz.func14 (by kernel_rfl) rfl
instance eF15 : EnterF Tryz.prog 15 := .mk' Tryz.func15 (by kernel_rfl) rfl
instance eF16 : EnterF Tryz.prog 16 := .mk' Tryz.func16 (by kernel_rfl) rfl
instance eF17 : EnterF Tryz.prog 17 := .mk' Tryz.func17 (by kernel_rfl) rfl
instance eF18 : EnterF Tryz.prog 18 := .mk' Tryz.func18 (by kernel_rfl) rfl
instance eF19 : EnterF Tryz.prog 19 := .mk' Tryz.func19 (by kernel_rfl) rfl
instance eF20 : EnterF Tryz.prog 20 := .mk' Tryz.func20 (by kernel_rfl) rfl
instance eF21 : EnterF Tryz.prog 21 := .mk' Tryz.func21 (by kernel_rfl) rfl
instance eF22 : EnterF Tryz.prog 22 := .mk' Tryz.func22 (by kernel_rfl) rfl
instance eF23 : EnterF Tryz.prog 23 := .mk' Tryz.func23 (by kernel_rfl) rfl
instance eF24 : EnterF Tryz.prog 24 := .mk' Tryz.func24 (by kernel_rfl) rfl
instance eF25 : EnterF Tryz.prog 25 := .mk' Tryz.func25 (by kernel_rfl) rfl
instance eF26 : EnterF Tryz.prog 26 := .mk' Tryz.func26 (by kernel_rfl) rfl
instance eF27 : EnterF Tryz.prog 27 := .mk' Tryz.func27 (by kernel_rfl) rfl
instance eF28 : EnterF Tryz.prog 28 := .mk' Tryz.func28 (by kernel_rfl) rfl
instance eF29 : EnterF Tryz.prog 29 := .mk' Tryz.func29 (by kernel_rfl) rfl
instance eF30 : EnterF Tryz.prog 30 := .mk' Tryz.func30 (by kernel_rfl) rfl
instance eF31 : EnterF Tryz.prog 31 := .mk' Tryz.func31 (by kernel_rfl) rfl
instance eF32 : EnterF Tryz.prog 32 := .mk' Tryz.func32 (by kernel_rfl) rfl
instance eF33 : EnterF Tryz.prog 33 := .mk' Tryz.func33 (by kernel_rfl) rfl
instance eF34 : EnterF Tryz.prog 34 := .mk' Tryz.func34 (by kernel_rfl) rfl
instance eF35 : EnterF Tryz.prog 35 := .mk' Tryz.func35 (by kernel_rfl) rfl
instance eF36 : EnterF Tryz.prog 36 := .mk' Tryz.func36 (by kernel_rfl) rfl
instance eF37 : EnterF Tryz.prog 37 := .mk' Tryz.func37 (by kernel_rfl) rfl
instance eF38 : EnterF Tryz.prog 38 := .mk' Tryz.func38 (by kernel_rfl) rfl
instance eF39 : EnterF Tryz.prog 39 := .mk' Tryz.func39 (by kernel_rfl) rfl
instance eF40 : EnterF Tryz.prog 40 := .mk' Tryz.func40 (by kernel_rfl) rfl
instance eF41 : EnterF Tryz.prog 41 := .mk' Tryz.func41 (by kernel_rfl) rfl
instance eF42 : EnterF Tryz.prog 42 := .mk' Tryz.func42 (by kernel_rfl) rfl
instance eF43 : EnterF Tryz.prog 43 := .mk' Tryz.func43 (by kernel_rfl) rfl
instance eF44 : EnterF Tryz.prog 44 := .mk' Tryz.func44 (by kernel_rfl) rfl
instance eF45 : EnterF Tryz.prog 45 := .mk' Tryz.func45 (by kernel_rfl) rfl
instance eF46 : EnterF Tryz.prog 46 := .mk' Tryz.func46 (by kernel_rfl) rfl
instance eF47 : EnterF Tryz.prog 47 := .mk' Tryz.func47 (by kernel_rfl) rfl
instance eF48 : EnterF Tryz.prog 48 := .mk' Tryz.func48 (by kernel_rfl) rfl
instance eF49 : EnterF Tryz.prog 49 := .mk' Tryz.func49 (by kernel_rfl) rfl
instance eF50 : EnterF Tryz.prog 50 := .mk' Tryz.func50 (by kernel_rfl) rfl
instance eF51 : EnterF Tryz.prog 51 := .mk' Tryz.func51 (by kernel_rfl) rfl
instance eF52 : EnterF Tryz.prog 52 := .mk' Tryz.func52 (by kernel_rfl) rfl
instance eF53 : EnterF Tryz.prog 53 := .mk' Tryz.func53 (by kernel_rfl) rfl
instance eF54 : EnterF Tryz.prog 54 := .mk' Tryz.func54 (by kernel_rfl) rfl
instance eF55 : EnterF Tryz.prog 55 := .mk' Tryz.func55 (by kernel_rfl) rfl
instance eF56 : EnterF Tryz.prog 56 := .mk' Tryz.func56 (by kernel_rfl) rfl
instance eF57 : EnterF Tryz.prog 57 := .mk' Tryz.func57 (by kernel_rfl) rfl
instance eF58 : EnterF Tryz.prog 58 := .mk' Tryz.func58 (by kernel_rfl) rfl
instance eF59 : EnterF Tryz.prog 59 := .mk' Tryz.func59 (by kernel_rfl) rfl
instance eF60 : EnterF Tryz.prog 60 := .mk' Tryz.func60 (by kernel_rfl) rfl
instance eF61 : EnterF Tryz.prog 61 := .mk' Tryz.func61 (by kernel_rfl) rfl
instance eF62 : EnterF Tryz.prog 62 := .mk' Tryz.func62 (by kernel_rfl) rfl
instance eF63 : EnterF Tryz.prog 63 := .mk' Tryz.func63 (by kernel_rfl) rfl
instance eF64 : EnterF Tryz.prog 64 := .mk' Tryz.func64 (by kernel_rfl) rfl
instance eF65 : EnterF Tryz.prog 65 := .mk' Tryz.func65 (by kernel_rfl) rfl
instance eF66 : EnterF Tryz.prog 66 := .mk' Tryz.func66 (by kernel_rfl) rfl
instance eF67 : EnterF Tryz.prog 67 := .mk' Tryz.func67 (by kernel_rfl) rfl
instance eF68 : EnterF Tryz.prog 68 := .mk' Tryz.func68 (by kernel_rfl) rfl
instance eF69 : EnterF Tryz.prog 69 := .mk' Tryz.func69 (by kernel_rfl) rfl
instance eF70 : EnterF Tryz.prog 70 := .mk' Tryz.func70 (by kernel_rfl) rfl
instance eF71 : EnterF Tryz.prog 71 := .mk' Tryz.func71 (by kernel_rfl) rfl
instance eF72 : EnterF Tryz.prog 72 := .mk' Tryz.func72 (by kernel_rfl) rfl
instance eF73 : EnterF Tryz.prog 73 := .mk' Tryz.func73 (by kernel_rfl) rfl
instance eF74 : EnterF Tryz.prog 74 := .mk' Tryz.func74 (by kernel_rfl) rfl
instance eF75 : EnterF Tryz.prog 75 := .mk' Tryz.func75 (by kernel_rfl) rfl
instance eF76 : EnterF Tryz.prog 76 := .mk' Tryz.func76 (by kernel_rfl) rfl
instance eF77 : EnterF Tryz.prog 77 := .mk' Tryz.func77 (by kernel_rfl) rfl
instance eF78 : EnterF Tryz.prog 78 := .mk' Tryz.func78 (by kernel_rfl) rfl
instance eF79 : EnterF Tryz.prog 79 := .mk' Tryz.func79 (by kernel_rfl) rfl
instance eF80 : EnterF Tryz.prog 80 := .mk' Tryz.func80 (by kernel_rfl) rfl
instance eF81 : EnterF Tryz.prog 81 := .mk' Tryz.func81 (by kernel_rfl) rfl
instance eF82 : EnterF Tryz.prog 82 := .mk' Tryz.func82 (by kernel_rfl) rfl
instance eF83 : EnterF Tryz.prog 83 := .mk' Tryz.func83 (by kernel_rfl) rfl
instance eF84 : EnterF Tryz.prog 84 := .mk' Tryz.func84 (by kernel_rfl) rfl
instance eF85 : EnterF Tryz.prog 85 := .mk' Tryz.func85 (by kernel_rfl) rfl
instance eF86 : EnterF Tryz.prog 86 := .mk' Tryz.func86 (by kernel_rfl) rfl
instance eF87 : EnterF Tryz.prog 87 := .mk' Tryz.func87 (by kernel_rfl) rfl
instance eF88 : EnterF Tryz.prog 88 := .mk' Tryz.func88 (by kernel_rfl) rfl
instance eF89 : EnterF Tryz.prog 89 := .mk' Tryz.func89 (by kernel_rfl) rfl
instance eF90 : EnterF Tryz.prog 90 := .mk' Tryz.func90 (by kernel_rfl) rfl
instance eF91 : EnterF Tryz.prog 91 := .mk' Tryz.func91 (by kernel_rfl) rfl
instance eF92 : EnterF Tryz.prog 92 := .mk' Tryz.func92 (by kernel_rfl) rfl
instance eF93 : EnterF Tryz.prog 93 := .mk' Tryz.func93 (by kernel_rfl) rfl
instance eF94 : EnterF Tryz.prog 94 := .mk' Tryz.func94 (by kernel_rfl) rfl
instance eF95 : EnterF Tryz.prog 95 := .mk' Tryz.func95 (by kernel_rfl) rfl
instance eF96 : EnterF Tryz.prog 96 := .mk' Tryz.func96 (by kernel_rfl) rfl
instance eF97 : EnterF Tryz.prog 97 := .mk' Tryz.func97 (by kernel_rfl) rfl
instance eF98 : EnterF Tryz.prog 98 := .mk' Tryz.func98 (by kernel_rfl) rfl
instance eF99 : EnterF Tryz.prog 99 := .mk' Tryz.func99 (by kernel_rfl) rfl
instance eF100 : EnterF Tryz.prog 100 := .mk' Tryz.func100 (by kernel_rfl) rfl
instance eF101 : EnterF Tryz.prog 101 := .mk' Tryz.func101 (by kernel_rfl) rfl
instance eF102 : EnterF Tryz.prog 102 := .mk' Tryz.func102 (by kernel_rfl) rfl
instance eF103 : EnterF Tryz.prog 103 := .mk' Tryz.func103 (by kernel_rfl) rfl
end Go.Proofs.YtnjmplapjnnjdaaGreat
