/- Slices of bytes: conversions to strings, appends, rows that a call has lent. No program's text is named here. -/
import Derived.Test.YtiiljecocajdpaaProb
import Derived.Laws.BytesArg
import Derived.Maps.AppendAt
import Derived.OwnWalk
namespace Go.Proofs.Ytiiljecocajdpaa
open Go.RowKit

class SlTy (P : Program) (t : TypeId) (e : outParam TypeId) : Prop where
  out : P.underlying t = some (.slice e)
class IntTy (P : Program) (t : TypeId) (k : outParam IntKind) : Prop where
  out : P.underlying t = some (.int k)
class StrTy (P : Program) (t : TypeId) : Prop where
  out : P.underlying t = some .string
/-- An element's row of the table: its zero value, its cells, its bytes. -/
class ElTy (P : Program) (e : TypeId) (z : outParam Value) (size bytes : outParam Nat) : Prop where
  out : ∃ i, P.info? e = some i ∧ i.zero = some z ∧ i.size = size ∧ i.bytes = bytes ∧ z.cells.size = size
theorem ElTy.mk' {P : Program} {e : TypeId} {z : Value} {size bytes : Nat} (h : (P.info? e).map (fun i => (i.zero, i.size, i.bytes)) = some (some z, size, bytes)) (hz : z.cells.size = size) : ElTy P e z size bytes := by
  obtain ⟨i, h1, h2, h3, h4⟩ := info_parts h
  exact ⟨i, h1, h2, h3, h4, hz⟩

/-! ### Bytes to strings -/
def byteStr (l : List Nat) : ByteArray := strOfNums (l.map Int.ofNat)
theorem run_conv {P : Program} {src dst e : TypeId} [S : SlTy P src e] [E : IntTy P e .u8] [D : StrTy P dst] {w : World} {a : Option Addr} {l : List Nat} {n cap : Nat} (h : Bytes w a l) (hn : l.length = n) :
    (convert src dst (.slice a n cap)).run P w = .ok (.string (byteStr l)) w := by
  subst hn
  rcases a with _ | ⟨b, o, s⟩
  · have hl : l = [] := by
      cases l with
      | nil => rfl
      | cons x l => obtain ⟨b, o, ha, _⟩ := h.cell 0 (by simp); cases ha
    subst hl
    exact run_convert_bytes_nil w src e S.out E.out 0 cap dst D.out
  · by_cases hz : l.length = 0
    · obtain rfl : l = [] := List.eq_nil_of_length_eq_zero hz
      rw [run_convert_bytes_string w src dst e _ _ _ S.out E.out D.out]
      simp only [Conv.bytesToString, loadCells, List.length_nil, loadCellsFrom]
      simp [Sem.run_bind, Sem.run_pure, byteStr, strOfNums]
      rfl
    · obtain ⟨b', o', ha, _⟩ := h.cell 0 (by omega)
      obtain ⟨rfl, rfl, rfl⟩ : b = b' ∧ o = o' ∧ s = none := by simpa using ha
      refine run_convert_bytes_arg w src e S.out E.out b o l.length cap (l.map Int.ofNat) (List.length_map ..) (fun i hi => ?_) dst D.out
      obtain ⟨b', o', ha, hc⟩ := h.cell i hi
      obtain ⟨rfl, rfl⟩ : b = b' ∧ o = o' := by simpa using ha
      rw [hc]
      simp [List.getD, List.getElem?_eq_getElem hi]
theorem cv {P : Program} {ops : Array Oper} {rest : List Oper} {l l' : List Value} {ds : List Deferred} {w : World} {Q : Exit → Act → World → Prop} {src dst e d n cap : Nat} {x : Operand} {a : Option Addr} {xs : List Nat} {ty : TypeId} {ps : String} {af : Array Edge}
    (hx : (Act.mk l.toArray ds).eval x = .slice a n cap) [S : SlTy P src e] [E : IntTy P e .u8] [D : StrTy P dst] (hb : Bytes w a xs) (hn : xs.length = n) (hs : l.set d (.string (byteStr xs)) = l')
    (h : wpList P ops Q rest ⟨l'.toArray, ds⟩ w) : wpList P ops Q (⟨some d, .convert src dst x, ty, ps, af, none⟩ :: rest) ⟨l.toArray, ds⟩ w := by
  refine wpList_plain rfl fun K hK => ?_
  unfold Oper.wp execOp
  have := run_conv (P := P) (src := src) (dst := dst) (cap := cap) hb hn
  simp only [hx, Sem.run_bind, this, Result.andThen_ok, Sem.run_pure]
  rw [Oper.upon_value, put_list, hs]
  exact hK _ _ h
theorem q_cv {P : Program} {ops : Array Oper} {rest : List Oper} {l l' : List Value} {ds : List Deferred} {w : World} {Q : Act → Prop} {src dst e d n cap : Nat} {x : Operand} {a : Option Addr} {xs : List Nat} {ty : TypeId} {ps : String} {af : Array Edge}
    (hx : (Act.mk l.toArray ds).eval x = .slice a n cap) [S : SlTy P src e] [E : IntTy P e .u8] [D : StrTy P dst] (hb : Bytes w a xs) (hn : xs.length = n) (hs : l.set d (.string (byteStr xs)) = l')
    (h : wpQuiet P ops (fun w' => ∃ s : KeptW w, w' = s.val) Q rest ⟨l'.toArray, ds⟩) : wpQuiet P ops (fun w' => ∃ s : KeptW w, w' = s.val) Q (⟨some d, .convert src dst x, ty, ps, af, none⟩ :: rest) ⟨l.toArray, ds⟩ := by
  refine BigFrame.wpQuiet_want rfl fun K hK => ⟨.string (byteStr xs), fun w' ⟨s, hw⟩ => ?_, hK _ (by rw [put_list, hs]; exact h)⟩
  subst hw
  have := run_conv (P := P) (src := src) (dst := dst) (cap := cap) (hb.kept s.property) hn
  unfold Oper.quietAt execOp
  simp [hx, Sem.run_bind, this, Oper.quietUpon]

/-! ### Appends -/
theorem Below.grown {B : Nat} {w w' : World} {v : Value} (h : w.grownBy w' v.ownBlock) (hB : B ≤ w.heap.size) (hv : ∀ k, v.ownBlock = some k → B ≤ k) : Below B w w' :=
  ⟨h.os, h.tape, h.output, h.size, fun k hk => h.block k (by omega) (fun e => by have := hv k e.symm; omega)⟩
theorem own_below {w w' : World} {base e size n : Nat} {v : Value} {xs : List Value} (h : w.ownsRow base e size v n xs) (hg : w.grownBy w' v.ownBlock) (hb : base ≤ w.heap.size) : Below base w w' :=
  Below.grown hg hb fun k hk => (h.lt k hk).1
theorem alloc_cells_new (w : World) (us : List Value) (t : TypeId) : ∀ j u, us[j]? = some u → (w.alloc (.cells us.toArray t)).cell? ((⟨w.heap.size, 0, none⟩ : Addr).add j) = some u := by
  intro j u hj
  have hadd : (⟨w.heap.size, 0, none⟩ : Addr).add j = ⟨w.heap.size, j, none⟩ := by unfold Addr.add; split <;> simp_all
  rw [hadd, cell_of_row _ _ _ _ t (0, 0) (heap_alloc_new w _)]
  simpa using hj
/-- THE ARM for 'append(s, x ..)', the new elements laid in a block of their own just before. -/
theorem ap {P : Program} {ops : Array Oper} {rest : List Oper} {l : List Value} {ds : List Deferred} {w : World} {Q : Exit → Act → World → Prop} {t e te d n m c size bytes base : Nat} {s x : Operand} {z v : Value} {xs us : List Value} {ty : TypeId} {ps : String} {af : Array Edge}
    [S : SlTy P t e] [E : ElTy P e z size bytes] (hown : w.ownsRow base e size v n xs) (hsz : 0 < size) (hs : (Act.mk l.toArray ds).eval s = v) (hx : (Act.mk l.toArray ds).eval x = .slice (some ⟨w.heap.size, 0, none⟩) m c)
    (hl : us.length = m * size) (h1 : ∀ u ∈ us, u.oneCell' = true) (h63 : n + m ≤ 9223372036854775807 / 65536) (hbytes : (n + m) * bytes ≤ 140737488355328) (hbase : base ≤ w.heap.size)
    (h : ∀ v' w', w'.ownsRow base e size v' (n + m) (xs ++ us) → w.grownBy w' v.ownBlock → (v'.ownBlock = v.ownBlock ∨ v'.ownBlock = some (w.heap.size + 1)) → wpList P ops Q rest ⟨(l.set d v').toArray, ds⟩ w') :
    wpList P ops Q (⟨some d, .call { callee := .builtin .append, args := #[s, x], argTypes := #[t, t] }, ty, ps, af, none⟩ :: rest) ⟨l.toArray, ds⟩ (w.alloc (.cells us.toArray te)) := by
  obtain ⟨i, hi, hz0, hz1, hz2, hz3⟩ := E.out
  refine wpList_append_own_at (w.alloc (.cells us.toArray te)) rfl s x t rfl base e i z size bytes S.out hi hz0 hz1 hz2 hz3 hsz v n xs hs (hown.alloc _) ⟨w.heap.size, 0, none⟩ m c us hx hl (alloc_cells_new w us te) h1 (by unfold maxLen; omega) hbytes (by simp; omega) ?_
  intro v' w' h2 h3 _ h5
  rw [put_list]
  exact h v' w' h2 ((World.grownBy_alloc w _ _).trans h3) (by simpa using h5)
theorem run_append_none {P : Program} {t e ty cap c : Nat} [S : SlTy P t e] {w : World} {z : Value} {base size bytes n : Nat} [E : ElTy P e z size bytes] {v : Value} {xs : List Value} (hown : w.ownsRow base e size v n xs) :
    (Builtin.append_ #[t, t] ty #[v, .slice none 0 c]).run P w = .ok v w := by
  obtain ⟨i, hi, hz0, hz1, hz2, hz3⟩ := E.out
  rcases hown.2 with ⟨rfl, rfl⟩ | ⟨g, cap, cur, rfl, hbg, hg, hnc, hcm, hcs, htake⟩
  · simp [Builtin.append_, run_underlying S.out, sizeOf, typeInfo, hi, Builtin.lenOf, Builtin.firstCells]
  · simp [Builtin.append_, run_underlying S.out, sizeOf, typeInfo, hi, Builtin.lenOf, Builtin.firstCells, hnc, storeCells]
/-- THE ARM for 'append(s, b...)' of bytes. -/
theorem apB {P : Program} {ops : Array Oper} {rest : List Oper} {l : List Value} {ds : List Deferred} {w : World} {Q : Exit → Act → World → Prop} {t e d n m c base : Nat} {s x : Operand} {z v : Value} {xs : List Value} {a : Option Addr} {bs : List Nat} {ty : TypeId} {ps : String} {af : Array Edge}
    [S : SlTy P t e] [E : ElTy P e z 1 1] (hown : w.ownsRow base e 1 v n xs) (hb : Bytes w a bs) (hs : (Act.mk l.toArray ds).eval s = v) (hx : (Act.mk l.toArray ds).eval x = .slice a m c)
    (hl : bs.length = m) (hbytes : n + m ≤ 140737488355328) (hbase : base ≤ w.heap.size)
    (h : ∀ v' w', w'.ownsRow base e 1 v' (n + m) (xs ++ bs.map fun b => Value.int .u8 (b : Nat)) → w.grownBy w' v.ownBlock → (v'.ownBlock = v.ownBlock ∨ v'.ownBlock = some w.heap.size) → wpList P ops Q rest ⟨(l.set d v').toArray, ds⟩ w') :
    wpList P ops Q (⟨some d, .call { callee := .builtin .append, args := #[s, x], argTypes := #[t, t] }, ty, ps, af, none⟩ :: rest) ⟨l.toArray, ds⟩ w := by
  subst hl
  by_cases hz : bs.length = 0
  · obtain rfl : bs = [] := List.eq_nil_of_length_eq_zero hz
    have hr : (Builtin.append_ #[t, t] ty #[v, .slice a 0 c]).run P w = .ok v w := by
      rcases a with _ | ad
      · exact run_append_none (cap := 0) hown
      · obtain ⟨i, hi, hz0, hz1, hz2, hz3⟩ := E.out
        have hf := run_firstCells_some (P := P) w i.size 0 ad 0 c [] (by simp) (by simp)
        rcases hown.2 with ⟨rfl, rfl⟩ | ⟨g, cap, cur, rfl, hbg, hg, hnc, hcm, hcs, htake⟩
        · simp [Builtin.append_, run_underlying S.out, sizeOf, typeInfo, hi, Builtin.lenOf, hf]
        · simp [Builtin.append_, run_underlying S.out, sizeOf, typeInfo, hi, Builtin.lenOf, hf, hnc, storeCells]
    refine wpList_plain rfl fun K hK => ?_
    unfold Oper.wp execOp
    simp only [resolve, invoke, builtin, Sem.run_bind, Sem.run_pure, Result.andThen_ok, List.map_toArray, List.map_cons, List.map_nil, hs, hx, List.length_nil, hr]
    rw [Oper.upon_value, put_list]
    exact hK _ _ (h v w (by simpa using hown) ⟨rfl, rfl, rfl, Nat.le_refl _, fun _ _ _ => rfl⟩ (.inl rfl))
  · obtain ⟨b, o, rfl, _⟩ := hb.cell 0 (by omega)
    obtain ⟨i, hi, hz0, hz1, hz2, hz3⟩ := E.out
    refine wpList_append_own_at w rfl s x t rfl base e i z 1 1 S.out hi hz0 hz1 hz2 hz3 (by decide) v n xs hs hown ⟨b, o, none⟩ bs.length c (bs.map fun b => Value.int .u8 (b : Nat)) hx (by simp) ?_ ?_ (by unfold maxLen; omega) (by omega) hbase ?_
    · intro j u hj
      have hjl : j < bs.length := by
        rcases Nat.lt_or_ge j bs.length with h | h
        · exact h
        · simp [List.getElem?_eq_none h] at hj
      obtain ⟨b', o', ha, hc⟩ := hb.cell j hjl
      obtain ⟨rfl, rfl⟩ : b = b' ∧ o = o' := by simpa using ha
      have hadd : (⟨b, o, none⟩ : Addr).add j = ⟨b, o + j, none⟩ := by unfold Addr.add; split <;> simp_all
      rw [hadd, hc]
      simp [List.getElem?_eq_getElem hjl] at hj
      rw [hj]
    · intro u hu
      simp at hu
      obtain ⟨_, _, rfl⟩ := hu
      rfl
    · intro v' w' h2 h3 _ h5
      rw [put_list]
      exact h v' w' h2 h3 h5
end Go.Proofs.Ytiiljecocajdpaa
