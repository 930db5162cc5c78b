import Derived.Test.YtnjmplapjnnjdaaGreatFanoP
import Derived.Test.YtnjmplapjnnjdaaGreatTreeI
import Derived.Test.YtnjmplapjnnjdaaGreatFill
import Derived.Test.YtnjmplapjnnjdaaGreatBkNew
import Derived.Test.YtnjmplapjnnjdaaGreatLFloors
set_option linter.unusedSimpArgs false
set_option linter.unusedVariables false
set_option linter.unnecessarySimpa false
/- Fano's machine, the program's: Run and the small looks. -/
namespace Go.Proofs.YtnjmplapjnnjdaaGreat
open Go.RowKit

theorem Turn.trans' {H H' : Nat → Prop} {A B C : World} (h : Turn H A B) (k : Turn H' B C) (hh : ∀ q, q < A.heap.size → ¬H q → ¬H' q) : Turn H A C :=
  ⟨k.os.trans h.os, k.tape.trans h.tape, k.output.trans h.output, Nat.le_trans h.size k.size, fun i hi hn => (k.block i (Nat.lt_of_lt_of_le hi h.size) (hh i hi hn)).trans (h.block i hi hn)⟩
theorem results_aggTmp {P : Program} {fn : Func} {t t1 ty n b : Nat} {tmps : Array Value} {w : World} {v v1 : Value} [T : AggTy P ty n] (h : fn.results = #[.cell t ty, .tmp t1]) (h1' : tmps.getD t1 undef = v1) (hp : tmps.getD t undef = .pointer (some ⟨b, 0, none⟩)) (hl : loadAgg w b 0 n = .ok v w) :
    (results fn tmps).run P w = .ok (.tuple #[v, v1]) w := by
  obtain ⟨d, h1, h2, h3⟩ := T.out
  have := run_loadVar_agg (P := P) (w := w) (b := b) (off := 0) h1 h2 h3 (by rw [hl]; rfl)
  simp only [Array.getD_eq_getD_getElem?] at hp h1'
  simp [results, h, hp, h1', asAddr, Sem.run_bind, this, hl]
end Go.Proofs.YtnjmplapjnnjdaaGreat

/- Fano's machine, the program's: Result. -/
namespace Go.Proofs.YtnjmplapjnnjdaaGreat
open Go.RowKit

/-- A decoder's result. -/
structure Rs where
  dec : Bool
  exact_ : Bool
  bits : List Nat
  m : Int
  dip : Int
  work : Int
  drops : Int
def Rs.cells (r : Rs) (v : Value) : Array Value := #[.bool r.dec, .bool r.exact_, v, .int .i64 r.m, .int .i64 r.dip, .int .i64 r.work, .int .i64 r.drops]
/-- A result whose bits lie in new memory. -/
def ResPost (r : Rs) (w : World) (e : Ending) (w' : World) : Prop := (∃ a c, e = .returned (.agg (r.cells (.slice a r.bits.length c))) ∧ w'.ownsRow w.heap.size 5 1 (.slice a r.bits.length c) r.bits.length (u8s r.bits)) ∧ Below w.heap.size w w'
theorem flatR {a b : Bool} {o : Option Addr} {n c : Nat} {x y z u : Int} : Flat #[.bool a, .bool b, .slice o n c, .int .i64 x, .int .i64 y, .int .i64 z, .int .i64 u] := by
  intro v hv
  simp at hv
  rcases hv with rfl | rfl | rfl | rfl | rfl | rfl | rfl <;> exact ⟨fun _ h => (by cases h), fun _ h => (by cases h)⟩
end Go.Proofs.YtnjmplapjnnjdaaGreat

/- A struct built of a struct's value and some small values behind it. No program's text is named here. -/
namespace Go.Proofs.YtnjmplapjnnjdaaGreat
open Go.RowKit

theorem fill_agg {place : Nat → Option (Nat × Nat)} {zs cs : Array Value} {i : Nat} {rest : List (Nat × Value)} (hp : place i = some (0, cs.size)) (hle : cs.size ≤ zs.size) :
    Instr.fill place zs ((i, .agg cs) :: rest) = Instr.fill place (cs ++ zs.extract cs.size zs.size) rest := by
  have hv : (Value.agg cs).cells = cs := rfl
  have e : cs.zipIdx.foldl (fun cs (x : Value × Nat) => cs.setIfInBounds (0 + x.2) x.1) zs = cs ++ zs.extract cs.size zs.size := by
    rw [← Array.foldl_toList, Array.toList_zipIdx]
    apply Array.ext_getElem?
    intro k
    rw [fold_set cs.toList 0 zs k (by simp; omega)]
    by_cases h : k < cs.size
    · rw [if_pos (by simp; omega), Array.getElem?_append_left h]
      simp
    · rw [if_neg (by simp; omega), Array.getElem?_append_right (by omega)]
      rw [Array.getElem?_extract]
      by_cases h2 : k < zs.size
      · rw [if_pos (by omega)]
        congr 1; omega
      · rw [if_neg (by omega), Array.getElem?_eq_none (by omega)]
  conv => lhs; unfold Instr.fill
  rw [hp]
  simp only [hv]
  rw [if_neg (by simp; omega)]
  exact congrArg (fun c => Instr.fill place c rest) e
theorem fill_cell {place : Nat → Option (Nat × Nat)} {zs : Array Value} {i off : Nat} {v : Value} {rest : List (Nat × Value)} (hp : place i = some (off, 1)) (hv : v.cells = #[v]) (ho : off < zs.size) :
    Instr.fill place zs ((i, v) :: rest) = Instr.fill place (zs.setIfInBounds off v) rest := by
  conv => lhs; unfold Instr.fill
  rw [hp]
  simp only [hv]
  rw [if_neg (by simp; omega)]
  rfl
end Go.Proofs.YtnjmplapjnnjdaaGreat

/- Fano's machine, the program's: New and Decode. -/
namespace Go.Proofs.YtnjmplapjnnjdaaGreat
open Go.RowKit

end Go.Proofs.YtnjmplapjnnjdaaGreat

/- Fano's machine, the program's: Decode. -/
namespace Go.Proofs.YtnjmplapjnnjdaaGreat
open Go.RowKit

theorem owns_base {w : World} {B B' e sz n : Nat} {v : Value} {xs : List Value} (h : w.ownsRow B e sz v n xs) (hb : B' ≤ B) : w.ownsRow B' e sz v n xs :=
  ⟨h.1, h.2.imp id fun ⟨g, cap, cur, h1, h2, h3⟩ => ⟨g, cap, cur, h1, Nat.le_trans hb h2, h3⟩⟩
def Rs.zero : Rs := ⟨false, false, [], 0, 0, 0, 0⟩
/-- A result whose bits lie in new memory, and an error. -/
def ResErr (r : Rs) (err : Int) (w : World) (e : Ending) (w' : World) : Prop := (∃ a c, e = .returned (.tuple #[.agg (r.cells (.slice a r.bits.length c)), .int .i64 err]) ∧ w'.ownsRow w.heap.size 5 1 (.slice a r.bits.length c) r.bits.length (u8s r.bits)) ∧ Below w.heap.size w w'
theorem ResErr.zero {err : Int} {w w' : World} {e : Ending} (he : e = .returned (.tuple #[.agg #[.bool false, .bool false, .slice none 0 0, .int .i64 0, .int .i64 0, .int .i64 0, .int .i64 0], .int .i64 err])) (hB : Below w.heap.size w w') : ResErr Rs.zero err w e w' :=
  ⟨⟨none, 0, he, ⟨rfl, .inl ⟨rfl, rfl⟩⟩⟩, hB⟩
theorem build_res0 (w : World) : (Instr.build 86 #[]).run Tryz.prog w = .ok (.agg #[.bool false, .bool false, .slice none 0 0, .int .i64 0, .int .i64 0, .int .i64 0, .int .i64 0]) w := by
  go_simp
  try rfl
theorem Turn.below' {H : Nat → Prop} {w w' : World} (h : Turn H w w') {B : Nat} (hB : B ≤ w.heap.size) (hk : ∀ k, k < w.heap.size → H k → B ≤ k) : Below B w w' :=
  ⟨h.os, h.tape, h.output, h.size, fun k hkB => h.block k (by omega) fun hh => by have := hk k (by omega) hh; omega⟩
end Go.Proofs.YtnjmplapjnnjdaaGreat

/- The search of layer 17: New. -/
namespace Go.Proofs.YtnjmplapjnnjdaaGreat
open Go.RowKit

theorem Pb.lohi_bd {p : Pb} (h : probChk p = 0) : -100000000 ≤ p.lo_ ∧ p.lo_ ≤ 0 ∧ 0 ≤ p.hi_ ∧ p.hi_ ≤ 100000000 := by
  obtain ⟨⟨k1, k2⟩, l1, l2, cr, hwin, _, _, _, htt⟩ := probChk_ok h
  have hN : 0 ≤ p.N ∧ p.N ≤ 1055 := by unfold Pb.N; omega
  have b1 := p.T.loK_bd htt 2 (by omega)
  have b2 := p.T.hiK_bd htt 2 (by omega)
  have m1 := mul_bd hN.1 hN.2 b1.1 b1.2
  have m2 := mul_bd hN.1 hN.2 b2.1 b2.2
  unfold Pb.lo_ Pb.hi_
  have e1 : p.C.R * p.N * p.T.lo = p.C.R * (p.N * p.T.loK 2) := Int.mul_assoc _ _ _
  have e2 : p.C.R * p.N * p.T.hi = p.C.R * (p.N * p.T.hiK 2) := Int.mul_assoc _ _ _
  rw [e1, e2]
  rcases cr with h | h <;> rw [h] <;> omega
/-- What New says. -/
def newE (p : Pb) (cap D : Int) : Int := if probChk p ≠ 0 then probChk p else if cap < 1 ∨ 65536 < cap then 1 else if D < 1 ∨ 65536 < D then 140 else if p.hi_ / D - p.lo_ / D + 1 ≤ 65536 then 0 else 6
def SeNewPost (p : Pb) (cap D : Int) (w : World) (e : Ending) (w' : World) : Prop :=
  (if newE p cap D = 0 then ∃ b m ids A Wy, e = .returned (.tuple #[.pointer (some ⟨A.sb, 0, none⟩), .int .i64 0]) ∧ Se w' p D cap.toNat (Bq.start D cap.toNat) b m ids A Wy ∧ m.work = 0 ∧ ∀ k, A.has k ∨ Wy k → w.heap.size ≤ k
    else e = .returned (.tuple #[.pointer none, .int .i64 (newE p cap D)])) ∧ Below w.heap.size w w'
theorem build_way0 (w : World) : (Instr.build 69 #[(2, .agg (Nd.mk 0 0 0).cells)]).run Tryz.prog w = .ok (.agg #[.pointer none, .int .u8 0, .int .u32 0, .int .i64 0, .int .i64 0, .int .i64 0]) w := by
  unfold Nd.cells nodeCells
  go_simp
  try rfl
set_option maxRecDepth 5000 in
theorem se_New_prob (p : Pb) (a : Option Addr) (ca : Nat) (cap D : Int) (hp : p.Ok) (h : probChk p ≠ 0) (w : World) (hw : Bytes w a p.B) :
    Calls Tryz.prog 5 #[.agg (p.cells (.slice a p.B.length ca)), .int .i64 cap, .int .i64 D] w (SeNewPost p cap D w) := by
  have hE : newE p cap D = probChk p := if_pos h
  have hc : (probChk p != 0) = true := by simp [h]
  go_enter Tryz.func5, Tryz.ntmps5
  have b2 := Box.new w (p.cells (.slice a p.B.length ca)) 32
  have B0 : Below w.heap.size w (w.alloc (.cells (p.cells (.slice a p.B.length ca)) 32)) := (Below.refl _ _).alloc (Nat.le_refl _) _
  obtain ⟨fk, fr, flev, fl, fwin, fcode, ftable, fall⟩ := b2.prob hp
  clear fk fr flev fl fwin fcode ftable
  have hw0 := hw.kept B0
  go_wp2_with ((with_reducible apply ld); rfl; (with_reducible assumption); (simp only [List.set_cons_zero, List.set_cons_succ]; rfl))
  refine (tree_New_bad p a ca hp h _ hw0).mono ?_
  rintro e w1 ⟨rfl, B1⟩
  go_wp2
  go_ret2
  refine ⟨?_, bOn B0 B1⟩
  rw [hE, if_neg h]
  rfl
set_option maxRecDepth 5000 in
theorem se_New_bad (p : Pb) (a : Option Addr) (ca : Nat) (cap D : Int) (hp : p.Ok) (h : probChk p = 0) (hb : (cap < 1 ∨ 65536 < cap) ∨ (D < 1 ∨ 65536 < D)) (w : World) (hw : Bytes w a p.B) :
    Calls Tryz.prog 5 #[.agg (p.cells (.slice a p.B.length ca)), .int .i64 cap, .int .i64 D] w (SeNewPost p cap D w) := by
  have hE : newE p cap D = if cap < 1 ∨ 65536 < cap then 1 else 140 := by
    unfold newE
    rw [if_neg (by simp [h])]
    split
    · rfl
    · rename_i hn
      rw [if_pos (hb.resolve_left hn)]
  have hcs : (decide (cap < 1) = true ∧ newE p cap D = 1) ∨ (decide (cap < 1) = false ∧ decide (65536 < cap) = true ∧ newE p cap D = 1) ∨ (decide (cap < 1) = false ∧ decide (65536 < cap) = false ∧ decide (D < 1) = true ∧ newE p cap D = 140) ∨ (decide (cap < 1) = false ∧ decide (65536 < cap) = false ∧ decide (D < 1) = false ∧ decide (65536 < D) = true ∧ newE p cap D = 140) := by
    by_cases h1 : cap < 1
    · exact .inl ⟨by simpa using h1, by rw [hE, if_pos (.inl h1)]⟩
    by_cases h2 : 65536 < cap
    · exact .inr (.inl ⟨by simpa using h1, by simpa using h2, by rw [hE, if_pos (.inr h2)]⟩)
    have h3 : newE p cap D = 140 := by rw [hE, if_neg (by omega)]
    by_cases h4 : D < 1
    · exact .inr (.inr (.inl ⟨by simpa using h1, by simpa using h2, by simpa using h4, h3⟩))
    · exact .inr (.inr (.inr ⟨by simpa using h1, by simpa using h2, by simpa using h4, by simp; omega, h3⟩))
  clear hb hE
  rcases hcs with ⟨d1, hE⟩ | ⟨d1, d2, hE⟩ | ⟨d1, d2, d3, hE⟩ | ⟨d1, d2, d3, d4, hE⟩
  all_goals
    have HE := Lib.hid hE
    clear hE
    go_enter Tryz.func5, Tryz.ntmps5
    have b2 := Box.new w (p.cells (.slice a p.B.length ca)) 32
    have B0 : Below w.heap.size w (w.alloc (.cells (p.cells (.slice a p.B.length ca)) 32)) := (Below.refl _ _).alloc (Nat.le_refl _) _
    obtain ⟨fk, fr, flev, fl, fwin, fcode, ftable, fall⟩ := b2.prob hp
    clear fk fr flev fl fwin fcode ftable
    have hw0 := hw.kept B0
    go_wp2_with ((with_reducible apply ld); rfl; (with_reducible assumption); (simp only [List.set_cons_zero, List.set_cons_succ]; rfl))
    refine (tree_New p a ca hp h _ hw0).mono ?_
    rintro e w1 ⟨⟨tb, pb, rb, g, c, rfl, hT, _⟩, B1⟩
    go_wp2
    go_ret2
    refine ⟨?_, bOn B0 B1⟩
    rw [HE.out]
    rfl
set_option maxRecDepth 5000 in
set_option maxHeartbeats 1000000 in
theorem se_New_ok (p : Pb) (a : Option Addr) (ca : Nat) (cap D : Int) (hp : p.Ok) (h : probChk p = 0) (h1 : 1 ≤ cap) (h2 : cap ≤ 65536) (h3 : 1 ≤ D) (h4 : D ≤ 65536) (w : World) (hw : Bytes w a p.B) :
    Calls Tryz.prog 5 #[.agg (p.cells (.slice a p.B.length ca)), .int .i64 cap, .int .i64 D] w (SeNewPost p cap D w) := by
  obtain ⟨cn, rfl⟩ : ∃ cn : Nat, cap = cn := ⟨cap.toNat, by omega⟩
  have hE : newE p cn D = if p.hi_ / D - p.lo_ / D + 1 ≤ 65536 then 0 else 6 := by
    unfold newE
    rw [if_neg (by simp [h]), if_neg (by omega), if_neg (by omega)]
  obtain ⟨r1, r2, r3, r4⟩ := Pb.lohi_bd h
  have d1 : decide ((cn : Int) < 1) = false := by simp; omega
  have d2 : decide ((65536 : Int) < cn) = false := by simp; omega
  have d3 : decide (D < 1) = false := by simp; omega
  have d4 : decide (65536 < D) = false := by simp; omega
  have HE := Lib.hid hE
  clear hE
  go_enter Tryz.func5, Tryz.ntmps5
  have b2 := Box.new w (p.cells (.slice a p.B.length ca)) 32
  have B0 : Below w.heap.size w (w.alloc (.cells (p.cells (.slice a p.B.length ca)) 32)) := (Below.refl _ _).alloc (Nat.le_refl _) _
  obtain ⟨fk, fr, flev, fl, fwin, fcode, ftable, fall⟩ := b2.prob hp
  clear fk fr flev fwin fcode ftable
  have hw0 := hw.kept B0
  go_wp2_with ((with_reducible apply ld); rfl; (with_reducible assumption); (simp only [List.set_cons_zero, List.set_cons_succ]; rfl))
  refine (tree_New p a ca hp h _ hw0).mono ?_
  rintro e w1 ⟨⟨tb, pb, rb, g, c, rfl, hT, t1, t2, t3, t4⟩, B1⟩
  have fl1 := (B1.cell b2.lt).trans fl
  have B10 := bOn B0 B1
  clear fl fall b2 hw0
  go_wp2_with fail
  refine (tree_Range p _ hT).mono ?_
  rintro e w2 ⟨rfl, B2⟩
  obtain ⟨lo, hlo⟩ : ∃ lo, lo = p.lo_ := ⟨_, rfl⟩
  obtain ⟨hi, hhi⟩ : ∃ hi, hi = p.hi_ := ⟨_, rfl⟩
  rw [show min (p.C.R * p.N * p.T.lo) 0 = lo from hlo.symm, show max (p.C.R * p.N * p.T.hi) 0 = hi from hhi.symm]
  rw [← hlo] at r1 r2
  rw [← hhi] at r3 r4
  have hE := HE.out
  rw [← hlo, ← hhi] at hE
  clear HE
  have HE := Lib.hid hE
  clear hE
  have HLO := Lib.hid hlo
  have HHI := Lib.hid hhi
  clear hlo hhi
  by_cases hk : hi / D - lo / D + 1 ≤ 65536
  · have hbk := bk_New h3 h4 (show lo ≤ hi by omega) r1 r4 (cap := cn) (by omega) (by omega) hk w2
    go_wp2_with fail
    refine hbk.mono ?_
    rintro e w3 ⟨⟨bb, gr, vs, Own, rfl, hB, hOwn⟩, B3⟩
    have fl3 := ((B3.cell (Nat.lt_of_lt_of_le (lt_of_cell fl1) B2.size)).trans (B2.cell (lt_of_cell fl1))).trans fl1
    have hT3 := (hT.kept B2).kept B3
    clear hbk fl1
    go_upto_region 13 with fail
    have hb4 := BoxT.new w3 #[.int .i64 p.L, .int .i64 D, .pointer (some ⟨tb, 0, none⟩), .pointer (some ⟨bb, 0, none⟩), .slice none 0 0, .slice none 0 0, .pointer none, .int .i64 0, .int .i64 0] 63
    have B4 : Below w3.heap.size w3 (w3.alloc (.cells #[.int .i64 p.L, .int .i64 D, .pointer (some ⟨tb, 0, none⟩), .pointer (some ⟨bb, 0, none⟩), .slice none 0 0, .slice none 0 0, .pointer none, .int .i64 0, .int .i64 0] 63)) := (Below.refl _ _).alloc (Nat.le_refl _) _
    obtain ⟨w4, hw4⟩ : ∃ W, W = w3.alloc (.cells #[.int .i64 p.L, .int .i64 D, .pointer (some ⟨tb, 0, none⟩), .pointer (some ⟨bb, 0, none⟩), .slice none 0 0, .slice none 0 0, .pointer none, .int .i64 0, .int .i64 0] 63) := ⟨_, rfl⟩
    rw [← hw4] at hb4 B4 ⊢
    have ht1 : tb < w1.heap.size ∧ pb < w1.heap.size ∧ rb < w1.heap.size := ⟨hT.tree.lt, hT.prob.lt, hT.rate.lt⟩
    have ht4 : g < w1.heap.size := by
      have hne : 0 < p.B.length := by
        obtain ⟨⟨k1, k2⟩, l1, l2, cr, hwin, _⟩ := probChk_ok h
        have h1 : 3 ≤ p.N := by unfold Pb.N; omega
        rcases cr with h | h <;> rw [h] at hwin <;> omega
      obtain ⟨b', o', ha, hc'⟩ := hT.win.cell 0 hne
      obtain ⟨rfl, rfl⟩ : g = b' ∧ 0 = o' := by simpa using ha
      exact lt_of_cell hc'
    have hs1 := B1.size
    have hs2 := B2.size
    have hs3 := B3.size
    have hs4 := B4.size
    have hs0 := B0.size
    have hsb4 : w3.heap.size < w4.heap.size := Box.lt ⟨_, hb4⟩
    have hT4 := hT3.kept B4
    have hB4 := hB.kept B4
    have B40 := bOn (bOn (bOn B10 B2) B3) B4
    clear hw4 fl3
    go_wp2_with fail
    refine (tree_Root _ _).mono ?_
    rintro e w5 ⟨rfl, B5⟩
    have hb5 := hb4.kept B5
    have hT5 := hT4.kept B5
    have hB5 := hB4.kept B5
    have B50 := bOn B40 B5
    have hs5 := B5.size
    have hbw := build_way0
    have hb6 := BoxT.new w5 #[.pointer none, .int .u8 0, .int .u32 0, .int .i64 0, .int .i64 0, .int .i64 0] 69
    have B6 : Below w5.heap.size w5 (w5.alloc (.cells #[.pointer none, .int .u8 0, .int .u32 0, .int .i64 0, .int .i64 0, .int .i64 0] 69)) := (Below.refl _ _).alloc (Nat.le_refl _) _
    clear hb4 hT4 hB4 hT3 hT
    obtain ⟨w6, hw6⟩ : ∃ W, W = w5.alloc (.cells #[.pointer none, .int .u8 0, .int .u32 0, .int .i64 0, .int .i64 0, .int .i64 0] 69) := ⟨_, rfl⟩
    have hput : ∃ V, V = w6 ∧ Calls Tryz.prog 16 #[.pointer (some ⟨w3.heap.size, 0, none⟩), .pointer (some ⟨w5.heap.size, 0, none⟩)] V (fun e w9 => e = .returned (.tuple #[]) ∧ (∃ b m ids A Wy, A.sb = w3.heap.size ∧ Se w9 p D cn (Bq.start D cn) b m ids A Wy ∧ m.work = 0 ∧ ∀ k, A.has k ∨ Wy k → w.heap.size ≤ k) ∧ Below w.heap.size w w9) := by
      refine ⟨w6, rfl, ?_⟩
      rw [← hw6] at hb6 B6
      have hw6l : w5.heap.size < w6.heap.size := Box.lt ⟨_, hb6⟩
      have hlow : ∀ k, Own k → w2.heap.size ≤ k ∧ k < w3.heap.size := hOwn
      have hSr : SrIn w6 p (bk0 D lo hi cn) ⟨[], [], none, 0, 0⟩ ⟨w3.heap.size, bb, gr, 0, 0, vs, .slice none 0 0, .slice none 0 0, tb, pb, rb, g, c, Own, w2.heap.size⟩ := by
        refine ⟨(hb5.kept B6), ⟨rfl, .inl ⟨rfl, rfl⟩⟩, RowO.nil _, hB5.kept B6, hT5.kept B6, fun ho => ?_, fun k hk => ?_, fun k hk => ?_, ⟨fun k hk => ?_, hs3, fun k hk => ?_, fun k hk => ?_⟩, ⟨?_, ?_, ?_, ?_⟩⟩
        · have := (hOwn _ ho).2; exact Nat.lt_irrefl _ this
        · cases hk
        · cases hk
        · have := hOwn k hk
          exact ⟨this.1, by omega⟩
        · cases hk
        · cases hk
        · exact Nat.lt_of_lt_of_le ht1.1 hs2
        · exact Nat.lt_of_lt_of_le ht1.2.1 hs2
        · exact Nat.lt_of_lt_of_le ht1.2.2 hs2
        · exact Nat.lt_of_lt_of_le ht4 hs2
      have hbok : (bk0 D lo hi cn).Ok := ⟨h3, h4, (by show lo ≤ hi; omega), r1, r4, hk, (by show 1 ≤ cn; omega), (by show cn ≤ 65536; omega), Nat.zero_le _, (fun x hx => by cases hx), (fun x hx => by cases hx)⟩
      have hSe : Se w6 p D cn ⟨[], 0, 0, 0, false, none⟩ (bk0 D lo hi cn) ⟨[], [], none, 0, 0⟩ [] ⟨w3.heap.size, bb, gr, 0, 0, vs, .slice none 0 0, .slice none 0 0, tb, pb, rb, g, c, Own, w2.heap.size⟩ (fun k => k = w5.heap.size) := by
        refine ⟨hSr, hbok, Nat.zero_le _, HLO.out, HHI.out, ⟨rfl, rfl, rfl, rfl, rfl, (fun i hi => by cases hi), List.nodup_nil, (fun j i e h1 => by cases h1), .inl ⟨rfl, rfl⟩, ⟨rfl, rfl⟩, rfl, by simp⟩, ?_⟩
        rintro k rfl
        refine ⟨fun ho => ?_, hw6l⟩
        rcases ho with h | h | h | h
        · have h' : w5.heap.size = w3.heap.size := h
          omega
        · cases h
        · cases h
        · have := (hOwn _ h).2; omega
      have hr0 : p.lo_ ≤ ent0.n.m ∧ ent0.n.m ≤ p.hi_ := by rw [← HLO.out, ← HHI.out]; exact ⟨r2, r3⟩
      refine (se_put hSe hr0.1 hr0.2 (.root hb6 rfl)).mono ?_
      rintro e w9 ⟨b9, m9, ids9, A9, rfl, hSe9, N9, _, hwk9⟩
      have hge : ∀ k, (⟨w3.heap.size, bb, gr, 0, 0, vs, .slice none 0 0, .slice none 0 0, tb, pb, rb, g, c, Own, w2.heap.size⟩ : SA).own k → w.heap.size ≤ k := fun k hk => by
        rcases hk with h | h | h | h
        · have h' : k = w3.heap.size := h
          omega
        · cases h
        · cases h
        · have := (hOwn _ h).1; omega
      refine ⟨rfl, ⟨b9, m9, ids9, A9, _, N9.1.1, hSe9, hwk9, fun k hk => ?_⟩, (bOn B50 B6).trans (N9.2.2.below' (by have := B6.size; omega) fun k _ hk => hge k hk)⟩
      obtain ⟨⟨_, _, q1, q2, q3, q4, _, _⟩, q5, _⟩ := N9
      have q1' : A9.tb = tb := q1
      have q2' : A9.pb = pb := q2
      have q3' : A9.rb = rb := q3
      have q4' : A9.g = g := q4
      rcases hk with (hk | hk | hk | hk | hk) | hk
      · rcases q5 k hk with h | h
        · exact hge k h
        · omega
      all_goals omega
    obtain ⟨V, rfl, hput⟩ := hput
    rw [hw6] at hput
    clear hw6 hb6 B6 hb5 hT5 hB5 hB B5 B4 B3 B2 B1 B50 B40 hOwn
    go_wp2_with fail
    refine hput.mono ?_
    rintro e w9 ⟨rfl, ⟨b9, m9, ids9, A9, Wy9, x1, x2, x3, x4⟩, BB⟩
    go_wp2
    go_ret2
    refine ⟨?_, BB⟩
    rw [if_pos (by rw [HE.out, if_pos hk])]
    exact ⟨b9, m9, ids9, A9, Wy9, (by rw [x1]; rfl), x2, x3, x4⟩
  · have hbk := bk_New_size h3 h4 (show lo ≤ hi by omega) r1 r4 (cap := cn) (by omega) (by omega) hk w2
    go_wp2_with fail
    refine hbk.mono ?_
    rintro e w3 ⟨rfl, B3⟩
    go_wp2
    go_ret2
    refine ⟨?_, bOn (bOn B10 B2) B3⟩
    have hE6 : newE p cn D = 6 := by rw [HE.out, if_neg (by omega)]
    rw [hE6, if_neg (by decide)]
    rfl
/-- New, whatever it is asked. -/
theorem se_New (p : Pb) (a : Option Addr) (ca : Nat) (cap D : Int) (hp : p.Ok) (w : World) (hw : Bytes w a p.B) :
    Calls Tryz.prog 5 #[.agg (p.cells (.slice a p.B.length ca)), .int .i64 cap, .int .i64 D] w (SeNewPost p cap D w) := by
  by_cases h : probChk p = 0
  · by_cases hb : (cap < 1 ∨ 65536 < cap) ∨ (D < 1 ∨ 65536 < D)
    · exact se_New_bad p a ca cap D hp h hb w hw
    · exact se_New_ok p a ca cap D hp h (by omega) (by omega) (by omega) (by omega) w hw
  · exact se_New_prob p a ca cap D hp h w hw
theorem newE_zero {p : Pb} {cap D : Int} (h : newE p cap D = 0) : probChk p = 0 ∧ 1 ≤ cap ∧ cap ≤ 65536 ∧ 1 ≤ D ∧ D ≤ 65536 ∧ p.hi_ / D - p.lo_ / D + 1 ≤ 65536 := by
  unfold newE at h
  split at h
  · rename_i h1; exact absurd h h1
  · rename_i h1
    split at h
    · cases h
    · split at h
      · cases h
      · split at h
        · refine ⟨Classical.not_not.1 h1, ?_⟩
          omega
        · cases h
end Go.Proofs.YtnjmplapjnnjdaaGreat

/- The search of layer 17: Mark, Top, Result. -/
namespace Go.Proofs.YtnjmplapjnnjdaaGreat
open Go.RowKit

set_option maxRecDepth 5000 in
theorem se_Mark {w : World} {p : Pb} {D : Int} {most : Nat} {s : Bq} {b : Bk} {m : Sr} {ids : List Nat} {A : SA} {Wy : Nat → Prop} (h : Se w p D most s b m ids A Wy) :
    Pure Tryz.prog 23 #[.pointer (some ⟨A.sb, 0, none⟩)] w (.tuple #[.int .i64 s.gone, .bool s.some_]) := by
  go_enter Tryz.func23, Tryz.ntmps23
  go_wp2_with fail
  refine (sr_good _ h.sr).mono ?_
  rintro e w1 ⟨rfl, B1⟩
  have h1 := h.kept B1
  have c3 := h1.sr.cells.c3
  go_wp2_with fail
  refine (bk_Mark h.bok _ h1.sr.bk).mono ?_
  rintro e w2 ⟨rfl, B2⟩
  go_wp2
  go_ret2
  exact ⟨by rw [← h.rel.mark.1, ← h.rel.mark.2]; rfl, bOn B1 B2⟩
/-- Top writes to the buckets. -/
def SeTopPost (p : Pb) (D : Int) (most : Nat) (s : Bq) (b : Bk) (m : Sr) (ids : List Nat) (A : SA) (Wy : Nat → Prop) (w : World) (e : Ending) (w' : World) : Prop :=
  ∃ A', e = .returned (.tuple #[.int .i64 (if s.found.isSome then 0 else topKey D s.L), .bool s.found.isNone]) ∧ Se w' p D most s b m ids A' Wy ∧ SrNext A A' w w'
set_option maxRecDepth 5000 in
theorem se_Top_found {w : World} {p : Pb} {D : Int} {most : Nat} {s : Bq} {b : Bk} {m : Sr} {ids : List Nat} {A : SA} {Wy : Nat → Prop} (hs : s.found.isSome = true) (h : Se w p D most s b m ids A Wy) :
    Pure Tryz.prog 21 #[.pointer (some ⟨A.sb, 0, none⟩)] w (.tuple #[.int .i64 0, .bool false]) := by
  go_enter Tryz.func21, Tryz.ntmps21
  go_wp2_with fail
  refine (sr_good _ h.sr).mono ?_
  rintro e w1 ⟨rfl, B1⟩
  have h1 := h.kept B1
  have c6 := h1.sr.cells.c6
  rcases h.rel.fnd with ⟨f1, f2⟩ | ⟨en, wb, f1, f2, f3⟩
  · rw [f1] at hs; cases hs
  rw [f2] at c6
  replace c6 : w1.cell? ⟨A.sb, 6, none⟩ = some (.pointer (some ⟨wb, 0, none⟩)) := c6
  go_wp2
  go_ret2
  exact ⟨rfl, B1⟩
end Go.Proofs.YtnjmplapjnnjdaaGreat
