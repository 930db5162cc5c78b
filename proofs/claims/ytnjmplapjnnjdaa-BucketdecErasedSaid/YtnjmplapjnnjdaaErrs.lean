import Derived.Test.YtnjmplapjnnjdaaFill
import Derived.Test.YtnjmplapjnnjdaaDocCount
import Derived.Test.YtnjmplapjnnjdaaLFloors
import Derived.Test.YtnjmplapjnnjdaaPref2
import Derived.LoopIn
set_option linter.unusedSimpArgs false
set_option linter.unusedVariables false
set_option linter.unnecessarySimpa false
/- The walks of the soundness of a table. -/
namespace Go.Proofs.Ytnjmplapjnnjdaa
open Go.RowKit

/-- The level of full confidence in a one. -/
def Tb.last (t : Tb) : Nat := (t.lev - 1).toNat
def Tb.soundB (t : Tb) : Bool := decide (0 < t.m 0 0) && (decide (0 < t.m 1 t.last) && (decide (t.m 0 t.last < 0) && decide (t.m 1 0 < 0)))
def Tb.sound (t : Tb) : Bool := if tabChk t != 0 then false else t.soundB
set_option maxRecDepth 5000 in
set_option maxHeartbeats 1000000 in
theorem ref10_Sound (t : Tb) (ht : t.Ok) (w : World) : Pure Try.prog 50 #[.agg t.cells] w (.tuple #[.bool t.sound, .int .i64 (tabChk t)]) := by
  go_enter Try.func50, Try.ntmps50
  go_upto_region 1 with (fail)
  refine name1 ?_
  intro w0 b1 B0
  obtain ⟨h0, hA, hM⟩ := b1.table ht
  clear h0 hM
  go_wp2_with ((with_reducible apply ld); rfl; (with_reducible assumption); (simp only [List.set_cons_zero, List.set_cons_succ]; rfl))
  refine (ref10_Check t ht _).mono ?_
  rintro e w1 ⟨rfl, B1⟩
  clear hA
  have b11 := b1.kept B1
  have B10 := bOn B0 B1
  by_cases hc : tabChk t = 0
  · obtain ⟨l1, l2⟩ := tabChk_ok hc
    obtain ⟨L, hL⟩ : ∃ L : Nat, t.lev = (L : Int) + 1 := ⟨t.last, by unfold Tb.last; omega⟩
    have hLl : t.last = L := by unfold Tb.last; omega
    have hL16 : L < 16 := by omega
    have hL16' : (L : Int) < 16 := by omega
    have hsn : t.sound = t.soundB := by unfold Tb.sound; rw [if_neg (by simp [hc])]
    obtain ⟨h0, hA, hM⟩ := b11.table ht
    have m00 := (b11.cell _).trans (ht.cellm (b := 0) (r := 0) (by decide) (by decide))
    have m1L := (b11.cell _).trans (ht.cellm (b := 1) (r := L) (by decide) hL16)
    have m0L := (b11.cell _).trans (ht.cellm (b := 0) (r := L) (by decide) hL16)
    have m10 := (b11.cell _).trans (ht.cellm (b := 1) (r := 0) (by decide) (by decide))
    simp only [Nat.zero_mul, Nat.add_zero, Nat.one_mul] at m00 m1L m0L m10
    rw [hL] at h0
    unfold Tb.soundB at hsn
    rw [hLl] at hsn
    rw [hc]
    have HSN := Lib.hid hsn
    have HC := Lib.hid hc
    clear hA hM hL hLl hsn hc l1 l2
    generalize t.m 0 0 = x1 at m00 HSN
    generalize t.m 1 L = x2 at m1L HSN
    generalize t.m 0 L = x3 at m0L HSN
    generalize t.m 1 0 = x4 at m10 HSN
    by_cases q1 : 0 < x1
    · have q1d : decide (0 < x1) = true := decide_eq_true q1
      have Q1 := Lib.hid q1d
      clear q1
      by_cases q2 : 0 < x2
      · have q2d : decide (0 < x2) = true := decide_eq_true q2
        have Q2 := Lib.hid q2d
        clear q2
        by_cases q3 : x3 < 0
        · have q3d : decide (x3 < 0) = true := decide_eq_true q3
          have Q3 := Lib.hid q3d
          clear q3
          by_cases q4 : x4 < 0
          · have q4d : decide (x4 < 0) = true := decide_eq_true q4
            have Q4 := Lib.hid q4d
            clear q4
            go_wp2
            go_ret2
            exact ⟨by rw [HSN.out, HC.out]; simp [Q1.out, Q2.out, Q3.out, Q4.out], B10⟩
          · have q4d : decide (x4 < 0) = false := decide_eq_false q4
            have Q4 := Lib.hid q4d
            clear q4
            go_wp2
            go_ret2
            exact ⟨by rw [HSN.out, HC.out]; simp [Q1.out, Q2.out, Q3.out, Q4.out], B10⟩
        · have q3d : decide (x3 < 0) = false := decide_eq_false q3
          have Q3 := Lib.hid q3d
          clear q3
          go_wp2
          go_ret2
          exact ⟨by rw [HSN.out, HC.out]; simp [Q1.out, Q2.out, Q3.out], B10⟩
      · have q2d : decide (0 < x2) = false := decide_eq_false q2
        have Q2 := Lib.hid q2d
        clear q2
        go_wp2
        go_ret2
        exact ⟨by rw [HSN.out, HC.out]; simp [Q1.out, Q2.out], B10⟩
    · have q1d : decide (0 < x1) = false := decide_eq_false q1
      have Q1 := Lib.hid q1d
      clear q1
      go_wp2
      go_ret2
      exact ⟨by rw [HSN.out, HC.out]; simp [Q1.out], B10⟩
  · have hne : (tabChk t != 0) = true := by simpa using hc
    have hsn : t.sound = false := by unfold Tb.sound; rw [if_pos hne]
    have HSN := Lib.hid hsn
    clear hsn
    go_wp2
    go_ret2
    exact ⟨by rw [HSN.out]; rfl, B10⟩
end Go.Proofs.Ytnjmplapjnnjdaa
/- Laws of clean problems; arms for what the document's walk of them asks. No walk. -/
namespace Go.Proofs.Ytnjmplapjnnjdaa
open Go.RowKit

/-- THE ARM for a slice of the first elements of an array in a variable, in a quiet region. -/
theorem q_slArr {P : Program} {ops : Array Oper} {rest : List Oper} {l l' : List Value} {ds : List Deferred} {w : World} {Q : Act → Prop} {t e len d b n : Nat} {x y : Operand} {k : IntKind} {ty : TypeId} {ps : String} {af : Array Edge}
    (hu : P.underlying t = some (.array len e)) (T : CellTy P e) (hx : (Act.mk l.toArray ds).eval x = .pointer (some ⟨b, 0, none⟩)) (hy : (Act.mk l.toArray ds).eval y = .int k (n : Int)) (hi : n ≤ len) (hs : l.set d (.slice (some ⟨b, 0, none⟩) n len) = l')
    (h : wpQuiet P ops (fun w' => ∃ s : KeptW w, w' = s.val) Q rest ⟨l'.toArray, ds⟩) : wpQuiet P ops (fun w' => ∃ s : KeptW w, w' = s.val) Q (⟨some d, .slice t x none (some y) none, ty, ps, af, none⟩ :: rest) ⟨l.toArray, ds⟩ := by
  refine BigFrame.wpQuiet_want rfl fun K hK => ⟨.slice (some ⟨b, 0, none⟩) n len, fun w' ⟨s, hw⟩ => ?_, hK _ (by rw [put_list, hs]; exact h)⟩
  have hr : (Instr.sliceAt t (.pointer (some ⟨b, 0, none⟩)) none (some (.int k (n : Int))) none).run P w' = .ok (.slice (some ⟨b, 0, none⟩) n len) w' := by
    have hi' : (n : Int) ≤ len := by omega
    have hi2 : ¬ len < n := by omega
    simp [Instr.sliceAt, Sem.run_bind, run_underlying hu, Instr.sureAddr, Instr.sliceBounds, Instr.sliceBound, asIntOf, Sem.run_pure, hi', hi2, hi, run_sizeCell T, Addr.add]
  unfold Oper.quietAt execOp
  simp [hx, hy, Sem.run_bind, hr, Oper.quietUpon]
theorem byteStr_data {l : List Nat} (hl : ∀ x ∈ l, x < 256) : (byteStr l).data.toList.map UInt8.toNat = l := by
  unfold byteStr
  rw [strOfNums_data, List.map_map, List.map_map]
  conv => rhs; rw [← List.map_id l]
  apply List.map_congr_left
  intro x hx
  have := hl x hx
  simp
  omega
theorem byteStr_inj {l m : List Nat} (hl : ∀ x ∈ l, x < 256) (hm : ∀ x ∈ m, x < 256) (h : (byteStr l).data.toList = (byteStr m).data.toList) : l = m := by
  rw [← byteStr_data hl, h, byteStr_data hm]
theorem byteStr_beq {l m : List Nat} (hl : ∀ x ∈ l, x < 256) (hm : ∀ x ∈ m, x < 256) : ((byteStr l).toList == (byteStr m).toList) = decide (l = m) := by
  rw [ByteArray.toList_eq, ByteArray.toList_eq]
  by_cases h : l = m
  · subst h; simp
  · rw [decide_eq_false h, beq_eq_false_iff_ne]
    exact fun he => h (byteStr_inj hl hm he)
theorem eql_str {P : Program} {t : TypeId} {l m : List Nat} (hl : ∀ x ∈ l, x < 256) (hm : ∀ x ∈ m, x < 256) (w : World) : (binOp .eql t (.string (byteStr l)) (.string (byteStr m))).run P w = .ok (.bool (decide (l = m))) w := by
  simp only [binOp]
  simp [Op.stringOp, Sem.run_pure, byteStr_beq hl hm]

/-- The hard decisions of the first levels of a window of levels of full confidence. -/
def Pb.hards (p : Pb) (k : Nat) : List Nat := (p.B.take k).map fun x => if 0 < x then 1 else 0
theorem Pb.hards_succ (p : Pb) {k : Nat} (hk : k < p.B.length) : p.hards (k + 1) = p.hards k ++ [if 0 < p.B[k] then 1 else 0] := by
  unfold Pb.hards
  rw [List.take_succ_eq_append_getElem hk, List.map_append]
  rfl
theorem Pb.hards_lt (p : Pb) (k : Nat) : ∀ x ∈ p.hards k, x < 2 := by
  intro x hx
  obtain ⟨y, _, rfl⟩ := List.mem_map.1 hx
  split <;> omega
theorem Pb.hards_len (p : Pb) {k : Nat} (hk : k ≤ p.B.length) : (p.hards k).length = k := by
  unfold Pb.hards
  rw [List.length_map, List.length_take]; omega
/-- The symbols of a step, as a row. -/
def Cd.syms (c : Cd) (v : Nat) : List Nat := (List.range c.R.toNat).map (c.y v)
theorem Cd.syms_lt (c : Cd) (v : Nat) : ∀ x ∈ c.syms v, x < 2 := by
  intro x hx
  obtain ⟨j, _, rfl⟩ := List.mem_map.1 hx
  exact c.y_lt v j
theorem Cd.syms_len (c : Cd) (v : Nat) : (c.syms v).length = c.R.toNat := by simp [Cd.syms]
/-- What is so of bits that the search for the clean path has taken. -/
structure Pb.Taken (p : Pb) (bs : List Nat) : Prop where
  lt : ∀ x ∈ bs, x < 2
  tail : ∀ (j : Nat) x, bs[j]? = some x → p.L ≤ j → x = 0
  sym : ∀ j, j < bs.length → p.C.syms (p.reg bs j) = ((p.hards p.B.length).drop (j * p.C.R.toNat)).take p.C.R.toNat
theorem Pb.Taken.nil (p : Pb) : p.Taken [] := ⟨by simp, by simp, by simp⟩
theorem Pb.bit_append {p : Pb} {bs : List Nat} {b j : Nat} (hj : j < bs.length) : p.bit (bs ++ [b]) j = p.bit bs j := by
  unfold Pb.bit
  rw [List.getD_eq_getElem?_getD, List.getD_eq_getElem?_getD, List.getElem?_append_left hj]
theorem Pb.st_append {p : Pb} {bs : List Nat} {b : Nat} : ∀ j, j ≤ bs.length → p.st (bs ++ [b]) j = p.st bs j
  | 0, _ => rfl
  | j + 1, hj => by
    show (2 * p.st (bs ++ [b]) j + p.bit (bs ++ [b]) j) % 2 ^ (p.C.K.toNat - 1) = (2 * p.st bs j + p.bit bs j) % 2 ^ (p.C.K.toNat - 1)
    rw [Pb.st_append j (by omega), Pb.bit_append (by omega)]
theorem Pb.bit_last {p : Pb} {bs : List Nat} {b : Nat} (h : p.L ≤ bs.length → b = 0) : p.bit (bs ++ [b]) bs.length = b := by
  unfold Pb.bit
  split
  · rw [List.getD_eq_getElem?_getD, List.getElem?_append_right (Nat.le_refl _)]
    simp
  · exact (h (by omega)).symm
theorem Pb.Taken.snoc {p : Pb} {bs : List Nat} (h : p.Taken bs) {b : Nat} (hb : b < 2) (hL : p.L ≤ bs.length → b = 0) (hs : p.C.syms (2 * p.st bs bs.length + b).toNat = ((p.hards p.B.length).drop (bs.length * p.C.R.toNat)).take p.C.R.toNat) :
    p.Taken (bs ++ [b]) ∧ p.st (bs ++ [b]) (bs.length + 1) = (2 * p.st bs bs.length + b) % 2 ^ (p.C.K.toNat - 1) := by
  have e1 : p.st (bs ++ [b]) bs.length = p.st bs bs.length := Pb.st_append _ (Nat.le_refl _)
  have e2 : p.bit (bs ++ [b]) bs.length = b := Pb.bit_last hL
  refine ⟨⟨fun x hx => ?_, fun j x hx hj => ?_, fun j hj => ?_⟩, ?_⟩
  · rcases List.mem_append.1 hx with h1 | h1
    · exact h.lt x h1
    · obtain rfl := List.mem_singleton.1 h1; exact hb
  · rcases Nat.lt_or_ge j bs.length with h1 | h1
    · rw [List.getElem?_append_left h1] at hx
      exact h.tail j x hx hj
    · rw [List.getElem?_append_right h1] at hx
      have : j - bs.length = 0 := by
        rcases Nat.eq_zero_or_pos (j - bs.length) with h2 | h2
        · exact h2
        · rw [List.getElem?_eq_none (by simp; omega)] at hx; cases hx
      rw [this] at hx
      obtain rfl : b = x := by simpa using hx
      exact hL (by omega)
  · rw [List.length_append, List.length_singleton] at hj
    unfold Pb.reg
    rcases Nat.lt_succ_iff_lt_or_eq.1 hj with h1 | rfl
    · rw [Pb.st_append j (by omega), Pb.bit_append h1]
      exact h.sym j h1
    · rw [e1, e2]
      exact hs
  · show (2 * p.st (bs ++ [b]) bs.length + p.bit (bs ++ [b]) bs.length) % 2 ^ (p.C.K.toNat - 1) = _
    rw [e1, e2]
/-- A clean problem, and its path. -/
structure Pb.CleanBy (p : Pb) (A : List Nat) : Prop where
  chk : probChk p = 0
  sound : p.T.soundB = true
  path : p.Path A
  full : ∀ x ∈ p.B, x = 0 ∨ (x : Int) = p.T.lev - 1
  sym : ∀ j, j < p.N.toNat → p.C.syms (p.reg A j) = ((p.hards p.B.length).drop (j * p.C.R.toNat)).take p.C.R.toNat
theorem Pb.bit_takeC {p : Pb} {bs : List Nat} (h : p.Taken bs) {j : Nat} : p.bit (bs.take p.L.toNat) j = p.bit bs j := by
  unfold Pb.bit
  split
  · rw [List.getD_eq_getElem?_getD, List.getD_eq_getElem?_getD, List.getElem?_take, if_pos (by omega)]
  · rfl
theorem Pb.reg_take {p : Pb} {bs : List Nat} (h : p.Taken bs) (j : Nat) : p.reg (bs.take p.L.toNat) j = p.reg bs j := by
  have hst : ∀ i, p.st (bs.take p.L.toNat) i = p.st bs i := fun i => by
    induction i with
    | zero => rfl
    | succ i ih =>
      show (2 * p.st (bs.take p.L.toNat) i + p.bit (bs.take p.L.toNat) i) % 2 ^ (p.C.K.toNat - 1) = (2 * p.st bs i + p.bit bs i) % 2 ^ (p.C.K.toNat - 1)
      rw [ih, Pb.bit_takeC h]
  unfold Pb.reg
  rw [hst, Pb.bit_takeC h]
theorem Pb.Taken.clean {p : Pb} {bs : List Nat} (h : p.Taken bs) (hc : probChk p = 0) (hs : p.T.soundB = true) (hf : ∀ x ∈ p.B, x = 0 ∨ (x : Int) = p.T.lev - 1) (hl : bs.length = p.N.toNat) : p.CleanBy (bs.take p.L.toNat) := by
  obtain ⟨⟨k1, k2⟩, l1, l2, _⟩ := probChk_ok hc
  refine ⟨hc, hs, ⟨?_, fun x hx => h.lt x (List.mem_of_mem_take hx)⟩, hf, fun j hj => ?_⟩
  · rw [List.length_take, hl]
    unfold Pb.N
    omega
  · rw [Pb.reg_take h]
    exact h.sym j (by omega)
end Go.Proofs.Ytnjmplapjnnjdaa

/- The walk of the wrong places of a path: a loop in the round of a range over the iterator. -/
namespace Go.Proofs.Ytnjmplapjnnjdaa
open Go.RowKit Go.Shelf
attribute [local go_sem] Oper.semAt_some

/-- The hard decision of a level. -/
def Pb.hard (p : Pb) (i : Nat) : Nat := if p.T.lev - 1 < 2 * (p.B.getD i 0 : Int) then 1 else 0
/-- In how many of the first places a step's symbols are wrong. -/
def Pb.errTo (p : Pb) (d v : Nat) : Nat → Int
  | 0 => 0
  | k + 1 => p.errTo d v k + if p.hard (d * p.C.R.toNat + k) = p.C.y v k then 0 else 1
def Pb.errs (p : Pb) (pre : List p.Elem) : Int := pre.foldl (fun m x => m + p.errTo x.1.1 x.1.2 p.C.R.toNat) 0
theorem Pb.errs_snoc (p : Pb) (pre : List p.Elem) (x : p.Elem) : p.errs (pre ++ [x]) = p.errs pre + p.errTo x.1.1 x.1.2 p.C.R.toNat := by simp [Pb.errs]
def Pb.errors (p : Pb) (bs : List Nat) : Int := if p.pathChk bs != 0 then 0 else p.errs (p.pathL bs)
theorem Pb.errTo_bd (p : Pb) (d v : Nat) : ∀ k : Nat, 0 ≤ p.errTo d v k ∧ p.errTo d v k ≤ k
  | 0 => by simp [Pb.errTo]
  | k + 1 => by
    have := p.errTo_bd d v k
    unfold Pb.errTo
    split <;> omega
theorem foldl_nn {α : Type} {f : α → Int} {c : Int} (h : ∀ x, 0 ≤ f x ∧ f x ≤ c) : ∀ (l : List α) (a : Int), a ≤ l.foldl (fun m x => m + f x) a ∧ l.foldl (fun m x => m + f x) a ≤ a + c * l.length
  | [], a => by simp
  | x :: l, a => by
    have h1 := foldl_nn h l (a + f x)
    have h2 := h x
    rw [List.foldl_cons, List.length_cons]
    have h3 : c * ((l.length + 1 : Nat) : Int) = c * l.length + c := by push_cast; rw [Int.mul_add, Int.mul_one]
    rw [h3]
    omega
theorem Pb.errs_bd (p : Pb) (h : p.C.R ≤ 3) (pre : List p.Elem) : 0 ≤ p.errs pre ∧ p.errs pre ≤ 3 * pre.length := by
  have := foldl_nn (f := fun x : p.Elem => p.errTo x.1.1 x.1.2 p.C.R.toNat) (c := 3) (fun x => by have := p.errTo_bd x.1.1 x.1.2 p.C.R.toNat; omega) pre 0
  unfold Pb.errs
  omega
theorem er_ne {g a b c : Nat} (h : g < a) (h1 : a ≤ b) (h2 : b ≤ c) : g ≠ c := by omega
theorem er_ne2 {g a b : Nat} (h : a < b) (h1 : b ≤ g) : g ≠ a := by omega
theorem er_lt {a b n : Nat} (h : a + b < n) : (a : Int) + b < (n : Int) := by omega
theorem er_dec {c m : Nat} (h : c < m) : decide ((c : Int) < (m : Int)) = true ∧ (c : Int) < (m : Int) := by constructor; (simp; omega); omega
theorem er_meas {c m : Nat} (h : c < m) : m - (intOf (.int .i64 ((c : Int) + 1))).toNat < m - (intOf (.int .i64 (c : Int))).toNat := by simp only [intOf]; omega
theorem er_end {c m : Nat} (h : ¬ c < m) (h2 : c ≤ m) : c = m := by omega
theorem err_small {x y : Int} (h0 : 0 ≤ x) (h1 : x ≤ 4000) (h2 : 0 ≤ y) (h3 : y ≤ 3) : wrap64 (x + y + 1) = x + y + 1 := by unfold wrap64; omega
theorem err_ix {d k r n N : Nat} (h : d < N) (hk : k < r) (hr : r ≤ 3) (hN : N ≤ 1055) (hn : n = N * r) : d * r + k < n ∧ d * r ≤ 3165 := by
  subst hn
  have h1 : d * r + r ≤ N * r := by rw [← Nat.succ_mul]; exact Nat.mul_le_mul_right _ h
  have h2 : d * r ≤ 1055 * 3 := Nat.mul_le_mul (by omega) hr
  omega
theorem err_w1 {i k : Nat} (h : i ≤ 3165) (hk : k ≤ 3) : wrap64 ((i : Int) + k) = ((i + k : Nat) : Int) ∧ wrap64 (i : Int) = (i : Int) := by unfold wrap64; omega
theorem err_w2 {b : Nat} (h : b < 256) : wrap64 (2 * (b : Int)) = 2 * (b : Int) := by unfold wrap64; omega
theorem err_w3 {l : Int} (h : 2 ≤ l) (h2 : l ≤ 16) : wrap64 (l - 1) = l - 1 := by unfold wrap64; omega
end Go.Proofs.Ytnjmplapjnnjdaa
