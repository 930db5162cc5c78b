import Derived.Test.YtkjnmjilkhigaaaFanoM
import Derived.Test.YtkjnmjilkhigaaaFree3
set_option linter.unusedSimpArgs false
set_option linter.unusedVariables false
set_option linter.unnecessarySimpa false
/- Fano's machine in memory, the program's: where its parts lie; the walks of its small functions and of a fall. -/
namespace Go.Proofs.Ytkjnmjilkhigaaa
open Go.RowKit

/-- Where the parts of a machine lie. -/
structure FA where
  mb : Nat
  way : Nat
  cap : Nat
  tb : Nat
  pb : Nat
  rb : Nat
  tg : Nat
  tc : Nat
  wg : Nat
  wc : Nat
def FA.has (A : FA) (k : Nat) : Prop := k = A.mb ∨ k = A.way ∨ k = A.tb ∨ k = A.pb ∨ k = A.rb ∨ k = A.tg ∨ k = A.wg
/-- What a machine may write to. -/
def FA.wr (A : FA) (k : Nat) : Prop := k = A.mb ∨ k = A.way
def fanoTail (D : Int) (s : Fm) (A : FA) : Array Value := #[.pointer (some ⟨A.tb, 0, none⟩), .int .i64 D, .slice (some ⟨A.way, 0, none⟩) (s.up.length + 1) A.cap, .int .i64 s.thr, .int .i64 s.low, .int .i64 s.work, .bool s.done]
def fanoCells (p : Pb) (D : Int) (s : Fm) (A : FA) : Array Value := p.cells (.slice (some ⟨A.wg, 0, none⟩) p.B.length A.wc) ++ fanoTail D s A
structure FanoIn (w : World) (p : Pb) (D : Int) (s : Fm) (A : FA) : Prop where
  mach : Box w A.mb (fanoCells p D s A)
  tree : TreeIn w p A.tb A.pb A.rb A.tg A.tc
  win : Bytes w (some ⟨A.wg, 0, none⟩) p.B
  wcap : p.B.length ≤ A.wc
  way : w.ownsRow 0 108 5 (.slice (some ⟨A.way, 0, none⟩) (s.up.length + 1) A.cap) (s.up.length + 1) (wayRow s.top s.up)
  ne : A.mb ≠ A.way ∧ (A.mb ≠ A.tb ∧ A.mb ≠ A.pb ∧ A.mb ≠ A.rb ∧ A.mb ≠ A.tg ∧ A.mb ≠ A.wg) ∧ (A.way ≠ A.tb ∧ A.way ≠ A.pb ∧ A.way ≠ A.rb ∧ A.way ≠ A.tg ∧ A.way ≠ A.wg)
  wlt : A.wg < w.heap.size
  tlt : A.tg < w.heap.size
theorem TreeIn.same {w w' : World} {p : Pb} {tb pb rb g c : Nat} (h : TreeIn w p tb pb rb g c) (hk : ∀ k, k = tb ∨ k = pb ∨ k = rb ∨ k = g → w'.heap[k]? = w.heap[k]?) : TreeIn w' p tb pb rb g c :=
  ⟨h.tree.imp fun _ h => (hk tb (.inl rfl)).trans h, h.prob.imp fun _ h => (hk pb (.inr (.inl rfl))).trans h, h.rate.imp fun _ h => (hk rb (.inr (.inr (.inl rfl)))).trans h, h.win.block (hk g (.inr (.inr (.inr rfl)))), h.cap⟩
theorem FanoIn.same {w w' : World} {p : Pb} {D : Int} {s : Fm} {A : FA} (h : FanoIn w p D s A) (hs : w.heap.size ≤ w'.heap.size) (hk : ∀ k, A.has k → w'.heap[k]? = w.heap[k]?) : FanoIn w' p D s A :=
  ⟨h.mach.imp fun _ h => (hk _ (.inl rfl)).trans h,
    h.tree.same fun k hk' => hk k (by unfold FA.has; rcases hk' with h | h | h | h <;> simp [h]),
    h.win.block (hk _ (by simp [FA.has])), h.wcap, ownsN_block h.way fun k hk' => hk k (by rw [← Option.some.inj hk']; exact .inr (.inl rfl)), h.ne, Nat.lt_of_lt_of_le h.wlt hs, Nat.lt_of_lt_of_le h.tlt hs⟩
theorem FanoIn.lt {w : World} {p : Pb} {D : Int} {s : Fm} {A : FA} (h : FanoIn w p D s A) {k : Nat} (hk : A.has k) : k < w.heap.size := by
  rcases hk with rfl | rfl | rfl | rfl | rfl | rfl | rfl
  · exact h.mach.lt
  · exact ownsN_lt h.way
  · exact h.tree.tree.lt
  · exact h.tree.prob.lt
  · exact h.tree.rate.lt
  · exact h.tlt
  · exact h.wlt
theorem FanoIn.kept {w w' : World} {p : Pb} {D : Int} {s : Fm} {A : FA} (h : FanoIn w p D s A) (hB : Below w.heap.size w w') : FanoIn w' p D s A := h.same hB.size fun k hk => hB.block k (h.lt hk)
/-- .. where another one's blocks are written. -/
theorem FanoIn.turn {w w' : World} {p : Pb} {D : Int} {s : Fm} {A : FA} {H : Nat → Prop} (h : FanoIn w p D s A) (hT : Turn H w w') (ha : ∀ k, A.has k → ¬H k) : FanoIn w' p D s A := h.same hT.size fun k hk => hT.block k (h.lt hk) (ha k hk)
structure FanoAt (w : World) (p : Pb) (D : Int) (s : Fm) (A : FA) : Prop where
  c38 : w.cell? ⟨A.mb, 38, none⟩ = some (.int .i64 p.L)
  c40 : w.cell? ⟨A.mb, 40, none⟩ = some (.pointer (some ⟨A.tb, 0, none⟩))
  c41 : w.cell? ⟨A.mb, 41, none⟩ = some (.int .i64 D)
  c42 : w.cell? ⟨A.mb, 42, none⟩ = some (.slice (some ⟨A.way, 0, none⟩) (s.up.length + 1) A.cap)
  c43 : w.cell? ⟨A.mb, 43, none⟩ = some (.int .i64 s.thr)
  c44 : w.cell? ⟨A.mb, 44, none⟩ = some (.int .i64 s.low)
  c45 : w.cell? ⟨A.mb, 45, none⟩ = some (.int .i64 s.work)
  c46 : w.cell? ⟨A.mb, 46, none⟩ = some (.bool s.done)
  fz : ∀ i, w.frozen? ⟨A.mb, i, none⟩ = false
  all : loadAgg w A.mb 0 40 = .ok (.agg (p.cells (.slice (some ⟨A.wg, 0, none⟩) p.B.length A.wc))) w
theorem fano_cell {p : Pb} (hp : p.Ok) {D : Int} {s : Fm} {A : FA} {i : Nat} : (fanoCells p D s A)[40 + i]? = (fanoTail D s A)[i]? := by
  unfold fanoCells
  rw [Array.getElem?_append_right (by rw [hp.size]; omega), hp.size, Nat.add_sub_cancel_left]
theorem FanoIn.at_ {w : World} {p : Pb} (hp : p.Ok) {D : Int} {s : Fm} {A : FA} (h : FanoIn w p D s A) : FanoAt w p D s A := by
  have key : ∀ i, w.cell? ⟨A.mb, 40 + i, none⟩ = (fanoTail D s A)[i]? := fun i => (h.mach.cell _).trans (fano_cell hp)
  refine ⟨?_, (key 0).trans rfl, (key 1).trans rfl, (key 2).trans rfl, (key 3).trans rfl, (key 4).trans rfl, (key 5).trans rfl, (key 6).trans rfl, h.mach.frozen, ?_⟩
  · rw [h.mach.cell]
    unfold fanoCells
    rw [Array.getElem?_append_left (by rw [hp.size]; omega)]
    exact hp.cell38 _
  · refine h.mach.load (by unfold fanoCells; rw [Array.size_append, hp.size]; omega) ?_
    unfold fanoCells
    apply Array.ext'
    rw [Array.toList_extract, List.extract_eq_take_drop, Array.toList_append, List.drop_zero, Nat.zero_add, Nat.sub_zero]
    exact List.take_left' (by rw [Array.length_toList, hp.size])
theorem FanoIn.put {w : World} {p : Pb} (hp : p.Ok) {D : Int} {s s' : Fm} {A : FA} (h : FanoIn w p D s A) (j : Nat) (v : Value) (e : (fanoTail D s A).setIfInBounds j v = fanoTail D s' A)
    (hw : w.ownsRow 0 108 5 (.slice (some ⟨A.way, 0, none⟩) (s'.up.length + 1) A.cap) (s'.up.length + 1) (wayRow s'.top s'.up)) : FanoIn (w.setCell ⟨A.mb, 40 + j, none⟩ v) p D s' A := by
  have hb := h.mach.setCell (i := 40 + j) v
  have e2 : (fanoCells p D s A).setIfInBounds (40 + j) v = fanoCells p D s' A := by
    unfold fanoCells
    rw [Array.setIfInBounds_append_right (by rw [hp.size]; omega), hp.size, Nat.add_sub_cancel_left, e]
  rw [e2] at hb
  obtain ⟨n1, n2, n3⟩ := h.ne
  exact ⟨hb, h.tree.setOther (q := ⟨A.mb, 40 + j, none⟩) ⟨n2.1, n2.2.1, n2.2.2.1, n2.2.2.2.1⟩ v, h.win.block (Below.heap_setCell _ _ _ _ (Ne.symm n2.2.2.2.2)), h.wcap,
    ownsN_block hw fun k hk => Below.heap_setCell _ _ _ _ (by rw [← Option.some.inj hk]; exact Ne.symm n1), h.ne, by simpa using h.wlt, by simpa using h.tlt⟩
theorem FanoIn.thr {w : World} {p : Pb} (hp : p.Ok) {D : Int} {s : Fm} {A : FA} (h : FanoIn w p D s A) (t : Int) : FanoIn (w.setCell ⟨A.mb, 43, none⟩ (.int .i64 t)) p D { s with thr := t } A := h.put hp 3 _ rfl h.way
theorem FanoIn.low {w : World} {p : Pb} (hp : p.Ok) {D : Int} {s : Fm} {A : FA} (h : FanoIn w p D s A) (t : Int) : FanoIn (w.setCell ⟨A.mb, 44, none⟩ (.int .i64 t)) p D { s with low := t } A := h.put hp 4 _ rfl h.way
theorem FanoIn.work {w : World} {p : Pb} (hp : p.Ok) {D : Int} {s : Fm} {A : FA} (h : FanoIn w p D s A) (t : Int) : FanoIn (w.setCell ⟨A.mb, 45, none⟩ (.int .i64 t)) p D { s with work := t } A := h.put hp 5 _ rfl h.way
theorem FanoIn.done {w : World} {p : Pb} (hp : p.Ok) {D : Int} {s : Fm} {A : FA} (h : FanoIn w p D s A) (t : Bool) : FanoIn (w.setCell ⟨A.mb, 46, none⟩ (.bool t)) p D { s with done := t } A := h.put hp 6 _ rfl h.way
theorem FanoIn.pop {w : World} {p : Pb} (hp : p.Ok) {D : Int} {s : Fm} {A : FA} {y : Spot} {ys : List Spot} (h : FanoIn w p D s A) (hu : s.up = y :: ys) : FanoIn (w.setCell ⟨A.mb, 42, none⟩ (.slice (some ⟨A.way, 0, none⟩) (ys.length + 1) A.cap)) p D { s with top := y, up := ys } A := by
  refine h.put hp 2 _ rfl ?_
  have hw := h.way
  rw [hu] at hw
  have := ownsN_prefix (n := ys.length + 1) (m := 1) hw
  rw [wayRow_pop] at this
  exact this
theorem FanoIn.tried {w : World} {p : Pb} {D : Int} {s : Fm} {A : FA} (h : FanoIn w p D s A) (t : Nat) : FanoIn (w.setCell ⟨A.way, s.up.length * 5 + 4, none⟩ (.int .i64 t)) p D { s with top := ⟨s.top.n, s.top.b, t⟩ } A := by
  obtain ⟨n1, n2, n3⟩ := h.ne
  have hw := ownsN_set h.way (s.up.length * 5 + 4) (.int .i64 t)
  rw [wayRow_tried] at hw
  exact ⟨h.mach.setOther n1.symm _, h.tree.setOther (q := ⟨A.way, s.up.length * 5 + 4, none⟩) ⟨n3.1, n3.2.1, n3.2.2.1, n3.2.2.2.1⟩ _, h.win.block (Below.heap_setCell _ _ _ _ (Ne.symm n3.2.2.2.2)), h.wcap, hw, h.ne, by simpa using h.wlt, by simpa using h.tlt⟩
theorem FanoIn.cell {w : World} {p : Pb} {D : Int} {s : Fm} {A : FA} (h : FanoIn w p D s A) {j : Nat} {u : Value} (hj : (wayRow s.top s.up)[j]? = some u) : w.cell? ⟨A.way, j, none⟩ = some u := ownsN_cell h.way hj
theorem FanoIn.frz {w : World} {p : Pb} {D : Int} {s : Fm} {A : FA} (h : FanoIn w p D s A) (j : Nat) : w.frozen? ⟨A.way, j, none⟩ = false := h.way.frozenAt j
/-- where it stands, as cells -/
theorem FanoIn.top {w : World} {p : Pb} {D : Int} {s : Fm} {A : FA} (h : FanoIn w p D s A) : loadAgg w A.way (s.up.length * 5) 3 = .ok (.agg s.top.n.cells) w ∧ w.cell? ⟨A.way, s.up.length * 5 + 2, none⟩ = some (.int .i64 s.top.n.m) ∧ w.cell? ⟨A.way, s.up.length * 5 + 1, none⟩ = some (.int .i64 s.top.n.d) ∧ w.cell? ⟨A.way, s.up.length * 5 + 4, none⟩ = some (.int .i64 s.top.t) :=
  ⟨ownsN_load3 h.way (wayRow_top _ _ (j := 0) (by decide)) (wayRow_top _ _ (j := 1) (by decide)) (wayRow_top _ _ (j := 2) (by decide)), h.cell (wayRow_top _ _ (j := 2) (by decide)), h.cell (wayRow_top _ _ (j := 1) (by decide)), h.cell (wayRow_top _ _ (j := 4) (by decide))⟩
theorem FanoIn.par {w : World} {p : Pb} {D : Int} {s : Fm} {A : FA} {y : Spot} {ys : List Spot} (h : FanoIn w p D s A) (hu : s.up = y :: ys) : w.cell? ⟨A.way, ys.length * 5 + 2, none⟩ = some (.int .i64 y.n.m) := by
  refine h.cell ?_
  rw [hu]
  exact wayRow_up _ _ _ (j := 2) (by decide)
/-- The world's writes so far are the machine's own. -/
theorem Turn.set {H : Nat → Prop} {A B : World} (h : Turn H A B) {q : Addr} (hq : H q.block) (v : Value) : Turn H A (B.setCell q v) :=
  ⟨h.os, h.tape, h.output, by simpa using h.size, fun k hk hn => (Below.heap_setCell _ _ _ _ (fun e => hn (by rw [e]; exact hq))).trans (h.block k hk hn)⟩
theorem Turn.on {H : Nat → Prop} {A B C : World} (h : Turn H A B) (hB : Below B.heap.size B C) : Turn H A C := h.trans (Turn.ofBelow hB)

set_option maxRecDepth 5000 in
theorem fano_none (p : Pb) (hp : p.Ok) (D : Int) (s : Fm) (A : FA) (w : World) (h : FanoIn w p D s A) : Pure Try.prog 41 #[.pointer (some ⟨A.mb, 0, none⟩)] w (.bool false) := by
  have hc := (h.at_ hp).c40
  go_enter Try.func41, Try.ntmps41
  go_wp2
  go_ret
  exact ⟨rfl, Below.refl _ _⟩
set_option maxRecDepth 5000 in
theorem fano_here (p : Pb) (hp : p.Ok) (D : Int) (s : Fm) (hl : s.up.length ≤ 1056) (A : FA) (w : World) (h : FanoIn w p D s A) : Pure Try.prog 55 #[.pointer (some ⟨A.mb, 0, none⟩)] w (.pointer (some ⟨A.way, s.up.length * 5, none⟩)) := by
  have hc := (h.at_ hp).c42
  have hix : wrap64 (((s.up.length + 1 : Nat) : Int) - 1) = (s.up.length : Int) := by unfold wrap64; omega
  go_enter Try.func55, Try.ntmps55
  go_wp2
  (refine wp_region_kept_tail 11 (by kernel_rfl) (by kernel_rfl) ?_; simp only [List.take_succ_cons, List.take_zero, List.drop_succ_cons, List.drop_zero])
  have q := KeptW.cell hc
  repeat first
    | go_big_quiet_step (fail)
  refine wpQuiet_nil ?_
  intro w1 B1
  go_wp2
  go_ret
  exact ⟨rfl, B1⟩
theorem Pb.kids_cnt (p : Pb) (n : Nd) : ((p.kids n).length : Int) = if n.d < p.L then 2 else 1 := by
  unfold Pb.kids Pb.twoK
  split
  · split
    · omega
    · rfl
  · split <;> split <;> first | rfl | omega
theorem build_place1 (n : Nd) (w : World) : (Instr.build 108 #[(0, .agg n.cells)]).run Try.prog w = .ok (.agg #[.int .u32 n.s, .int .i64 n.d, .int .i64 n.m, .int .u8 0, .int .i64 0]) w := by
  unfold Nd.cells nodeCells
  go_simp
  try rfl
theorem build_place2 (n : Nd) (b : Nat) (w : World) : (Instr.build 108 #[(0, .agg n.cells), (1, .int .u8 b)]).run Try.prog w = .ok (.agg #[.int .u32 n.s, .int .i64 n.d, .int .i64 n.m, .int .u8 b, .int .i64 0]) w := by
  unfold Nd.cells nodeCells
  go_simp
  try rfl
theorem fano_kids (p : Pb) (hp : p.Ok) (D : Int) (s : Fm) (A : FA) (n : Nd) (w : World) (h : FanoIn w p D s A) : Pure Try.prog 97 #[.pointer (some ⟨A.mb, 0, none⟩), .int .i64 n.d] w (.int .i64 (p.kids n).length) := by
  have hc := (h.at_ hp).c38
  rw [p.kids_cnt n]
  by_cases hd : n.d < p.L
  · rw [if_pos hd]
    go_enter Try.func97, Try.ntmps97
    go_wp2
    go_ret
    exact ⟨rfl, Below.refl _ _⟩
  · rw [if_neg hd]
    go_enter Try.func97, Try.ntmps97
    go_wp2
    go_ret
    exact ⟨rfl, Below.refl _ _⟩
theorem flat5 (a b c d e : Int) : Flat #[.int .u32 a, .int .i64 b, .int .i64 c, .int .u8 d, .int .i64 e] := by
  intro v hv
  simp at hv
  rcases hv with rfl | rfl | rfl | rfl | rfl <;> exact ⟨fun _ h => (by cases h), fun _ h => (by cases h)⟩
theorem min_if (a b : Int) : (if a < b then a else b) = min b a := by
  by_cases h : a < b
  · rw [if_pos h, Int.min_eq_right (by omega)]
  · rw [if_neg h, Int.min_eq_left (by omega)]
/-- What a fall leaves. -/
def BackPost (p : Pb) (D : Int) (s' : Fm) (A : FA) (w : World) (e : Ending) (w' : World) : Prop := e = .returned (.tuple #[]) ∧ FanoIn w' p D s' A ∧ Turn A.wr w w'
def wayLen (w : World) (mb : Nat) : Nat := match w.cell? ⟨mb, 42, none⟩ with
  | some (.slice _ n _) => n
  | _ => 0
theorem FanoIn.wayLen {w : World} {p : Pb} (hp : p.Ok) {D : Int} {s : Fm} {A : FA} (h : FanoIn w p D s A) : wayLen w A.mb = s.up.length + 1 := by unfold Proofs.Ytkjnmjilkhigaaa.wayLen; rw [(h.at_ hp).c42]
set_option maxRecDepth 5000 in
theorem fano_back (p : Pb) (hp : p.Ok) (hc : probChk p = 0) (D : Int) (hD : 1 ≤ D) (hD2 : D ≤ 65536) (s : Fm) (hb1 : -13100000 ≤ s.thr) (hb2 : s.thr ≤ 13100000) (hw : p.WayOk s.top s.up) (A : FA) (w : World) (h : FanoIn w p D s A) :
    Calls Try.prog 76 #[.pointer (some ⟨A.mb, 0, none⟩)] w (BackPost p D (p.fall D s) A w) := by
  have h40 := (h.at_ hp).c40
  go_enter Try.func76, Try.ntmps76
  go_wp2_with fail
  go_step3
  go_wp2_with fail
  refine (tree_Root _ _).mono ?_
  rintro e w1 ⟨rfl, B1⟩
  have h1 := h.kept B1
  have T1 : Turn A.wr w w1 := Turn.ofBelow B1
  have b2 := Box.new w1 #[.int .u32 0, .int .i64 0, .int .i64 0, .int .u8 0, .int .i64 0] 108
  go_upto_region 1 with (first | ((with_reducible apply w_build (d := 10) (cs := #[.int .u32 0, .int .i64 0, .int .i64 0, .int .u8 0, .int .i64 0])); ((simp only [List.map_toArray, List.map_cons, List.map_nil]); exact build_place1 ⟨0, 0, 0⟩ _)) | ((with_reducible apply stO); rfl; rfl; exact b2; rfl; rfl; exact flat5 0 0 0 0 0; intro w2 hb5 B2 ho2 hs2))
  have B20 : Below w1.heap.size w1 w2 := ((Below.refl _ w1).alloc (Nat.le_refl _) _).trans B2
  have h2 := h1.kept B20
  have T2 : Turn A.wr w w2 := T1.on B20
  have hbx : w1.heap.size < w2.heap.size := hb5.lt
  have hne : ∀ k, A.has k → k ≠ w1.heap.size := fun k hk => by have := h1.lt hk; omega
  clear hs2 ho2 B2 B20 b2 h40 h h1 T1 B1
  go_step3
  go_wp2_with fail
  go_loopw [3] (fun _ wr => ∃ x ys, p.fallL s.thr s.top s.up = p.fallL s.thr x ys ∧ p.WayOk x ys ∧ FanoIn wr p D { s with top := x, up := ys } A ∧ Turn A.wr w wr ∧ Box wr w1.heap.size #[.int .u32 0, .int .i64 0, .int .i64 0, .int .u8 0, .int .i64 0]) (fun _ wr => wayLen wr A.mb)
  case atStart => exact ⟨s.top, s.up, rfl, hw, h2, T2, hb5⟩
  case round =>
    obtain ⟨x, ys, hf, hwx, hR, TR, hbR⟩ := hrel
    have HF := Lib.hid hf; clear hf
    have hJ1 : ys.length ≤ 1055 := by have := (hwx.facts hc).2.1; have := Pb.N_le hc; omega
    have hdx : x.n.d = ys.length := hwx.depth hc
    obtain ⟨J, hJ⟩ : ∃ J, J = ys.length := ⟨_, rfl⟩
    have hhere : ∀ w', FanoIn w' p D { s with top := x, up := ys } A → Pure Try.prog 55 #[.pointer (some ⟨A.mb, 0, none⟩)] w' (.pointer (some ⟨A.way, J * 5, none⟩)) := fun w' h => hJ ▸ fano_here p hp D _ (show ys.length ≤ 1056 by omega) A w' h
    have HJ := Lib.hid hJ
    clear hJ
    go_wp2_with fail
    refine (hhere _ hR).mono ?_
    rintro e w3 ⟨rfl, B3⟩
    have h3 := hR.kept B3
    have HLR := Lib.hid (hR.wayLen hp)
    have T3 := TR.on B3
    have b3 := hbR.kept B3
    clear hR TR hbR B3 h2 T2 hb5 hbx
    go_upto_region 2 with fail
    have hat := h3.at_ hp
    obtain ⟨t0, t2, t1, t4⟩ := h3.top
    have c42 : w3.cell? ⟨A.mb, 42, none⟩ = some (.slice (some ⟨A.way, 0, none⟩) (J + 1) A.cap) := HJ.out ▸ hat.c42
    have c43 := hat.c43
    have gx : loadAgg w3 A.way (J * 5) 3 = .ok (.agg x.n.cells) w3 := HJ.out ▸ t0
    have gr := b3.load (off := 0) (n := 3) (cs' := (Nd.mk 0 0 0).cells) (by decide) rfl
    have hq := eqlNode x.n ⟨0, 0, 0⟩
    rcases ys with _ | ⟨y, zs⟩
    · have hn0 : x.n.same ⟨0, 0, 0⟩ = true := Nd.same_iff.2 hwx.1
      rw [hn0] at hq
      have e1 : ((J : Int) + 1 == 1) = true := by have h := HJ.out; simp at h; simp [h]
      have HX : Hid (p.fallL s.thr x [] = (true, ⟨x.n, x.b, 0⟩, [])) := Lib.hid rfl
      refine wp_region_kept (by kernel_rfl) (by kernel_rfl) ?_
      have q42 := KeptW.cell c42
      repeat first
        | go_big_quiet_skip
        | ((with_reducible apply q_ld); rfl; (with_reducible assumption); (simp only [List.set_cons_zero, List.set_cons_succ]; rfl))
        | go_big_quiet_step (fail)
      refine wpQuiet_nil ?_
      intro w4 B4
      have h4 := h3.kept B4
      have T4 := T3.on B4
      clear q42 gx gr hq c42 c43 t0 t1 t2 t4 hat hhere b3 B4 h3 T3 hne
      go_upto_region 3 with fail
      have a4 := h4.at_ hp
      have c43 := a4.c43
      have c41 := a4.c41
      clear a4
      (refine wp_region_kept_tail 11 (by kernel_rfl) (by kernel_rfl) ?_; simp only [List.take_succ_cons, List.take_zero, List.drop_succ_cons, List.drop_zero])
      have q43 := KeptW.cell c43
      have q41 := KeptW.cell c41
      repeat first
        | go_big_quiet_step (fail)
      refine wpQuiet_nil ?_
      intro w5 B5
      have h5 := h4.kept B5
      have T5 := T4.on B5
      have f5 := (h5.at_ hp).fz 43
      have g5 := (h5.at_ hp).c43
      have h6 := h5.thr hp (s.thr - D)
      have T6 := T5.set (q := ⟨A.mb, 43, none⟩) (.inl rfl) (.int .i64 (s.thr - D))
      clear q43 q41 c43 c41 h4 T4 B5 h5 T5
      go_upto_region 4 with fail
      refine nameAny (fun W => FanoIn W p D { s with top := x, up := [], thr := s.thr - D } A ∧ Turn A.wr w W) ⟨h6, T6⟩ ?_
      clear f5 g5 h6 T6
      rintro w6 ⟨h6, T6⟩
      have a6 := h6.at_ hp
      have c43 := a6.c43
      have c44 := a6.c44
      clear a6
      (refine wp_region_kept_tail 12 (by kernel_rfl) (by kernel_rfl) ?_; simp only [List.take_succ_cons, List.take_zero, List.drop_succ_cons, List.drop_zero])
      have q43 := KeptW.cell c43
      have q44 := KeptW.cell c44
      repeat first
        | go_big_quiet_step (fail)
      refine wpQuiet_nil ?_
      intro w7 B7
      have h7 := h6.kept B7
      have T7 := T6.on B7
      have f7 := (h7.at_ hp).fz 44
      have g7 := (h7.at_ hp).c44
      have h8 : FanoIn (w7.setCell ⟨A.mb, 44, none⟩ (.int .i64 (if s.thr - D < s.low then s.thr - D else s.low))) p D { s with top := x, up := [], thr := s.thr - D, low := min s.low (s.thr - D) } A := by rw [min_if]; exact h7.low hp _
      have T8 := T7.set (q := ⟨A.mb, 44, none⟩) (.inl rfl) (.int .i64 (if s.thr - D < s.low then s.thr - D else s.low))
      clear q43 q44 c43 c44 h6 T6 B7 h7 T7
      go_upto_region 5 with fail
      refine nameAny (fun W => FanoIn W p D { s with top := x, up := [], thr := s.thr - D, low := min s.low (s.thr - D) } A ∧ Turn A.wr w W) ⟨h8, T8⟩ ?_
      clear f7 g7 h8 T8
      rintro w8 ⟨h8, T8⟩
      have t4 : w8.cell? ⟨A.way, J * 5 + 4, none⟩ = some (.int .i64 x.t) := HJ.out ▸ h8.top.2.2.2
      have tz := h8.frz (J * 5 + 4)
      have h9 : FanoIn (w8.setCell ⟨A.way, J * 5 + 4, none⟩ (.int .i64 0)) p D { s with top := ⟨x.n, x.b, 0⟩, up := [], thr := s.thr - D, low := min s.low (s.thr - D) } A := HJ.out ▸ h8.tried 0
      have T9 := T8.set (q := ⟨A.way, J * 5 + 4, none⟩) (.inr rfl) (.int .i64 0)
      clear h8 T8
      go_wp2_with fail
      all_goals refine bodyPost_end (results_nil rfl) rfl ?_
      all_goals refine (show BackPost _ _ _ _ _ _ _ from ⟨rfl, ?_, T9⟩)
      all_goals unfold Pb.fall
      all_goals rw [HF.out, HX.out]
      all_goals exact h9
    · have hn0 : x.n.same ⟨0, 0, 0⟩ = false := by
        rw [Bool.eq_false_iff]
        intro h
        have h0 := Nd.same_iff.1 h
        have := hwx.depth hc
        rw [h0] at this
        have : (0 : Int) = ((zs.length + 1 : Nat) : Int) := this
        omega
      rw [hn0] at hq
      have hpar : w3.cell? ⟨A.way, zs.length * 5 + 2, none⟩ = some (.int .i64 y.n.m) := h3.par rfl
      have hz1 : zs.length + 1 ≤ 1055 := hJ1
      have hJz : J = zs.length + 1 := HJ.out
      have hix : wrap64 ((J : Int) + 1 - 2) = (zs.length : Int) := by unfold wrap64; omega
      clear HJ
      have hJ2 : zs.length < J + 1 := by omega
      have HJ := Lib.hid hJz
      clear hJz
      have hmx := hwx.2.2.2.2.2.bd hc
      by_cases hlt : y.n.m < s.thr
      · have hd : decide (y.n.m < s.thr) = true := by simpa using hlt
        have HX : Hid (p.fallL s.thr x (y :: zs) = (true, ⟨x.n, x.b, 0⟩, y :: zs)) := Lib.hid (if_pos hlt)
        refine wp_region_kept (by kernel_rfl) (by kernel_rfl) ?_
        have q42 := KeptW.cell c42
        have q43 := KeptW.cell c43
        have qp := KeptW.cell hpar
        repeat first
          | go_big_quiet_skip
          | ((with_reducible apply q_ld); rfl; (with_reducible assumption); (simp only [List.set_cons_zero, List.set_cons_succ]; rfl))
          | go_big_quiet_step (fail)
        refine wpQuiet_nil ?_
        intro w4 B4
        have h4 := h3.kept B4
        have T4 := T3.on B4
        clear q42 q43 qp gx gr hq c42 c43 t0 t1 t2 t4 hat hhere b3 B4 h3 T3 hne hd hpar
        go_upto_region 3 with fail
        have a4 := h4.at_ hp
        have c43 := a4.c43
        have c41 := a4.c41
        clear a4
        (refine wp_region_kept_tail 11 (by kernel_rfl) (by kernel_rfl) ?_; simp only [List.take_succ_cons, List.take_zero, List.drop_succ_cons, List.drop_zero])
        have q43 := KeptW.cell c43
        have q41 := KeptW.cell c41
        repeat first
          | go_big_quiet_step (fail)
        refine wpQuiet_nil ?_
        intro w5 B5
        have h5 := h4.kept B5
        have T5 := T4.on B5
        have f5 := (h5.at_ hp).fz 43
        have g5 := (h5.at_ hp).c43
        have h6 := h5.thr hp (s.thr - D)
        have T6 := T5.set (q := ⟨A.mb, 43, none⟩) (.inl rfl) (.int .i64 (s.thr - D))
        clear q43 q41 c43 c41 h4 T4 B5 h5 T5
        go_upto_region 4 with fail
        refine nameAny (fun W => FanoIn W p D { s with top := x, up := y :: zs, thr := s.thr - D } A ∧ Turn A.wr w W) ⟨h6, T6⟩ ?_
        clear f5 g5 h6 T6
        rintro w6 ⟨h6, T6⟩
        have a6 := h6.at_ hp
        have c43 := a6.c43
        have c44 := a6.c44
        clear a6
        (refine wp_region_kept_tail 12 (by kernel_rfl) (by kernel_rfl) ?_; simp only [List.take_succ_cons, List.take_zero, List.drop_succ_cons, List.drop_zero])
        have q43 := KeptW.cell c43
        have q44 := KeptW.cell c44
        repeat first
          | go_big_quiet_step (fail)
        refine wpQuiet_nil ?_
        intro w7 B7
        have h7 := h6.kept B7
        have T7 := T6.on B7
        have f7 := (h7.at_ hp).fz 44
        have g7 := (h7.at_ hp).c44
        have h8 : FanoIn (w7.setCell ⟨A.mb, 44, none⟩ (.int .i64 (if s.thr - D < s.low then s.thr - D else s.low))) p D { s with top := x, up := y :: zs, thr := s.thr - D, low := min s.low (s.thr - D) } A := by rw [min_if]; exact h7.low hp _
        have T8 := T7.set (q := ⟨A.mb, 44, none⟩) (.inl rfl) (.int .i64 (if s.thr - D < s.low then s.thr - D else s.low))
        clear q43 q44 c43 c44 h6 T6 B7 h7 T7
        go_upto_region 5 with fail
        refine nameAny (fun W => FanoIn W p D { s with top := x, up := y :: zs, thr := s.thr - D, low := min s.low (s.thr - D) } A ∧ Turn A.wr w W) ⟨h8, T8⟩ ?_
        clear f7 g7 h8 T8
        rintro w8 ⟨h8, T8⟩
        have t4 : w8.cell? ⟨A.way, J * 5 + 4, none⟩ = some (.int .i64 x.t) := HJ.out ▸ h8.top.2.2.2
        have tz := h8.frz (J * 5 + 4)
        have h9 : FanoIn (w8.setCell ⟨A.way, J * 5 + 4, none⟩ (.int .i64 0)) p D { s with top := ⟨x.n, x.b, 0⟩, up := y :: zs, thr := s.thr - D, low := min s.low (s.thr - D) } A := HJ.out ▸ h8.tried 0
        have T9 := T8.set (q := ⟨A.way, J * 5 + 4, none⟩) (.inr rfl) (.int .i64 0)
        clear h8 T8
        go_wp2_with fail
        all_goals refine bodyPost_end (results_nil rfl) rfl ?_
        all_goals refine (show BackPost _ _ _ _ _ _ _ from ⟨rfl, ?_, T9⟩)
        all_goals unfold Pb.fall
        all_goals rw [HF.out, HX.out]
        all_goals exact h9
      · have hd : decide (y.n.m < s.thr) = false := by simpa using hlt
        refine wp_region_kept (by kernel_rfl) (by kernel_rfl) ?_
        have q42 := KeptW.cell c42
        have q43 := KeptW.cell c43
        have qp := KeptW.cell hpar
        repeat first
          | go_big_quiet_skip
          | ((with_reducible apply q_ld); rfl; (with_reducible assumption); (simp only [List.set_cons_zero, List.set_cons_succ]; rfl))
          | go_big_quiet_step (fail)
        refine wpQuiet_nil ?_
        intro w4 B4
        have h4 := h3.kept B4
        have T4 := T3.on B4
        have b4 := b3.kept B4
        clear q42 q43 qp gx gr hq c42 c43 t0 t1 t2 t4 hat hhere b3 B4 h3 T3 hd hpar
        go_upto_region 6 with fail
        have hjc : J ≤ A.cap := by have := ownsN_cap h4.way; have e : ((y :: zs).length + 1) ≤ A.cap := this; have := HJ.out; simp at e; omega
        have c42 : w4.cell? ⟨A.mb, 42, none⟩ = some (.slice (some ⟨A.way, 0, none⟩) (J + 1) A.cap) := HJ.out ▸ (h4.at_ hp).c42
        have hixJ : wrap64 (J : Int) = (J : Int) := by have := HJ.out; unfold wrap64; omega
        (refine wp_region_kept_tail 14 (by kernel_rfl) (by kernel_rfl) ?_; simp only [List.take_succ_cons, List.take_zero, List.drop_succ_cons, List.drop_zero])
        have q42 := KeptW.cell c42
        repeat first
          | ((with_reducible apply q_slHi); rfl; (first | rfl | exact congrArg (Value.int .i64) hixJ); exact hjc; (simp only [List.set_cons_zero, List.set_cons_succ]; rfl))
          | go_big_quiet_step (fail)
        refine wpQuiet_nil ?_
        intro w5 B5
        have h5 := h4.kept B5
        have T5 := T4.on B5
        have r5 := b4.kept B5
        have f5 := (h5.at_ hp).fz 42
        have g5 := (h5.at_ hp).c42
        have h6 : FanoIn (w5.setCell ⟨A.mb, 42, none⟩ (.slice (some ⟨A.way, 0, none⟩) J A.cap)) p D { s with top := y, up := zs } A := HJ.out ▸ h5.pop hp rfl
        have T6 := T5.set (q := ⟨A.mb, 42, none⟩) (.inl rfl) (.slice (some ⟨A.way, 0, none⟩) J A.cap)
        have r6 := r5.setOther (p := ⟨A.mb, 42, none⟩) (hne _ (.inl rfl)) (.slice (some ⟨A.way, 0, none⟩) J A.cap)
        clear q42 c42 h4 T4 B5 h5 T5 r5 b4
        go_upto_region 7 with fail
        refine nameAny (fun W => FanoIn W p D { s with top := y, up := zs } A ∧ Turn A.wr w W ∧ Box W w1.heap.size #[.int .u32 0, .int .i64 0, .int .i64 0, .int .u8 0, .int .i64 0]) ⟨h6, T6, r6⟩ ?_
        clear f5 g5 h6 T6 r6
        rintro w6 ⟨h6, T6, r6⟩
        have hhere2 : Pure Try.prog 55 #[.pointer (some ⟨A.mb, 0, none⟩)] w6 (.pointer (some ⟨A.way, zs.length * 5, none⟩)) := fano_here p hp D _ (show zs.length ≤ 1056 by omega) A w6 h6
        go_wp2_with fail
        refine hhere2.mono ?_
        rintro e w7 ⟨rfl, B7⟩
        have h7 := h6.kept B7
        have T7 := T6.on B7
        have r7 := r6.kept B7
        clear h6 T6 r6 B7 hhere2
        go_upto_region 8 with fail
        obtain ⟨_, _, t1, t4⟩ := h7.top
        have t1 : w7.cell? ⟨A.way, zs.length * 5 + 1, none⟩ = some (.int .i64 y.n.d) := t1
        have t4 : w7.cell? ⟨A.way, zs.length * 5 + 4, none⟩ = some (.int .i64 y.t) := t4
        have hkids := fun (W : KeptW w7) => fano_kids p hp D _ A y.n W.val (h7.kept W.property)
        refine wp_region_kept (by kernel_rfl) (by kernel_rfl) ?_
        have q1 := KeptW.cell t1
        have q4 := KeptW.cell t4
        repeat first
          | go_big_quiet_step (exact Calls.kept (hkids _))
        refine wpQuiet_nil ?_
        intro w8 B8
        have h8 := h7.kept B8
        have T8 := T7.on B8
        have r8 := r7.kept B8
        have hl8 := h8.wayLen hp
        clear q1 q4 t1 t4 hkids h7 T7 r7 B8
        by_cases hl : y.t < (p.kids y.n).length
        · have hl1 : decide ((y.t : Int) < ((p.kids y.n).length : Int)) = true := by simpa using hl
          have hl2 : decide (y.t < (p.kids y.n).length) = true := by simpa using hl
          have HX : Hid (p.fallL s.thr x (y :: zs) = (false, y, zs)) := Lib.hid (by show (if _ then _ else _) = _; rw [if_neg (show ¬ y.n.m < s.thr by omega), if_pos (by simpa [Pb.left] using hl)])
          go_wp2_with fail
          all_goals refine bodyPost_end (results_nil rfl) rfl ?_
          all_goals refine (show BackPost _ _ _ _ _ _ _ from ⟨rfl, ?_, T8⟩)
          all_goals unfold Pb.fall
          all_goals rw [HF.out, HX.out]
          all_goals exact h8
        · have hl1 : decide ((y.t : Int) < ((p.kids y.n).length : Int)) = false := by simpa using hl
          have hl2 : decide (y.t < (p.kids y.n).length) = false := by simpa using hl
          have HX : Hid (p.fallL s.thr x (y :: zs) = p.fallL s.thr y zs) := Lib.hid (by show (if _ then _ else _) = _; rw [if_neg (show ¬ y.n.m < s.thr by omega), if_neg (by simpa [Pb.left] using hl)])
          have HL8 := Lib.hid hl8
          clear hl8
          go_wp2_with fail
          go_roundw
          case measure => have := HL8.out; have := HLR.out; have := HJ.out; show wayLen _ A.mb < wayLen _ A.mb; simp at *; omega
          case rel => exact ⟨y, zs, HF.out.trans HX.out, hwx.2.2.2.2.2, h8, T8, r8⟩
end Go.Proofs.Ytkjnmjilkhigaaa

/- A region that draws its order: fixed values, ONE call that makes memory, and fixed values again. No program's text is named here. -/
namespace Go.Proofs.Ytkjnmjilkhigaaa
open Go.RowKit

section
variable {P : Program} {ops : Array Oper} {md : Region.Mode} {w0 : World}
theorem anyFr_lexM {Q : Act → (World → Prop) → Prop} (hQ : Anti Q) (hs : Region.noSelect ops = true) {post : List Oper} {K : Act → Prop} (l : List Oper) :
    ∀ (k : Nat) (done : Array Bool) (a : Act) (S : World → Prop), (∀ j, (l ++ post)[j]? = ops[k + j]?) → Region.lexFrom md ops (l ++ post).length k done = true →
    (∀ a' S', (∀ w, S' w → S w) → (∀ j, post[j]? = ops[k + l.length + j]?) → Region.lexFrom md ops post.length (k + l.length) (marked k l.length done) = true → K a' → anyFr P true md ops w0 Q post.length (marked k l.length done) a' S') →
    wpDet P ops w0 K l a → anyFr P true md ops w0 Q (l ++ post).length done a S := by
  induction l with
  | nil => intro k done a S hl hB hp h; exact hp a S (fun _ h => h) (by simpa using hl) (by simpa [marked] using hB) h
  | cons o l ih =>
    intro k done a S hl hB hp h
    have h0 : ops[k]? = some o := by simpa using (hl 0).symm
    simp only [List.cons_append, List.length_cons, Region.lexFrom, Bool.and_eq_true] at hB
    have next : ∀ (a' : Act) (S' : World → Prop), (∀ w, S' w → S w) → wpDet P ops w0 K l a' → anyFr P true md ops w0 Q (l ++ post).length (done.setIfInBounds k true) a' S' := fun a' S' hS h' =>
      ih (k + 1) _ a' S' (fun j => by have := hl (j + 1); simpa [Nat.add_assoc, Nat.add_comm 1 j] using this) hB.2
        (fun a'' S'' hS' e1 e2 hK => by
          have := hp a'' S'' (fun w hw => hS w (hS' w hw)) (by simpa [Nat.add_assoc, Nat.add_comm 1 l.length] using e1) (by simpa [Nat.add_assoc, Nat.add_comm 1 l.length, marked] using e2) hK
          simpa [marked] using this) h'
    unfold wpDet at h
    by_cases hw : Region.wanted o (yielded ops a.tmps) = true
    · rw [if_pos hw] at h
      obtain ⟨v, hv, hn⟩ := h
      refine anyFr_first hQ h0 (Region.noSelect_spec hs) (R := fun u _ => u = v) (.inr ⟨v, fun u w h => h⟩) _ done a S (Region.free_spec h0 hB.1.2) (by simpa using hB.1.1) (.inl ⟨hw, fun _ _ _ _ h => h, fun w hx => ?_⟩) fun u hu => ?_
      · have := hv w hx
        generalize (execOp a.eval o).run P w = r at this
        cases r with
        | ok n w' =>
          cases n <;> simp only [detUpon] at this <;> simp only [freeUpon]
          case value u => obtain ⟨rfl, rfl⟩ := this; exact ⟨Below.refl _ _, rfl⟩
          case skip => obtain ⟨rfl, rfl⟩ := this; exact ⟨Below.refl _ _, rfl⟩
          case enter f args =>
            obtain ⟨rfl, hc⟩ := this
            exact ⟨trivial, Below.refl _ _, hc.mono fun e w'' ⟨he, hx⟩ => ⟨⟨v, he, rfl⟩, hx⟩⟩
        | halt x w' => simp only [detUpon] at this
      · obtain ⟨_, _, rfl⟩ := hu
        exact next _ _ (fun w hw => hw.1) hn
    · rw [if_neg hw] at h
      refine anyFr_first hQ h0 (Region.noSelect_spec hs) (R := fun u _ => u = undef) (.inr ⟨undef, fun u w h => h⟩) _ done a S (Region.free_spec h0 hB.1.2) (by simpa using hB.1.1) (.inr ⟨by simpa using hw, rfl⟩) fun u hu => ?_
      obtain ⟨_, _, rfl⟩ := hu
      exact next _ _ (fun w hw => hw.1) h

/-- THE LAW: n operations of fixed values, one call (the only one that is ready then), fixed values again. -/
theorem wp_region_call {id : Nat} {Q : Exit → Act → World → Prop} {a : Act} {w : World} {l rest : List Oper} {o : Oper} (n : Nat) (hm : P.follows .mixedOrders = true) (hB : Region.lexB .any l.toArray = true) (hl : l.drop n = o :: rest) (hg : o.guard = none)
    (hr : Region.ready .any l.toArray (marked 0 n (Array.replicate l.toArray.size false)) = [n]) (hln : (l.take n).length = n)
    (h : wpDet P l.toArray w (fun a' => isFree P true w o a' (fun a'' S => wpDet P l.toArray w (fun a3 => ∀ w', Ext w w' → S w' → Q .normal a3 w') rest a'') (fun _ => True)) (l.take n) a) : (Code.region id l.toArray true).wp P Q a w := by
  simp only [Region.lexB, Bool.and_eq_true] at hB
  have hQ : Anti (fun a'' S => ∀ w', Ext w w' → S w' → Q .normal a'' w') := anti_region
  have hsplit : l.take n ++ (o :: rest) = l := by rw [← hl, List.take_append_drop]
  have H : anyFr P true .any l.toArray w (fun a'' S => ∀ w', Ext w w' → S w' → Q .normal a'' w') (l.take n ++ (o :: rest)).length (Array.replicate l.toArray.size false) a (fun _ => True) := by
    refine anyFr_lexM hQ hB.1 (post := o :: rest) (l.take n) 0 _ a _ (fun j => by rw [hsplit]; simp) (by rw [hsplit]; simpa using hB.2) (fun a' S' _ e1 e2 hK => ?_) h
    rw [hln] at e1 e2 ⊢
    refine ⟨fun hh => (by rw [hr] at hh; cases hh), fun i hi => ?_⟩
    rw [hr] at hi
    obtain rfl := List.mem_singleton.1 hi
    have h0 : l.toArray[i]? = some o := by simpa using (e1 0).symm
    unfold frOp
    rw [h0]
    simp only
    rw [if_pos (want_none hg)]
    obtain ⟨R, hR, hn⟩ := hK
    refine ⟨R, hR, fun v hv => ?_⟩
    simp only [List.length_cons, Region.lexFrom, Bool.and_eq_true] at e2
    have := anyFr_lexM (md := .any) (w0 := w) (S := fun w => S' w ∧ R v w) hQ hB.1 (post := []) rest (i + 1) ((marked 0 i (Array.replicate l.toArray.size false)).setIfInBounds i true) (a'.put o.dst v)
      (fun j => by rw [List.append_nil]; have := e1 (j + 1); simpa [Nat.add_assoc, Nat.add_comm 1 j] using this) (by rw [List.append_nil]; simpa using e2.2)
      (K := fun a3 => ∀ w', Ext w w' → R v w' → Q .normal a3 w')
      (fun a3 S3 hS _ e4 hk => ⟨by simpa [Region.lexFrom] using e4, fun w' hx hs => hk w' hx (hS w' hs).2⟩) (by
        have h2 := hn v hv
        refine cast ?_ h2
        congr 1
        funext a3
        simp only [true_and])
    simpa using this
  rw [hsplit] at H
  refine wp_region_any hm ?_
  have := wpAny_of_fr (Q' := Q) (fun a'' S w' hw _ hS hq => hq w' hw hS) _ _ _ _ _ ((Below.refl _ w).drew) (fun _ _ _ _ => trivial) trivial H
  simpa using this
/-- the call, by its contract -/
theorem fr_call {K : Act → (World → Prop) → Prop} {l : List Value} {ds : List Deferred} {x : Operand} {xs : List Operand} {ts : Array TypeId} {d : Nat} {f : FuncId} {cap args : List Value} {ty : TypeId} {ps : String} {af : Array Edge} (R : Value → World → Prop)
    (hx : (Act.mk l.toArray ds).eval x = .func (.func f) #[] cap.toArray) (E : EnterF P f) (ha : xs.map (Act.mk l.toArray ds).eval ++ cap = args) (hst : ∀ v, Stable (R v))
    (hc : ∀ w, Ext w0 w → Calls P f args.toArray w (fun e w' => (∃ v, e = .returned v ∧ R v w') ∧ Ext w w'))
    (hn : ∀ v, (∃ w, Ext w0 w ∧ R v w) → K ⟨(l.set d v).toArray, ds⟩ (fun w => True ∧ R v w)) : isFree P true w0 ⟨some d, .call { callee := .value x, args := xs.toArray, argTypes := ts }, ty, ps, af, none⟩ ⟨l.toArray, ds⟩ K (fun _ => True) := by
  refine ⟨R, ⟨hst, fun w hw => ?_⟩, fun v hv => by rw [put_list]; exact hn v hv⟩
  have hr : (execOp (Act.mk l.toArray ds).eval ⟨some d, .call { callee := .value x, args := xs.toArray, argTypes := ts }, ty, ps, af, none⟩).run P w = .ok (.enter f args.toArray) w := by
    have hE := E.out args.toArray w
    rw [← ha] at hE ⊢
    unfold execOp
    simp only [resolve, hx, Deferred.ofValue, Sem.run_bind, Sem.run_pure, Result.andThen_ok, invoke]
    simpa using hE
  rw [hr]
  exact ⟨rfl, Below.refl _ _, hc w hw⟩
end
end Go.Proofs.Ytkjnmjilkhigaaa
