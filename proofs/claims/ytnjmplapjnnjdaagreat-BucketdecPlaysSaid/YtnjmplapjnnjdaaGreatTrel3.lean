import Derived.Test.YtnjmplapjnnjdaaGreatElems
import Derived.Test.YtnjmplapjnnjdaaGreatTypes
import Derived.StillTail
import Derived.Test.YtnjmplapjnnjdaaGreatArith2
set_option linter.unusedSimpArgs false
set_option linter.unusedVariables false
set_option linter.unnecessarySimpa false
/- The walks of the copies that are lent. -/
namespace Go.Proofs.YtnjmplapjnnjdaaGreat
open Go.RowKit

def u8s (l : List Nat) : List Value := l.map fun b => Value.int .u8 (b : Nat)
def marks8 : List Nat := [200, 201, 202, 203, 204, 205, 206, 207]
theorem own_form {w : World} {base e size n k : Nat} {v : Value} {xs : List Value} (h : w.ownsRow base e size v n xs) (hk : v.ownBlock = some k) : ∃ c, v = .slice (some ⟨k, 0, none⟩) n c ∧ n ≤ c := by
  rcases h.2 with ⟨rfl, _⟩ | ⟨g, cap, cur, rfl, hb, hg, hnc, _⟩
  · cases hk
  · obtain rfl : g = k := by simpa [Value.ownBlock] using hk
    exact ⟨cap, rfl, hnc⟩
/-- A lent copy: its memory holds the bytes and eight marks behind them. -/
def Lend (w : World) (B : Nat) (v : Value) (l : List Nat) : Prop :=
  ∃ g c, v = .slice (some ⟨g, 0, none⟩) l.length c ∧ l.length + 8 ≤ c ∧ w.ownsRow B 5 1 (.slice (some ⟨g, 0, none⟩) (l.length + 8) c) (l.length + 8) (u8s (l ++ marks8))
theorem marks_take {k : Nat} (h : k < 8) : marks8.take (k + 1) = marks8.take k ++ [200 + k] := by
  match k, h with
  | 0, _ => rfl
  | 1, _ => rfl
  | 2, _ => rfl
  | 3, _ => rfl
  | 4, _ => rfl
  | 5, _ => rfl
  | 6, _ => rfl
  | 7, _ => rfl
theorem lent_step {l : List Nat} {k : Nat} (h : k < 8) : u8s (l ++ marks8.take k) ++ [Value.int .u8 ((200 + k : Nat) : Int)] = u8s (l ++ marks8.take (k + 1)) := by
  rw [marks_take h]
  simp [u8s]
set_option maxHeartbeats 400000 in
theorem law01_Lent (a : Option Addr) (l : List Nat) (cap : Nat) (hn : l.length ≤ 140737488351232) (w : World) (hb : Bytes w a l) :
    Calls Tryz.prog 12 #[.slice a l.length cap] w fun e w' => ∃ v, e = .returned v ∧ Lend w' w.heap.size v l ∧ Below w.heap.size w w' := by
  have hb1 := fun o => hb.below ((Below.refl w.heap.size w).alloc (Nat.le_refl _) o) (Nat.le_refl _)
  have hown := World.ownsRow_made (base := w.heap.size) (size := 1) (e := 5) w #[] 0 (Nat.le_refl _) (by decide) rfl
  go_enter Tryz.func12, Tryz.ntmps12
  go_wp2_with (at_builtin; refine apB hown (hb1 _) rfl rfl rfl (by omega) (by simp) ?_; intro v1 w1 hown1 hgr1 hat1)
  obtain ⟨c1, g1, rfl, hc1⟩ : ∃ c g, v1 = .slice (some ⟨g, 0, none⟩) l.length c ∧ l.length ≤ c := by
    rcases hat1 with h | h
    · obtain ⟨c, h1, h2⟩ := own_form hown1 h
      exact ⟨c, _, by simpa using h1, by omega⟩
    · obtain ⟨c, h1, h2⟩ := own_form hown1 h
      exact ⟨c, _, by simpa using h1, by omega⟩
  have B1 : Below w.heap.size w w1 := ((Below.refl _ _).alloc (Nat.le_refl _) _).trans (own_below hown hgr1 (by simp))
  have HO : Hid (w1.ownsRow w.heap.size 5 1 (.slice (some ⟨g1, 0, none⟩) (l.length + 0) c1) (l.length + 0) (u8s (l ++ marks8.take 0))) := by
    show World.ownsRow _ _ _ _ _ _ _
    simpa [u8s] using hown1
  clear hown1 hgr1 hat1 hown hb1
  go_loopw [3, 4] (fun v i wr => ∃ k g c : Nat, k ≤ 8 ∧ i = .int .i64 k ∧ v = .slice (some ⟨g, 0, none⟩) (l.length + k) c ∧ Hid (wr.ownsRow w.heap.size 5 1 (.slice (some ⟨g, 0, none⟩) (l.length + k) c) (l.length + k) (u8s (l ++ marks8.take k))) ∧ Below w.heap.size w wr) (fun _ i _ => 8 - (intOf i).toNat)
  case atStart => exact ⟨0, g1, c1, by omega, rfl, rfl, HO, B1⟩
  case round =>
    clear HO B1 hc1
    obtain ⟨k, g, c, hk, rfl, rfl, HO, B1⟩ := hrel
    by_cases hkl : k < 8
    · have hk2 : decide ((k : Int) < 8) = true := by simp; omega
      have hcv : (200 + (k : Int)) % 256 = 200 + k := by omega
      have hsz := B1.size
      go_wp2_with (at_builtin; refine ap (us := [.int .u8 (200 + (k : Int))]) (m := 1) HO.out (by decide) rfl rfl rfl (by intro u hu; simp at hu; subst hu; rfl) (by omega) (by omega) (by omega) ?_; intro v2 w2 hown2 hgr2 hat2)
      obtain ⟨c2, g2, rfl⟩ : ∃ c g, v2 = .slice (some ⟨g, 0, none⟩) (l.length + k + 1) c := by
        rcases hat2 with h | h
        · obtain ⟨c, h1, _⟩ := own_form hown2 h
          exact ⟨c, _, h1⟩
        · obtain ⟨c, h1, _⟩ := own_form hown2 h
          exact ⟨c, _, h1⟩
      have HN := B1.trans (own_below HO.out hgr2 B1.size)
      have h2 := lent_step (l := l) hkl
      go_roundw
      case measure => simp only [intOf]; omega
      case rel => exact ⟨k + 1, g2, c2, by omega, by go_num, rfl, by show World.ownsRow _ _ _ _ _ _ _; rw [← h2]; exact hown2, HN⟩
    · have hk8 : k = 8 := by omega
      have hcc : l.length + k ≤ c := by
        obtain ⟨c', h1, h2⟩ := own_form HO.out rfl
        simp at h1
        omega
      go_wp2
      go_ret
      refine ⟨_, rfl, ⟨g, c, ?_, by omega, ?_⟩, B1⟩
      · rfl
      · subst hk8
        exact HO.out
theorem Lend.below {w w' : World} {B : Nat} {v : Value} {l : List Nat} (h : Lend w B v l) {A : Nat} (hB : Below A w w') (hA : w.heap.size ≤ A) : Lend w' B v l := by
  obtain ⟨g, c, hv, hc, ho⟩ := h
  refine ⟨g, c, hv, hc, ho.1, ?_⟩
  rcases ho.2 with ⟨h, _⟩ | ⟨g', cap, cur, h1, h2, h3, h4⟩
  · cases h
  · exact .inr ⟨g', cap, cur, h1, h2, (hB.block g' (Nat.lt_of_lt_of_le (Array.getElem?_eq_some_iff.1 h3).1 hA)).trans h3, h4⟩
theorem own_cell {w : World} {base e g n c j : Nat} {xs : List Value} {u : Value} (h : w.ownsRow base e 1 (.slice (some ⟨g, 0, none⟩) n c) n xs) (hu : xs[j]? = some u) : w.cell? ⟨g, j, none⟩ = some u := by
  have := h.cells (g := g) rfl j u hu
  have hadd : (⟨g, 0, none⟩ : Addr).add j = ⟨g, j, none⟩ := by unfold Addr.add; split <;> simp_all
  rwa [hadd] at this
theorem u8s_get {l : List Nat} {k : Nat} (h : k < l.length) : (u8s l)[k]? = some (.int .u8 ((l[k] : Nat) : Int)) := by simp [u8s, List.getElem?_eq_getElem h]
theorem marks_get {k : Nat} (h : k < 8) : marks8[k]? = some (200 + k) := by
  match k, h with
  | 0, _ => rfl
  | 1, _ => rfl
  | 2, _ => rfl
  | 3, _ => rfl
  | 4, _ => rfl
  | 5, _ => rfl
  | 6, _ => rfl
  | 7, _ => rfl
/-- What a walk wants of a lent copy. -/
theorem Lend.open {w : World} {B : Nat} {v : Value} {l : List Nat} (h : Lend w B v l) (hl : ∀ x ∈ l, x < 256) :
    ∃ g c, v = .slice (some ⟨g, 0, none⟩) l.length c ∧ l.length + 8 ≤ c ∧ Bytes w (some ⟨g, 0, none⟩) l ∧ B ≤ g ∧ ∀ k, k < 8 → w.cell? ⟨g, l.length + k, none⟩ = some (.int .u8 (200 + (k : Int))) := by
  obtain ⟨g, c, hv, hc, ho⟩ := h
  refine ⟨g, c, hv, hc, ⟨fun k hk => ⟨g, 0, rfl, ?_⟩, hl⟩, (ho.lt g rfl).1, fun k hk => ?_⟩
  · rw [Nat.zero_add, own_cell ho (j := k) (u8s_get (by simp; omega))]
    simp [List.getElem_append_left hk]
  · rw [own_cell ho (j := l.length + k) (u := .int .u8 (200 + (k : Int)))]
    rw [u8s_get (by simp [marks8]; omega)]
    have := marks_get hk
    have h2 : (l ++ marks8)[l.length + k]? = some (200 + k) := by rw [List.getElem?_append_right (by omega)]; simpa using this
    rw [List.getElem?_eq_getElem (by simp [marks8]; omega)] at h2
    injection h2 with h2
    rw [h2]
    simp

end Go.Proofs.YtnjmplapjnnjdaaGreat

/- The walk of the copy of a problem. -/
namespace Go.Proofs.YtnjmplapjnnjdaaGreat
open Go.RowKit

theorem Box.setCell {w : World} {b i : Nat} {cs : Array Value} (h : Box w b cs) (v : Value) : Box (w.setCell ⟨b, i, none⟩ v) b (cs.setIfInBounds i v) := by
  obtain ⟨t, h⟩ := h
  exact ⟨t, setCell_block w b i v cs t _ h⟩
theorem results_cellAgg {P : Program} {fn : Func} {t ty n b : Nat} {tmps : Array Value} {w : World} {v : Value} [T : AggTy P ty n] (h : fn.results = #[.cell t ty]) (hp : tmps.getD t undef = .pointer (some ⟨b, 0, none⟩)) (hl : loadAgg w b 0 n = .ok v w) :
    (results fn tmps).run P w = .ok v w := by
  obtain ⟨d, h1, h2, h3⟩ := T.out
  have := run_loadVar_agg (P := P) (w := w) (b := b) (off := 0) h1 h2 h3 (by rw [hl]; rfl)
  simp only [Array.getD_eq_getD_getElem?] at hp
  simp [results, h, hp, asAddr, Sem.run_bind, this, hl]
theorem Box.setOther {w : World} {b : Nat} {cs : Array Value} (h : Box w b cs) {p : Addr} (hp : p.block ≠ b) (v : Value) : Box (w.setCell p v) b cs := by
  obtain ⟨t, h⟩ := h
  exact ⟨t, (Below.heap_setCell _ _ _ _ (Ne.symm hp)).trans h⟩
theorem Pb.Ok.set39 {p : Pb} (hp : p.Ok) (v v' : Value) : (p.cells v).setIfInBounds 39 v' = p.cells v' := by
  unfold Pb.cells
  have h38 : (p.C.cells ++ p.T.cells).size = 38 := by simp [Cd.cells, hp.t.size]
  apply Array.ext'
  rw [Array.toList_setIfInBounds, Array.toList_append, Array.toList_append (xs := p.C.cells ++ p.T.cells), List.set_append_right _ _ (by rw [Array.length_toList, h38]; omega), Array.length_toList, h38]
  rfl
theorem Pb.Ok.flat {p : Pb} (hp : p.Ok) {v : Value} (hv : (∀ xs, v ≠ .agg xs) ∧ (∀ xs, v ≠ .tuple xs)) : Flat (p.cells v) := by
  intro u hu
  simp [Pb.cells, Cd.cells, Tb.cells, Tb.mc] at hu
  rcases hu with rfl | rfl | rfl | rfl | rfl | rfl | ⟨x, _, rfl⟩ | rfl | rfl
  all_goals first
    | exact hv
    | exact ⟨fun _ h => (by cases h), fun _ h => (by cases h)⟩

theorem Lend.keep {w w' : World} {B : Nat} {v : Value} {l : List Nat} (h : Lend w B v l) (hk : ∀ k, B ≤ k → w'.heap[k]? = w.heap[k]?) : Lend w' B v l := by
  obtain ⟨g, c, hv, hc, ho⟩ := h
  refine ⟨g, c, hv, hc, ho.1, ?_⟩
  rcases ho.2 with ⟨h, _⟩ | ⟨g', cap, cur, h1, h2, h3, h4⟩
  · cases h
  · exact .inr ⟨g', cap, cur, h1, h2, (hk g' h2).trans h3, h4⟩
theorem Lend.low {w : World} {B B' : Nat} {v : Value} {l : List Nat} (h : Lend w B v l) (hB : B' ≤ B) : Lend w B' v l := by
  obtain ⟨g, c, hv, hc, ho⟩ := h
  refine ⟨g, c, hv, hc, ho.1, ?_⟩
  rcases ho.2 with ⟨h, _⟩ | ⟨g', cap, cur, h1, h2, h4⟩
  · cases h
  · exact .inr ⟨g', cap, cur, h1, Nat.le_trans hB h2, h4⟩
theorem box_second {w w1 : World} {o : Obj} {Z cs : Array Value} {t : TypeId} {b : Nat} (_h : Box (w.alloc o) b cs) (B1 : Below ((w.alloc o).alloc (.cells Z t)).heap.size ((w.alloc o).alloc (.cells Z t)) w1) : Box w1 (w.heap.size + 1) Z := by
  have := (Box.new (w.alloc o) Z t).kept B1
  simpa using this
theorem law01_Problem (p : Pb) (a : Option Addr) (cap : Nat) (hp : p.Ok) (hn : p.B.length ≤ 140737488351232) (w : World) (hb : Bytes w a p.B) :
    Calls Tryz.prog 4 #[.agg (p.cells (.slice a p.B.length cap))] w fun e w' => ∃ v, e = .returned (.agg (p.cells v)) ∧ Lend w' w.heap.size v p.B ∧ Below w.heap.size w w' := by
  have hbx := Box.new w (p.cells (.slice a p.B.length cap)) 32
  obtain ⟨fk, fr, flev, fl, fwin, fcode, ftable, fall⟩ := hbx.prob hp
  have f39 := hp.cell39 (.slice a p.B.length cap)
  clear fk fr flev fl fwin fcode ftable fall
  go_enter Tryz.func4, Tryz.ntmps4
  go_wp2_with fail
  refine (law01_Lent a p.B cap (by omega) _ (hb.below (((Below.refl _ _).alloc (Nat.le_refl _) _).alloc (by simp) _) (Nat.le_refl _))).mono ?_
  rintro e w1 ⟨v, rfl, hv, B1⟩
  have hb1 := (hbx.below ((Below.refl _ _).alloc (Nat.le_refl _) _) hbx.lt).kept B1
  have hb2 := (box_second hbx B1)
  have hBL := (((Below.refl w.heap.size w).alloc (Nat.le_refl _) _).alloc (by simp) _).trans (B1.mono (by simp; omega))
  obtain ⟨g, c, rfl, hc, hg, hgB, hm⟩ := hv.open hp.b
  have HV := Lib.hid hv; clear hv
  have hb3 := hb1.setCell (i := 39) (.slice (some ⟨g, 0, none⟩) p.B.length c)
  rw [hp.set39] at hb3
  obtain ⟨_, _, _, _, _, _, _, gall⟩ := hb3.prob hp
  have c39 := hb1.cell 39
  rw [f39] at c39
  have z39 := hb1.frozen 39
  have hb4 := hb2.setOther (p := ⟨w.heap.size, 39, none⟩) (by simp) (.slice (some ⟨g, 0, none⟩) p.B.length c)
  have hs := hp.size (.slice (some ⟨g, 0, none⟩) p.B.length c)
  have hf := hp.flat (v := .slice (some ⟨g, 0, none⟩) p.B.length c) ⟨fun _ h => (by cases h), fun _ h => (by cases h)⟩
  go_wp2_with (first | ((with_reducible apply ld); rfl; (with_reducible assumption); (simp only [List.set_cons_zero, List.set_cons_succ]; rfl)) | ((with_reducible apply stO); rfl; rfl; (with_reducible assumption); rfl; (with_reducible assumption); (with_reducible assumption); intro w2 hb5 B2 ho2 hs2))
  refine bodyPost_ret (results_cellAgg rfl rfl (hb5.load (n := 40) (by rw [hs]; omega) (by rw [Array.extract_eq_self_of_le (by rw [hs]; omega)]))) rfl ?_
  refine ⟨_, rfl, (HV.out.keep fun k hk => ?_).low (by simp; omega), hBL.trans (((Below.refl w.heap.size w1).setCell (Nat.le_refl _) _).trans (B2.mono (by omega)))⟩
  simp at hk
  rw [ho2 k (by omega), Below.heap_setCell _ _ _ _ (by simp; omega)]
end Go.Proofs.YtnjmplapjnnjdaaGreat

/- Regions that draw their order: all operations but the last few are quiet in a class of worlds, the last few stand in one forced order behind them: one walk. Turned from the library's still regions with a tail to a class of worlds. No program's text is named here. -/
namespace Go.Proofs.YtnjmplapjnnjdaaGreat
open Go.RowKit

section
variable {P : Program} {ops : Array Oper} {md : Region.Mode} {C : World → Prop}

/-- The head's operations, in whatever order: what is left when they are done satisfies L. -/
def headQ (P : Program) (md : Region.Mode) (ops : Array Oper) (C : World → Prop) (n : Nat) (L : Array Bool → Act → Prop) : Nat → Array Bool → Act → Prop
  | 0, done, a => L done a
  | f + 1, done, a => Region.ready md ops done ≠ [] ∧ ∀ i ∈ Region.ready md ops done, i < n ∧ qOp P ops C i (headQ P md ops C n L f (done.setIfInBounds i true)) a

theorem any_of_headQ {n g : Nat} {L : Array Bool → Act → Prop} {Q' : Exit → Act → World → Prop} (hL : ∀ done a w, C w → L done a → wpAny P md ops Q' g done a w) (f : Nat) :
    ∀ (done : Array Bool) (a : Act) (w : World), C w → headQ P md ops C n L f done a → wpAny P md ops Q' (f + g) done a w := by
  induction f with
  | zero => intro done a w hw h; rw [Nat.zero_add]; exact hL _ _ _ hw h
  | succ f ih =>
    intro done a w hw h
    rw [show f + 1 + g = (f + g) + 1 by omega]
    refine ⟨fun h0 => absurd h0 h.1, fun i hi => ?_⟩
    exact wpOp_of_qOp hw (fun a' w' hw' h' => ih _ a' w' hw' h') (h.2 i hi).2

/-- If operation i is ready, quiet, and apart from all that needn't wait for it, it may be taken first. -/
theorem headQ_first {n i : Nat} {oi : Oper} {v : Value} {L : Array Bool → Act → Prop} (hi : ops[i]? = some oi) (hsel : ∀ (j : Nat) (o : Oper) cs b, ops[j]? = some o → o.op ≠ .select cs b)
    (hs : Region.sinkB md ops n = true) (hc : Region.chainB md ops n = true) (hn : n < ops.size) (hin : i < n) (hdone : ∀ done a, L done a → ∀ j ∈ Region.ready md ops done, n ≤ j) (f : Nat) :
    ∀ (done : Array Bool) (a : Act), HeadInv md ops n done →
      (∀ j oj, ops[j]? = some oj → j ≠ i → done.getD j true = false → (∀ e ∈ oj.after, Region.binds md e = true → e.on ≠ i) → oi.apart ops oj = true) →
      i ∈ Region.ready md ops done → YieldsIn P ops C oi v a →
      headQ P md ops C n L f (done.setIfInBounds i true) (a.put oi.dst v) → headQ P md ops C n L (f + 1) done a := by
  induction f with
  | zero =>
    intro done a inv hfree hr hy H
    have hun := (mem_ready.1 hr).1
    refine ⟨List.ne_nil_of_mem hr, fun j hj => ?_⟩
    have hjn : j < n := Nat.lt_of_not_le fun h => tail_waits hs hc hn inv _ i rfl hin hun j h hj
    refine ⟨hjn, ?_⟩
    by_cases hji : j = i
    · subst hji; exact hy.qOp hi H
    · exact absurd (hdone _ _ H j (ready_mono hj hji)) (by omega)
  | succ f ih =>
    intro done a inv hfree hr hy H
    have hun := (mem_ready.1 hr).1
    refine ⟨List.ne_nil_of_mem hr, fun j hj => ?_⟩
    have hjn : j < n := Nat.lt_of_not_le fun h => tail_waits hs hc hn inv _ i rfl hin hun j h hj
    refine ⟨hjn, ?_⟩
    by_cases hji : j = i
    · subst hji; exact hy.qOp hi H
    obtain ⟨hjun, oj, hoj, hall⟩ := mem_ready.1 hj
    have hnot : ∀ e ∈ oj.after, Region.binds md e = true → e.on ≠ i := by
      intro e he hb heq
      have := hall e he hb
      rw [heq, getD_both hun] at this
      cases this
    have step := qOp_put hoj (hfree j oj hoj hji hjun hnot) (fun cs b => hsel i oi cs b hi) (fun cs b => hsel j oj cs b hoj) hy (H.2 j (ready_mono hj hji)).2
    refine qOp_mono (fun a' h3 => ih (done.setIfInBounds j true) a' (inv.set hj hjn) ?_ (ready_mono hr (Ne.symm hji)) h3.1 ?_) step
    · intro k ok hk hki hk2 hno
      refine hfree k ok hk hki ?_ hno
      by_cases hjk : j = k
      · subst hjk; exact hjun
      · rwa [getD_set_ne true hjk] at hk2
    · rw [Array.setIfInBounds_comm _ _ hji]
      exact h3.2

theorem headQ_lex {n g : Nat} {Lq : Act → Prop} (hsel : Region.noSelect ops = true) (hs : Region.sinkB md ops n = true) (hc : Region.chainB md ops n = true) (hn : n < ops.size) (l : List Oper) :
    ∀ (k : Nat) (done : Array Bool) (a : Act), (∀ j, j < l.length → l[j]? = ops[k + j]?) → k + l.length = n → HeadInv md ops n done → Region.lexHead md ops g l.length k done = true →
    wpQuiet P ops C Lq l a → headQ P md ops C n (fun d a' => Region.seqB md ops g n d = true ∧ Lq a') l.length done a := by
  induction l with
  | nil =>
    intro k done a _ hk _ hB h
    obtain rfl : k = n := by simpa using hk
    exact ⟨by simpa [Region.lexHead] using hB, h⟩
  | cons o l ih =>
    intro k done a hl hk inv hB h
    have h0 : ops[k]? = some o := by simpa using (hl 0 (by simp)).symm
    simp only [List.length_cons, Region.lexHead, Bool.and_eq_true] at hB
    simp only [List.length_cons] at hk
    obtain ⟨v, hy, hK⟩ := yieldsIn_of_qOp (C := C) (K := wpQuiet P ops C Lq l) h0 (by unfold qOp; simp only [h0]; exact h)
    have hr : k ∈ Region.ready md ops done := by simpa using hB.1.1
    refine headQ_first h0 (Region.noSelect_spec hsel) hs hc hn (by omega) (fun d a' hL => seqB_ready hL.1) l.length done a inv (Region.free_spec h0 hB.1.2) hr hy ?_
    refine ih (k + 1) _ _ (fun j hj => ?_) (by omega) (inv.set hr (by omega)) hB.2 hK
    have := hl (j + 1) (by simp; omega)
    simpa [Nat.add_assoc, Nat.add_comm 1 j] using this

theorem wp_region_quiet_tail {id : Nat} {Q : Exit → Act → World → Prop} {a : Act} {w : World} {l : List Oper} (n : Nat) (hm : P.follows .mixedOrders = true) (hB : Region.lexTailB .any l.toArray n = true) (hC : C { w with drawn := w.drawn + 1 })
    (h : wpQuiet P l.toArray C (fun a' => ∀ w', C w' → wpList P l.toArray Q (l.drop n) a' w') (l.take n) a) : (Code.region id l.toArray true).wp P Q a w := by
  simp only [Region.lexTailB, Bool.and_eq_true, decide_eq_true_eq] at hB
  obtain ⟨⟨⟨⟨hsel, hn⟩, hs⟩, hc⟩, hlex⟩ := hB
  have hn' : n < l.length := by simpa using hn
  have htl : (l.take n).length = n := by simp; omega
  have hdl : (l.drop n).length = l.toArray.size - n := by simp
  have inv0 : HeadInv .any l.toArray n (Array.replicate l.toArray.size false) :=
    ⟨by simp, fun j oj _ hl => (by rw [getD_replicate_false] at hl; cases hl), fun t _ ht => getD_in (by simpa using ht) (getD_replicate_false _ _)⟩
  have H := headQ_lex (md := .any) (g := l.toArray.size - n) hsel hs hc hn (l.take n) 0 _ a (fun j hj => by
    rw [htl] at hj
    simp [hj]) (by simpa using htl) inv0 (by rw [htl]; exact hlex) h
  refine wp_region_any hm ?_
  have fin := any_of_headQ (Q' := Q) (g := l.toArray.size - n) (fun d a' w' hw' hL => by
    have := wpAny_of_seq (md := .any) (Q' := Q) (l.drop n) n d a' w' (fun j => by simp [List.getElem?_drop]) (by rw [hdl]; exact hL.1) (hL.2 w' hw')
    rwa [hdl] at this) _ _ _ _ hC H
  rw [htl, show n + (l.toArray.size - n) = l.toArray.size by omega] at fin
  exact fin
end

/-- The same over the worlds that keep what lay there. -/
theorem wp_region_kept_tail {P : Program} {id : Nat} {Q : Exit → Act → World → Prop} {a : Act} {w : World} {l : List Oper} (n : Nat) (hm : P.follows .mixedOrders = true) (hB : Region.lexTailB .any l.toArray n = true)
    (h : wpQuiet P l.toArray (fun w' => ∃ s : KeptW w, w' = s.val) (fun a' => ∀ w', Below w.heap.size w w' → wpList P l.toArray Q (l.drop n) a' w') (l.take n) a) : (Code.region id l.toArray true).wp P Q a w :=
  wp_region_quiet_tail (C := fun w' => ∃ s : KeptW w, w' = s.val) n hm hB ⟨⟨_, (Below.refl _ w).drew⟩, rfl⟩ (by
    have : (fun a' => ∀ w', Below w.heap.size w w' → wpList P l.toArray Q (l.drop n) a' w') = (fun a' => ∀ w', (∃ s : KeptW w, w' = s.val) → wpList P l.toArray Q (l.drop n) a' w') := by
      funext a'
      exact propext ⟨fun h w' ⟨s, hs⟩ => hs ▸ h _ s.property, fun h w' hb => h w' ⟨⟨w', hb⟩, rfl⟩⟩
    rw [← this]
    exact h)
end Go.Proofs.YtnjmplapjnnjdaaGreat

/- The walks of a step of the trellis: the program's. -/
namespace Go.Proofs.YtnjmplapjnnjdaaGreat
open Go.RowKit

/-- Worlds with one, two, three new variables, under a name. -/
theorem name1 {P : Program} {c : Code} {Q : Exit → Act → World → Prop} {a : Act} {w : World} {A : Array Value} {ta : TypeId} (h : ∀ w0, Box w0 w.heap.size A → Below w.heap.size w w0 → c.wp P Q a w0) : c.wp P Q a (w.alloc (.cells A ta)) :=
  h _ (Box.new _ _ _) ((Below.refl _ _).alloc (Nat.le_refl _) _)
theorem name2 {P : Program} {c : Code} {Q : Exit → Act → World → Prop} {a : Act} {w : World} {A B : Array Value} {ta tb : TypeId} (h : ∀ w0, Box w0 w.heap.size A → Box w0 (w.heap.size + 1) B → Below w.heap.size w w0 → c.wp P Q a w0) : c.wp P Q a ((w.alloc (.cells A ta)).alloc (.cells B tb)) :=
  h _ ((Box.new _ _ _).kept ((Below.refl _ _).alloc (Nat.le_refl _) _)) (by simpa using Box.new (w.alloc (.cells A ta)) B tb) (((Below.refl _ _).alloc (Nat.le_refl _) _).alloc (by simp) _)
theorem name3 {P : Program} {c : Code} {Q : Exit → Act → World → Prop} {a : Act} {w : World} {A B C : Array Value} {ta tb tc : TypeId} (h : ∀ w0, Box w0 w.heap.size A → Box w0 (w.heap.size + 1) B → Box w0 (w.heap.size + 1 + 1) C → Below w.heap.size w w0 → c.wp P Q a w0) :
    c.wp P Q a (((w.alloc (.cells A ta)).alloc (.cells B tb)).alloc (.cells C tc)) :=
  h _ (((Box.new _ _ _).kept ((Below.refl _ _).alloc (Nat.le_refl _) _)).kept ((Below.refl _ _).alloc (Nat.le_refl _) _)) ((by simpa using Box.new (w.alloc (.cells A ta)) B tb : Box _ _ _).kept ((Below.refl _ _).alloc (Nat.le_refl _) _)) (by simpa using Box.new ((w.alloc (.cells A ta)).alloc (.cells B tb)) C tc)
    ((((Below.refl _ _).alloc (Nat.le_refl _) _).alloc (by simp) _).alloc (by simp; omega) _)
theorem results_tmpCell {P : Program} {fn : Func} {t0 t ty n b : Nat} {tmps : Array Value} {w : World} {v0 v : Value} [T : AggTy P ty n] (h : fn.results = #[.tmp t0, .cell t ty]) (h0 : tmps.getD t0 undef = v0) (hp : tmps.getD t undef = .pointer (some ⟨b, 0, none⟩)) (hl : loadAgg w b 0 n = .ok v w) :
    (results fn tmps).run P w = .ok (.tuple #[v0, v]) w := by
  obtain ⟨d, h1, h2, h3⟩ := T.out
  have := run_loadVar_agg (P := P) (w := w) (b := b) (off := 0) h1 h2 h3 (by rw [hl]; rfl)
  simp only [Array.getD_eq_getD_getElem?] at hp h0
  simp [results, h, hp, h0, asAddr, Sem.run_bind, this, hl]
theorem results_tmpCellTmp {P : Program} {fn : Func} {t0 t t1 ty n b : Nat} {tmps : Array Value} {w : World} {v0 v v1 : Value} [T : AggTy P ty n] (h : fn.results = #[.tmp t0, .cell t ty, .tmp t1]) (h0 : tmps.getD t0 undef = v0) (h1' : tmps.getD t1 undef = v1) (hp : tmps.getD t undef = .pointer (some ⟨b, 0, none⟩)) (hl : loadAgg w b 0 n = .ok v w) :
    (results fn tmps).run P w = .ok (.tuple #[v0, v, v1]) w := by
  obtain ⟨d, h1, h2, h3⟩ := T.out
  have := run_loadVar_agg (P := P) (w := w) (b := b) (off := 0) h1 h2 h3 (by rw [hl]; rfl)
  simp only [Array.getD_eq_getD_getElem?] at hp h0 h1'
  simp [results, h, hp, h0, h1', asAddr, Sem.run_bind, this, hl]
theorem Box.alloc {w : World} {b : Nat} {cs : Array Value} (h : Box w b cs) (o : Obj) : Box (w.alloc o) b cs := h.kept ((Below.refl _ _).alloc (Nat.le_refl _) _)
/-- The symbol of generator i of a register. -/
def Cd.sy (c : Cd) (v i : Nat) : Nat := par (v &&& (c.g i).toNat)
/-- The first k symbols. -/
def Cd.ys (c : Cd) (v k : Nat) : Array Value := #[.int .u8 ((if 0 < k then c.sy v 0 else 0 : Nat) : Int), .int .u8 ((if 1 < k then c.sy v 1 else 0 : Nat) : Int), .int .u8 ((if 2 < k then c.sy v 2 else 0 : Nat) : Int)]
theorem Cd.ys_size (c : Cd) (v k : Nat) : (c.ys v k).size = 3 := rfl
theorem Cd.ys_set (c : Cd) (v : Nat) {k : Nat} (h : k < 3) : (c.ys v k).setIfInBounds k (.int .u8 ((c.sy v k : Nat) : Int)) = c.ys v (k + 1) := by
  match k, h with
  | 0, _ => rfl
  | 1, _ => rfl
  | 2, _ => rfl
theorem Cd.ys_get (c : Cd) (v k : Nat) {j : Nat} (h : j < 3) : (c.ys v k)[j]? = some (.int .u8 ((if j < k then c.sy v j else 0 : Nat) : Int)) := by
  match j, h with
  | 0, _ => rfl
  | 1, _ => rfl
  | 2, _ => rfl
theorem Cd.ys_flat (c : Cd) (v k : Nat) : Flat (c.ys v k) := by
  intro u hu
  simp [Cd.ys] at hu
  rcases hu with rfl | rfl | rfl <;> exact ⟨fun _ h => (by cases h), fun _ h => (by cases h)⟩
/-- All symbols of a register; the third one is 0 where the rate is 2. -/
def Cd.yv (c : Cd) (v : Nat) : Array Value := c.ys v c.R.toNat
theorem and_one : ∀ n : Nat, n ≤ 32 → bits .and .i64 (n : Int) 1 = ((n % 2 : Nat) : Int) := by decide +kernel
theorem pow31 {n : Nat} (h : n ≤ 31) : (2 : Int) ^ n ≤ 2147483648 := by
  have : 2 ^ n ≤ 2 ^ 31 := Nat.pow_le_pow_right (by decide) h
  have h2 : ((2 ^ n : Nat) : Int) ≤ ((2 ^ 31 : Nat) : Int) := by exact_mod_cast this
  simpa using h2
theorem one_shl32 {K : Int} (h3 : 3 ≤ K) (h4 : K ≤ 32) : IntKind.u32.wrap (1 * 2 ^ (K.toNat - 1)) = 2 ^ (K.toNat - 1) := by
  have := pow31 (n := K.toNat - 1) (by omega)
  have h0 : (0 : Int) < 2 ^ (K.toNat - 1) := Int.pow_pos (by decide)
  rw [Int.one_mul]
  simp only [IntKind.wrap, IntKind.bits, IntKind.signed]
  simp
  omega
theorem or_shl32 {s b : Int} (s0 : 0 ≤ s) (s1 : s < 2147483648) (b0 : 0 ≤ b) (b1 : b < 2) : bits .or .u32 (s * 2) b = 2 * s + b := by
  obtain ⟨n, rfl⟩ := Int.eq_ofNat_of_zero_le s0
  obtain ⟨m, rfl⟩ := Int.eq_ofNat_of_zero_le b0
  rw [or32 (by omega) (by omega) (by omega) (by omega)]
  have e : ((n : Int) * 2).toNat = 2 * n := by omega
  have e2 : (m : Int).toNat = m := by omega
  rw [e, e2]
  have : 2 * n ||| m = 2 * n + m := by
    have := Nat.two_pow_add_eq_or_of_lt (i := 1) (b := m) (by omega) n
    rw [Nat.pow_one] at this
    exact this.symm
  rw [this]
  omega
/-- The error of a code, a state and a bit. -/
def rightChk (c : Cd) (s b : Int) : Int := if codeChk c != 0 then codeChk c else if s / 2 ^ (c.K.toNat - 1) != 0 then 11 else if decide (1 < b) then 10 else 0

set_option maxRecDepth 5000 in
theorem trellis_right (c : Cd) (hc : c.Ok) (s b : Int) (s0 : 0 ≤ s) (s1 : s < 4294967296) (b0 : 0 ≤ b) (b1 : b < 256) (w : World) : Pure Tryz.prog 60 #[.agg c.cells, .int .u32 s, .int .u8 b] w (.int .i64 (rightChk c s b)) := by
  have hb := Box.new w c.cells 25
  obtain ⟨h0, h1, h2, hA⟩ := hb.code
  have HB := Lib.hid hb; clear hb
  go_enter Tryz.func60, Tryz.ntmps60
  go_wp2_with ((with_reducible apply ld); rfl; (with_reducible assumption); (simp only [List.set_cons_zero, List.set_cons_succ]; rfl))
  refine (code_Check c hc _).mono ?_
  rintro e w1 ⟨rfl, B1⟩
  clear h0 h1 h2 hA
  have B10 : Below w.heap.size w w1 := ((Below.refl _ w).alloc (Nat.le_refl _) _).trans (B1.mono (by simp))
  obtain ⟨h0, h1, h2, hA⟩ := (HB.out.kept B1).code
  by_cases hk : codeChk c = 0
  · obtain ⟨k1, k2, cr⟩ := codeChk_ok hk
    have hkb : (codeChk c != 0) = false := by simp [hk]
    have HR : rightChk c s b = if s / 2 ^ (c.K.toNat - 1) != 0 then 11 else if decide (1 < b) then 10 else 0 := by unfold rightChk; rw [hkb]; rfl
    have HH := Lib.hid HR; clear HR cr hk
    go_wp2_with fail
    all_goals go_ret
    all_goals refine ⟨ret_int ?_, B10⟩
    all_goals rw [HH.out]
    · rename_i hh
      rw [if_pos hh]
    · rename_i hh h2
      rw [if_neg (by simp [hh]), if_pos (by simpa using h2)]
    · rename_i hh h2
      rw [if_neg (by simp [hh]), if_neg (by simp; omega)]
  · have hkb : (codeChk c != 0) = true := by simp [hk]
    have HR : rightChk c s b = codeChk c := by unfold rightChk; rw [hkb]; rfl
    have HH := Lib.hid HR; clear HR hk
    go_wp2
    go_ret
    exact ⟨ret_int HH.out.symm, B10⟩
theorem pops (x : Int) (h0 : 0 ≤ x) (hx : x < 4294967296) (w : World) : Calls Tryz.prog 81 #[.int .u32 x] w fun e w' => (∃ n : Nat, e = .returned (.int .i64 n) ∧ n ≤ 32 ∧ bits .and .i64 (n : Int) 1 = (par x.toNat : Nat)) ∧ Below w.heap.size w w' := by
  refine (bits_OnesCount32 x h0 hx w).mono ?_
  rintro e w' ⟨rfl, B⟩
  refine ⟨⟨_, rfl, ?_, ?_⟩, B⟩
  · have := pop8_le (x.toNat / 16777216) (by omega); have := pop8_le (x.toNat / 65536 % 256) (by omega); have := pop8_le (x.toNat / 256 % 256) (by omega); have := pop8_le (x.toNat % 256) (by omega)
    omega
  · have := pop8_le (x.toNat / 16777216) (by omega); have := pop8_le (x.toNat / 65536 % 256) (by omega); have := pop8_le (x.toNat / 256 % 256) (by omega); have := pop8_le (x.toNat % 256) (by omega)
    rw [and_one _ (by omega), par_bytes _ (by omega)]

set_option maxRecDepth 5000 in
theorem trellis_step (c : Cd) (hc : c.Ok) (hk : codeChk c = 0) (s b : Int) (s0 : 0 ≤ s) (s1 : s < 2 ^ (c.K.toNat - 1)) (b0 : 0 ≤ b) (b1 : b < 2) (w : World) :
    Pure Tryz.prog 61 #[.agg c.cells, .int .u32 s, .int .u8 b] w (.tuple #[.int .u32 ((2 * s + b) % 2 ^ (c.K.toNat - 1)), .agg (c.yv (2 * s + b).toNat)]) := by
  have hb := Box.new w c.cells 25
  obtain ⟨h0, h1, h2, hA⟩ := hb.code
  obtain ⟨k1, k2, cr⟩ := codeChk_ok hk
  have hp31 : (2 : Int) ^ (c.K.toNat - 1) ≤ 2147483648 := pow31 (by omega)
  have hor : bits .or .u32 (s * 2) b = 2 * s + b := or_shl32 s0 (by omega) b0 b1
  have HB := Lib.hid hb; clear hb
  go_enter Tryz.func61, Tryz.ntmps61
  have e1 := c.cell1
  go_wp2_with fail
  refine name3 ?_
  intro w0 b3 b7 b9 B0
  clear h0 h1 h2 hA HB e1
  have hR : c.R.toNat ≤ 3 := by omega
  go_loopw [10, 18] (fun _ i wr => ∃ k : Nat, k ≤ c.R.toNat ∧ i = .int .i64 k ∧ Box wr w.heap.size c.cells ∧ Box wr (w.heap.size + 1) (c.ys 0 0) ∧ Box wr (w.heap.size + 1 + 1) (c.ys (2 * s + b).toNat k) ∧ Below w.heap.size w wr) (fun _ i _ => 3 - (intOf i).toNat)
  case atStart => exact ⟨0, by omega, rfl, b3, b7, b9, B0⟩
  case round =>
    clear b3 b7 b9 B0
    obtain ⟨k, hk, rfl, b3, b7, b9, B0⟩ := hrel
    have hgk := hc.g0 k
    have hgk1 := hc.g1 k
    obtain ⟨h0, h1, h2, hA⟩ := b3.code
    by_cases hkl : k < c.R.toNat
    · have hcell := b3.cell (2 + k)
      rw [c.cellg (by omega)] at hcell
      have hk1 : (k : Int) < c.R := by omega
      have hk2 : decide ((k : Int) < c.R) = true := by simp; omega
      have hk3 : (k : Int) < 3 := by omega
      have hand := and32 (x := 2 * s + b) (y := c.g k) (by omega) (by omega) hgk hgk1
      have hy := b9.cell k
      rw [c.ys_get _ _ (by omega)] at hy
      have hyf := b9.frozen k
      have hpl : (((2 * s + b).toNat &&& (c.g k).toNat : Nat) : Int) < 4294967296 := by have := @Nat.and_le_left (2 * s + b).toNat (c.g k).toNat; omega
      have hbound : ((c.sy (2 * s + b).toNat k : Nat) : Int) % 256 = (c.sy (2 * s + b).toNat k : Nat) := by have := par_lt ((2 * s + b).toNat &&& (c.g k).toNat); unfold Cd.sy; omega
      go_wp2_with fail
      refine (pops _ (by omega) hpl _).mono ?_
      rintro e w1 ⟨⟨n, rfl, hn, hpar⟩, B1⟩
      rw [Int.toNat_natCast] at hpar
      have hpar2 : bits .and .i64 (n : Int) 1 = (c.sy (2 * s + b).toNat k : Nat) := hpar
      have hy1 := (B1.cell (lt_of_cell hy)).trans hy
      have hyf1 := (b9.kept B1).frozen k
      have N3 := ((b3.kept B1).setOther (p := ⟨w.heap.size + 1 + 1, k, none⟩) (by simp; omega) (.int .u8 ((c.sy (2 * s + b).toNat k : Nat) : Int)))
      have N7 := ((b7.kept B1).setOther (p := ⟨w.heap.size + 1 + 1, k, none⟩) (by simp) (.int .u8 ((c.sy (2 * s + b).toNat k : Nat) : Int)))
      have N9 := ((b9.kept B1).setCell (i := k) (.int .u8 ((c.sy (2 * s + b).toNat k : Nat) : Int)))
      rw [c.ys_set _ (by omega)] at N9
      have NB := (B0.trans (B1.mono B0.size)).trans ((Below.refl w.heap.size w1).setCell (p := ⟨w.heap.size + 1 + 1, k, none⟩) (by simp; omega) (.int .u8 ((c.sy (2 * s + b).toNat k : Nat) : Int)))
      clear hpar hy hyf h0 h1 h2 hA hcell
      go_wp2
      go_roundw
      case measure => simp only [intOf]; omega
      case rel => exact ⟨k + 1, by omega, by go_num, N3, N7, N9, NB⟩
    · have hkR : k = c.R.toNat := by omega
      have hl9 := b9.load (off := 0) (n := 3) (cs' := c.ys (2 * s + b).toNat k) (by rw [c.ys_size]; omega) (Array.extract_eq_self_of_le (by rw [c.ys_size]; omega))
      have hshl := one_shl32 k1 k2
      have hmask := mask32 (x := 2 * s + b) (c.K.toNat - 1) (by omega) (by omega) (by omega)
      go_wp2_with fail
      (refine wp_region_kept_tail 9 (by kernel_rfl) (by kernel_rfl) ?_; simp only [List.take_succ_cons, List.take_zero, List.drop_succ_cons, List.drop_zero])
      have q0 := KeptW.cell h0
      clear h0 h1 h2 hA
      repeat first
        | ((with_reducible apply q_ld); rfl; (with_reducible assumption); (simp only [List.set_cons_zero, List.set_cons_succ]; rfl))
        | go_big_quiet_step (fail)
      refine wpQuiet_nil ?_
      intro w2 B2
      have N7 := b7.kept B2
      have hfl := c.ys_flat (2 * s + b).toNat k
      go_wp2_with ((with_reducible apply st); rfl; rfl; (with_reducible assumption); rfl; rfl; (with_reducible assumption); intro w3 N8 B3)
      refine bodyPost_ret (results_tmpCell rfl rfl rfl (N8.load (n := 3) (by rw [c.ys_size]; omega) (Array.extract_eq_self_of_le (by rw [c.ys_size]; omega)))) rfl ?_
      refine ⟨?_, (B0.trans (B2.mono B0.size)).trans (B3.mono (by omega))⟩
      subst hkR
      rfl
end Go.Proofs.YtnjmplapjnnjdaaGreat
/- The walks of a step of the trellis: the program's own door, and the document's. -/
namespace Go.Proofs.YtnjmplapjnnjdaaGreat
open Go.RowKit

theorem rightChk_ok {c : Cd} {s b : Int} (hk : codeChk c = 0) (s0 : 0 ≤ s) (s1 : s < 2 ^ (c.K.toNat - 1)) (b1 : b < 2) : rightChk c s b = 0 := by
  unfold rightChk
  have : s / 2 ^ (c.K.toNat - 1) = 0 := Int.ediv_eq_zero_of_lt s0 s1
  rw [if_neg (by simp [hk]), if_neg (by simp [this]), if_neg (by simp; omega)]

set_option maxRecDepth 5000 in
theorem trellis_Step (c : Cd) (hc : c.Ok) (hk : codeChk c = 0) (s b : Int) (s0 : 0 ≤ s) (s1 : s < 2 ^ (c.K.toNat - 1)) (b0 : 0 ≤ b) (b1 : b < 2) (w : World) :
    Pure Tryz.prog 37 #[.agg c.cells, .int .u32 s, .int .u8 b] w (.tuple #[.int .u32 ((2 * s + b) % 2 ^ (c.K.toNat - 1)), .agg (c.yv (2 * s + b).toNat), .int .i64 0]) := by
  have hb := Box.new w c.cells 25
  obtain ⟨h0, h1, h2, hA⟩ := hb.code
  obtain ⟨k1, k2, cr⟩ := codeChk_ok hk
  have hp31 : (2 : Int) ^ (c.K.toNat - 1) ≤ 2147483648 := pow31 (by omega)
  have hsz := c.ys_size (2 * s + b).toNat c.R.toNat
  have hfl := c.ys_flat (2 * s + b).toNat c.R.toNat
  have HB := Lib.hid hb; clear hb
  go_enter Tryz.func37, Tryz.ntmps37
  go_upto_region 1 with (fail)
  refine name2 ?_
  intro w0 b3 b7 B0
  clear h0 h1 h2 hA HB
  obtain ⟨h0, h1, h2, hA⟩ := b3.code
  go_wp2_with ((with_reducible apply ld); rfl; (with_reducible assumption); (simp only [List.set_cons_zero, List.set_cons_succ]; rfl))
  refine (trellis_right c hc s b s0 (by omega) b0 (by omega) _).mono ?_
  rintro e w1 ⟨rfl, B1⟩
  rw [rightChk_ok hk s0 s1 b1]
  clear h0 h1 h2 hA
  have b31 := b3.kept B1
  have b71 := b7.kept B1
  obtain ⟨h0, h1, h2, hA⟩ := b31.code
  have B10 := B0.trans (B1.mono B0.size)
  go_wp2_with ((with_reducible apply ld); rfl; (with_reducible assumption); (simp only [List.set_cons_zero, List.set_cons_succ]; rfl))
  refine (trellis_step c hc hk s b s0 s1 b0 b1 _).mono ?_
  rintro e w2 ⟨rfl, B2⟩
  clear h0 h1 h2 hA
  have b72 := (b71.kept B2).alloc (.cells #[.int .u8 0, .int .u8 0, .int .u8 0] 102)
  have b11 := Box.new w2 #[.int .u8 0, .int .u8 0, .int .u8 0] 102
  have B20 := (B10.trans (B2.mono B10.size))
  have hsz2 := B20.size
  go_wp2_with ((with_reducible apply st); rfl; rfl; exact b11; rfl; exact hsz; exact hfl; intro w3 N11 B3)
  have b7lt := (b71.kept B2).lt
  have b73 := b72.below B3 b7lt
  have hl11 := N11.load (off := 0) (n := 3) (cs' := c.yv (2 * s + b).toNat) (by unfold Cd.yv; rw [c.ys_size]; omega) (Array.extract_eq_self_of_le (by unfold Cd.yv; rw [c.ys_size]; omega))
  have B30 := B20.trans (((Below.refl _ _).alloc B20.size _).trans (B3.mono B20.size))
  (refine wp_region_kept_tail 3 (by kernel_rfl) (by kernel_rfl) ?_; simp only [List.take_succ_cons, List.take_zero, List.drop_succ_cons, List.drop_zero])
  repeat first
    | ((with_reducible apply q_ld); rfl; (with_reducible assumption); (simp only [List.set_cons_zero, List.set_cons_succ]; rfl))
    | go_big_quiet_step (fail)
  refine wpQuiet_nil ?_
  intro w4 B4
  have b74 := b73.kept B4
  go_wp2_with ((with_reducible apply st); rfl; rfl; exact b74; rfl; exact hsz; exact hfl; intro w5 N5 B5)
  refine bodyPost_ret (results_tmpCellTmp rfl rfl rfl rfl (N5.load (n := 3) (by unfold Cd.yv; rw [c.ys_size]; omega) (Array.extract_eq_self_of_le (by unfold Cd.yv; rw [c.ys_size]; omega)))) rfl ?_
  exact ⟨rfl, (B30.trans (B4.mono B30.size)).trans (B5.mono (by omega))⟩
end Go.Proofs.YtnjmplapjnnjdaaGreat
/- The walks of a step of the trellis: the document's. -/
namespace Go.Proofs.YtnjmplapjnnjdaaGreat
open Go.RowKit

set_option maxRecDepth 5000 in
theorem ref07_Out (c : Cd) (hc : c.Ok) (k1 : 3 ≤ c.K) (k2 : c.K ≤ 32) (cr : c.R = 2 ∨ c.R = 3) (v : Int) (v0 : 0 ≤ v) (v1 : v < 4294967296) (w : World) :
    Pure Tryz.prog 97 #[.agg c.cells, .int .u32 v] w (.agg (c.yv v.toNat)) := by
  go_enter Tryz.func97, Tryz.ntmps97
  go_upto_region 2 with (fail)
  refine name3 ?_
  intro w0 b3 b7 b9 B0
  have hR : c.R.toNat ≤ 3 := by omega
  go_wp2_with fail
  go_loopw [6] (fun i wr => ∃ k : Nat, k ≤ c.R.toNat ∧ i = .int .i64 k ∧ Box wr w.heap.size c.cells ∧ Box wr (w.heap.size + 1) (c.ys 0 0) ∧ Box wr (w.heap.size + 1 + 1) (c.ys v.toNat k) ∧ Below w.heap.size w wr) (fun i _ => 3 - (intOf i).toNat)
  case atStart => exact ⟨0, by omega, rfl, b3, b7, b9, B0⟩
  case round =>
    clear b3 b7 b9 B0
    obtain ⟨k, hk, rfl, b3, b7, b9, B0⟩ := hrel
    have hgk := hc.g0 k
    have hgk1 := hc.g1 k
    obtain ⟨h0, h1, h2, hA⟩ := b3.code
    by_cases hkl : k < c.R.toNat
    · have hcell := b3.cell (2 + k)
      rw [c.cellg (by omega)] at hcell
      have hk1 : (k : Int) < c.R := by omega
      have hk2 : decide ((k : Int) < c.R) = true := by simp; omega
      have hk3 : (k : Int) < 3 := by omega
      have hand := and32 (x := v) (y := c.g k) v0 v1 hgk hgk1
      have hy := b9.cell k
      rw [c.ys_get _ _ (by omega)] at hy
      have hpl : ((v.toNat &&& (c.g k).toNat : Nat) : Int) < 4294967296 := by have := @Nat.and_le_left v.toNat (c.g k).toNat; omega
      go_wp2_with fail
      refine (ref_parity _ (by omega) hpl _).mono ?_
      rintro e w1 ⟨rfl, B1⟩
      rw [Int.toNat_natCast]
      have hsy : par (v.toNat &&& (c.g k).toNat) = c.sy v.toNat k := rfl
      rw [hsy]
      have hy1 := (B1.cell (lt_of_cell hy)).trans hy
      have hyf1 := (b9.kept B1).frozen k
      have N3 := ((b3.kept B1).setOther (p := ⟨w.heap.size + 1 + 1, k, none⟩) (by simp; omega) (.int .u8 ((c.sy v.toNat k : Nat) : Int)))
      have N7 := ((b7.kept B1).setOther (p := ⟨w.heap.size + 1 + 1, k, none⟩) (by simp) (.int .u8 ((c.sy v.toNat k : Nat) : Int)))
      have N9 := ((b9.kept B1).setCell (i := k) (.int .u8 ((c.sy v.toNat k : Nat) : Int)))
      rw [c.ys_set _ (by omega)] at N9
      have NB := (B0.trans (B1.mono B0.size)).trans ((Below.refl w.heap.size w1).setCell (p := ⟨w.heap.size + 1 + 1, k, none⟩) (by simp; omega) (.int .u8 ((c.sy v.toNat k : Nat) : Int)))
      clear hsy hy h0 h1 h2 hA hcell
      go_wp2
      go_roundw
      case measure => simp only [intOf]; omega
      case rel => exact ⟨k + 1, by omega, by go_num, N3, N7, N9, NB⟩
    · have hkR : k = c.R.toNat := by omega
      have hl9 := b9.load (off := 0) (n := 3) (cs' := c.ys v.toNat k) (by rw [c.ys_size]; omega) (Array.extract_eq_self_of_le (by rw [c.ys_size]; omega))
      have hfl := c.ys_flat v.toNat k
      clear hkR
      go_wp2_with (first | ((with_reducible apply ld); rfl; (with_reducible assumption); (simp only [List.set_cons_zero, List.set_cons_succ]; rfl)) | ((with_reducible apply st); rfl; rfl; exact b7; rfl; rfl; exact hfl; intro w5 N5 B5))
      have hkR : k = c.R.toNat := by omega
      refine bodyPost_ret (results_cellAgg rfl rfl (N5.load (n := 3) (by rw [c.ys_size]; omega) (Array.extract_eq_self_of_le (by rw [c.ys_size]; omega)))) rfl ?_
      refine ⟨?_, B0.trans (B5.mono (by omega))⟩
      subst hkR
      rfl

theorem one_shl64 {K : Int} (h3 : 3 ≤ K) (h4 : K ≤ 32) : IntKind.u64.wrap (1 * 2 ^ (K.toNat - 1)) = 2 ^ (K.toNat - 1) := by
  have := pow31 (n := K.toNat - 1) (by omega)
  have h0 : (0 : Int) < 2 ^ (K.toNat - 1) := Int.pow_pos (by decide)
  rw [Int.one_mul]
  simp only [IntKind.wrap, IntKind.bits, IntKind.signed]
  simp
  omega
set_option maxRecDepth 5000 in
theorem ref07_Next (c : Cd) (hc : c.Ok) (k1 : 3 ≤ c.K) (k2 : c.K ≤ 32) (cr : c.R = 2 ∨ c.R = 3) (s b : Int) (s0 : 0 ≤ s) (s1 : s < 2 ^ (c.K.toNat - 1)) (b0 : 0 ≤ b) (b1 : b < 2) (w : World) :
    Pure Tryz.prog 93 #[.agg c.cells, .int .u32 s, .int .u8 b] w (.tuple #[.int .u32 ((2 * s + b) % 2 ^ (c.K.toNat - 1)), .agg (c.yv (2 * s + b).toNat)]) := by
  have hp31 : (2 : Int) ^ (c.K.toNat - 1) ≤ 2147483648 := pow31 (by omega)
  have hp0 : (0 : Int) < 2 ^ (c.K.toNat - 1) := Int.pow_pos (by decide)
  have hsz := c.ys_size (2 * s + b).toNat c.R.toNat
  have hfl := c.ys_flat (2 * s + b).toNat c.R.toNat
  go_enter Tryz.func93, Tryz.ntmps93
  go_upto_region 1 with (fail)
  refine name2 ?_
  intro w0 b3 b7 B0
  obtain ⟨h0, h1, h2, hA⟩ := b3.code
  have hshl := one_shl64 k1 k2
  have hm0 := Int.emod_nonneg (2 * s + b) (b := 2 ^ (c.K.toNat - 1)) (by omega)
  have hm1 := Int.emod_lt_of_pos (2 * s + b) hp0
  have hnz : ((2 : Int) ^ (c.K.toNat - 1) == 0) = false := by simp; omega
  have htm : (2 * s + b).tmod (2 ^ (c.K.toNat - 1)) = (2 * s + b) % 2 ^ (c.K.toNat - 1) := Int.tmod_eq_emod_of_nonneg (by omega)
  go_wp2_with fail
  (refine wp_region_kept_tail 13 (by kernel_rfl) (by kernel_rfl) ?_; simp only [List.take_succ_cons, List.take_zero, List.drop_succ_cons, List.drop_zero])
  have q0 := KeptW.cell h0
  have qA := hA
  clear h0 h1 h2
  repeat first
    | ((with_reducible apply q_ld); rfl; (with_reducible assumption); (simp only [List.set_cons_zero, List.set_cons_succ]; rfl))
    | go_big_quiet_step (exact Calls.kept (ref07_Out c hc k1 k2 cr (2 * s + b) (by omega) (by omega) _))
  refine wpQuiet_nil ?_
  intro w2 B2
  have N7 := b7.kept B2
  go_wp2_with ((with_reducible apply st); rfl; rfl; exact N7; rfl; exact hsz; exact hfl; intro w3 N8 B3)
  refine bodyPost_ret (results_tmpCell rfl rfl rfl (N8.load (n := 3) (by unfold Cd.yv; rw [c.ys_size]; omega) (Array.extract_eq_self_of_le (by unfold Cd.yv; rw [c.ys_size]; omega)))) rfl ?_
  exact ⟨rfl, (B0.trans (B2.mono B0.size)).trans (B3.mono (by omega))⟩
end Go.Proofs.YtnjmplapjnnjdaaGreat
