import Derived.Test.YtnjmplapjnnjdaaSeq
import Derived.Test.YtnjmplapjnnjdaaNoTree
set_option linter.unusedSimpArgs false
set_option linter.unusedVariables false
set_option linter.unnecessarySimpa false
/- Arms for operations in a fence that lets all in, in a round or not. No program's text is named here. -/
namespace Go.Proofs.Ytnjmplapjnnjdaa
open Go.RowKit Go.Shelf

section
variable {P : Program} {ops : Array Oper} {rest : List Oper} {Q : Exit → Act → World → Prop} {w w' : World} {a : Act} {o : Oper} {F : Fence} {n : Nat}

theorem semAt_exec {r : Option Nat} (ρ : Operand → Value) (hnd : ∀ c, o.op ≠ .defer c) : o.semAt r ρ = execOp ρ o := by
  cases r with
  | none => rfl
  | some l => exact Oper.semAt_some l ρ o hnd
theorem in_value (hF : ∀ f, F.fn f) (hnd : ∀ c, o.op ≠ .defer c) (hw : Region.wanted o (yielded ops a.tmps) = true) {v : Value} (hr : (execOp a.eval o).run P w = .ok (.value v) w') (h : wpListIn F n P ops Q rest (a.put o.dst v) w') : wpListIn F n P ops Q (o :: rest) a w := by
  unfold wpListIn
  rw [if_pos hw]
  refine ⟨fun f _ => hF f, ?_⟩
  rw [semAt_exec _ hnd, hr]
  exact h
theorem in_skip (hF : ∀ f, F.fn f) (hnd : ∀ c, o.op ≠ .defer c) (hw : Region.wanted o (yielded ops a.tmps) = true) (hr : (execOp a.eval o).run P w = .ok .skip w') (h : wpListIn F n P ops Q rest (a.put o.dst undef) w') : wpListIn F n P ops Q (o :: rest) a w := by
  unfold wpListIn
  rw [if_pos hw]
  refine ⟨fun f _ => hF f, ?_⟩
  rw [semAt_exec _ hnd, hr]
  exact h
/-- THE ARM for a load of a whole struct or array. -/
theorem ldIn {l l' : List Value} {ds : List Deferred} {t m b off d : Nat} {x : Operand} {v : Value} {ty : TypeId} {ps : String} {af : Array Edge} (hF : ∀ f, F.fn f)
    (hx : (Act.mk l.toArray ds).eval x = .pointer (some ⟨b, off, none⟩)) [T : AggTy P t m] (hl : loadAgg w b off m = .ok v w) (hs : l.set d v = l') (h : wpListIn F n P ops Q rest ⟨l'.toArray, ds⟩ w) :
    wpListIn F n P ops Q (⟨some d, .load t x, ty, ps, af, none⟩ :: rest) ⟨l.toArray, ds⟩ w := by
  obtain ⟨_, h1, h2, h3⟩ := T.out
  have := run_loadVar_agg (P := P) (w := w) (b := b) (off := off) h1 h2 h3 (by rw [hl]; rfl)
  refine in_value (v := v) (w' := w) hF (fun c h => by cases h) rfl ?_ (by rw [put_list, hs]; exact h)
  unfold execOp
  simp only [hx, Instr.loadAt, Instr.sureAddr, Sem.run_bind, Sem.run_pure, Result.andThen_ok, this, hl]
/-- THE ARM for a store of a whole struct or array into a variable of its own block. -/
theorem stIn {l : List Value} {ds : List Deferred} {t m b : Nat} {x y : Operand} {cs old : Array Value} {ty : TypeId} {ps : String} {af : Array Edge} (hF : ∀ f, F.fn f)
    (hx : (Act.mk l.toArray ds).eval x = .pointer (some ⟨b, 0, none⟩)) [T : AggTy P t m] (hy : (Act.mk l.toArray ds).eval y = .agg cs) (hb : Box w b old) (ho : old.size = m) (hn : cs.size = m) (hf : Flat cs)
    (h : ∀ w', Box w' b cs → Below b w w' → (∀ k, k ≠ b → w'.heap[k]? = w.heap[k]?) → w'.heap.size = w.heap.size → wpListIn F n P ops Q rest ⟨l.toArray, ds⟩ w') : wpListIn F n P ops Q (⟨none, .store t x y, ty, ps, af, none⟩ :: rest) ⟨l.toArray, ds⟩ w := by
  obtain ⟨d, h1, h2, h3⟩ := T.out
  obtain ⟨tb, hb⟩ := hb
  obtain ⟨w', hr, hh, hB, hs, hoth⟩ := run_storeCells_box (P := P) cs.toList 0 w b [] old.toList tb hf (by simpa using hb) rfl (by simp [hn, ho])
  refine in_skip (w' := w') hF (fun c h => by cases h) rfl ?_ (by simpa [Act.put] using h w' ⟨tb, by simpa using hh⟩ hB hoth hs)
  unfold execOp
  cases hq : P.info? t with
  | none => simp [hq] at h3
  | some i =>
    have hsz : i.size = m := by simpa [hq] using h3
    simp only [hx, hy, Instr.storeAt, Instr.sureAddr, Sem.run_bind, Sem.run_pure, Result.andThen_ok, storeVar, sizeOf, typeInfo, program, Sem.run, hq, hsz, Value.cells, hn, ne_eq, not_true_eq_false, if_false, hr]
end
theorem fn_wide : ∀ f, Fence.wide.fn f := fun _ => trivial
theorem fn_round (l : Nat) : ∀ f, (Fence.wide.inRound l).fn f := fun _ => trivial
end Go.Proofs.Ytnjmplapjnnjdaa
/- A region that draws its order, in the round of a range over a function: fixed values first, then a forced order. No program's text is named here. -/
namespace Go.Proofs.Ytnjmplapjnnjdaa
open Go.RowKit Go.Shelf

section
variable {P : Program} {ops : Array Oper} {md : Region.Mode} {w0 : World} {F : Fence} {n : Nat}

theorem wpAnyIn_of_seq {Q' : Exit → Act → World → Prop} : ∀ (l : List Oper) (k : Nat) (listed : Array Bool) (a : Act) (w : World), (∀ j, l[j]? = ops[k + j]?) →
    Region.seqB md ops l.length k listed = true → wpListIn F n P ops Q' l a w → wpAnyIn F n P md ops Q' l.length listed a w
  | [], _, _, _, _, _, hB, h => ⟨by simpa [Region.seqB] using hB, h⟩
  | o :: l, k, listed, a, w, hl, hB, h => by
    have h0 : ops[k]? = some o := by simpa using (hl 0).symm
    simp only [List.length_cons, Region.seqB, Bool.and_eq_true, decide_eq_true_eq] at hB
    refine ⟨fun h1 => (by rw [hB.1] at h1; cases h1), fun i hi => ?_⟩
    rw [hB.1] at hi
    have hik : i = k := by simpa using hi
    subst hik
    have hw : wpOpIn F n P ops Q' i (wpListIn F n P ops Q' l) a w := by unfold wpOpIn; simp only [h0]; exact h
    exact wpOpIn_mono (fun a' w' h' => wpAnyIn_of_seq l (i + 1) _ a' w' (fun j => by have := hl (j + 1); simpa [Nat.add_assoc, Nat.add_comm 1 j] using this) hB.2 h') hw
theorem wpOpIn_of_knOp {lp i : Nat} {a : Act} {S : World → Prop} {K : Act → (World → Prop) → Prop} {K' : Act → World → Prop} {Q' : Exit → Act → World → Prop} {w : World} (hnd : ∀ (j : Nat) (o : Oper), ops[j]? = some o → ∀ c, o.op ≠ .defer c) (hw : Ext w0 w) (hS : S w) (hst : Stable S)
    (h : ∀ a S' w', Ext w0 w' → Stable S' → S' w' → K a S' → K' a w') (hh : knOp P ops w0 i K a S) : wpOpIn (Fence.wide.inRound lp) n P ops Q' i K' a w := by
  unfold knOp at hh
  unfold wpOpIn
  split
  · rename_i hi; rw [hi] at hh; exact h _ _ _ hw hst hS hh
  · rename_i o hi
    rw [hi] at hh
    simp only at hh
    split
    · rename_i hwt
      rw [if_pos hwt] at hh
      obtain ⟨R, hR, hn⟩ := hh
      refine ⟨fun _ _ => trivial, ?_⟩
      have h3 := hR.run w hw hS
      rw [semAt_exec _ (hnd i o hi)]
      generalize (execOp a.eval o).run P w = r at *
      have fin : ∀ v w', Ext w w' → R v w' → K' (a.put o.dst v) w' := fun v w' he hr =>
        h _ _ _ (ext_trans hw he) (fun x y hx hs => ⟨hst x y hx hs.1, hR.stable v x y hx hs.2⟩) ⟨hst _ _ he hS, hr⟩ (hn v ⟨w', hr⟩)
      cases r with
      | ok m w' =>
        cases m <;> simp only [freeUpon] at h3 <;> simp only [Oper.uponIn]
        case value u => exact fin _ _ h3.1 h3.2
        case skip => exact fin _ _ h3.1 h3.2
        case enter f args =>
          refine ⟨fun h => (by cases h), CallsIn.inRound lp (callsIn_wide.2 ?_)⟩
          exact h3.2.2.mono fun e w'' ⟨⟨v, he, hr⟩, hx⟩ => by subst he; exact fin _ _ (ext_trans h3.2.1 hx) hr
      | halt x w' => simp only [freeUpon] at h3
    · rename_i hwt; rw [if_neg hwt] at hh; exact ⟨fun _ _ => trivial, h _ _ _ hw hst hS hh⟩
theorem anyIn_of_headKn {lp m g : Nat} {L : Array Bool → Act → (World → Prop) → Prop} {Q' : Exit → Act → World → Prop} (hnd : ∀ (j : Nat) (o : Oper), ops[j]? = some o → ∀ c, o.op ≠ .defer c) (hL : ∀ done a S w, Ext w0 w → Stable S → S w → L done a S → wpAnyIn (Fence.wide.inRound lp) n P md ops Q' g done a w) (f : Nat) :
    ∀ (done : Array Bool) (a : Act) (S : World → Prop) (w : World), Ext w0 w → Stable S → S w → headKn P md ops w0 m L f done a S → wpAnyIn (Fence.wide.inRound lp) n P md ops Q' (f + g) done a w := by
  induction f with
  | zero => intro done a S w hw hst hS h; rw [Nat.zero_add]; exact hL _ _ _ _ hw hst hS h
  | succ f ih =>
    intro done a S w hw hst hS h
    rw [show f + 1 + g = (f + g) + 1 by omega]
    refine ⟨fun h0 => absurd h0 h.1, fun i hi => ?_⟩
    exact wpOpIn_of_knOp hnd hw hS hst (fun a' S' w' hw' hst' hS' h' => ih _ a' S' w' hw' hst' hS' h') (h.2 i hi).2
theorem wpDet_mono {K K' : Act → Prop} (hk : ∀ a, K a → K' a) : ∀ (l : List Oper) (a : Act), wpDet P ops w0 K l a → wpDet P ops w0 K' l a
  | [], a, h => hk a h
  | o :: l, a, h => by
    unfold wpDet at h ⊢
    split
    · rename_i hw
      rw [if_pos hw] at h
      obtain ⟨v, hv, hn⟩ := h
      exact ⟨v, hv, wpDet_mono hk l _ hn⟩
    · rename_i hw
      rw [if_neg hw] at h
      exact wpDet_mono hk l _ h
theorem seqB_marked {g : Nat} : ∀ (f k : Nat) (d : Array Bool), Region.lexHead md ops g f k d = true → Region.seqB md ops g (k + f) (marked k f d) = true
  | 0, k, d, h => h
  | f + 1, k, d, h => by
    simp only [Region.lexHead, Bool.and_eq_true] at h
    have := seqB_marked f (k + 1) _ h.2
    rw [show k + (f + 1) = k + 1 + f by omega]
    exact this
/-- THE LAW: n operations of fixed values, then a forced order. -/
theorem wpIn_region_det_tail {lp id : Nat} {Q : Exit → Act → World → Prop} {a : Act} {w : World} {l : List Oper} (m : Nat) (hm : P.follows .mixedOrders = true) (hB : Region.lexTailB .any l.toArray m = true) (hnd : (l.all fun o => match o.op with | .defer _ => false | _ => true) = true)
    (h : wpDet P l.toArray w (fun a' => ∀ w', Ext w w' → wpListIn (Fence.wide.inRound lp) n P l.toArray Q (l.drop m) a' w') (l.take m) a) : (Code.region id l.toArray true).wpIn (Fence.wide.inRound lp) n P Q a w := by
  have hnd' : ∀ (j : Nat) (o : Oper), l.toArray[j]? = some o → ∀ c, o.op ≠ .defer c := fun j o hj c hc => by
    have ho : o ∈ l := List.mem_of_getElem? (by simpa using hj)
    have := List.all_eq_true.1 hnd o ho
    rw [hc] at this
    cases this
  simp only [Region.lexTailB, Bool.and_eq_true, decide_eq_true_eq] at hB
  obtain ⟨⟨⟨⟨hsel, hn⟩, hs⟩, hc⟩, hlex⟩ := hB
  have hn' : m < l.length := by simpa using hn
  have htl : (l.take m).length = m := by simp; omega
  have hdl : (l.drop m).length = l.toArray.size - m := by simp
  have inv0 : HeadInv .any l.toArray m (Array.replicate l.toArray.size false) :=
    ⟨by simp, fun j oj _ hl => (by rw [getD_replicate_false] at hl; cases hl), fun t _ ht => getD_in (by simpa using ht) (getD_replicate_false _ _)⟩
  have hQ : Anti (fun a'' S => ∀ w', Ext w w' → S w' → wpListIn (Fence.wide.inRound lp) n P l.toArray Q (l.drop m) a'' w') := fun _ _ _ hS hh w' hw hs => hh w' hw (hS w' hs)
  have H := headKn_lex1 (P := P) (md := .any) (g := l.toArray.size - m) (S := fun _ => True) (w0 := w) hQ hsel hs hc hn (post := []) (l.take m) 0 (Array.replicate l.toArray.size false) a (fun j hj => by
      rw [List.append_nil] at hj ⊢
      rw [htl] at hj
      simp [hj]) (by rw [List.append_nil]; simpa using htl) inv0 (by rw [List.append_nil, htl]; exact hlex) ?_
  · rw [List.append_nil] at H
    refine wpIn_region_any hm ?_
    have fin := anyIn_of_headKn (Q' := Q) (n := n) (lp := lp) (g := l.toArray.size - m) hnd' (fun d a' S' w' hw' _ hS' hL => by
      have := wpAnyIn_of_seq (F := Fence.wide.inRound lp) (n := n) (md := .any) (Q' := Q) (l.drop m) m d a' w' (fun j => by simp [List.getElem?_drop]) (by rw [hdl]; exact hL.1) (hL.2 w' hw' hS')
      rwa [hdl] at this) _ _ _ _ _ ((Below.refl _ w).drew) (fun _ _ _ _ => trivial) trivial H
    rw [htl, show m + (l.toArray.size - m) = l.toArray.size by omega] at fin
    exact fin
  · refine wpDet_mono (fun a' ha => ?_) _ _ h
    have hsq := seqB_marked (md := .any) (ops := l.toArray) m 0 _ hlex
    rw [Nat.zero_add] at hsq
    show headKn _ _ _ _ _ _ 0 _ _ _
    refine ⟨?_, fun w' hx _ => ha w' hx⟩
    rw [htl]
    exact hsq
end
end Go.Proofs.Ytnjmplapjnnjdaa

/- The iterator over the steps of a path: the program's. -/
namespace Go.Proofs.Ytnjmplapjnnjdaa
open Go.RowKit Go.Shelf
attribute [local go_sem] Oper.semAt_some

/-- The bit of a step: behind the information it is 0. -/
def Pb.bit (p : Pb) (bs : List Nat) (k : Nat) : Nat := if (k : Int) < p.L then bs.getD k 0 else 0
/-- The state ahead of a step. -/
def Pb.st (p : Pb) (bs : List Nat) : Nat → Int
  | 0 => 0
  | k + 1 => (2 * p.st bs k + p.bit bs k) % 2 ^ (p.C.K.toNat - 1)
/-- What the code's register holds at a step. -/
def Pb.reg (p : Pb) (bs : List Nat) (k : Nat) : Nat := (2 * p.st bs k + p.bit bs k).toNat
/-- A path. -/
structure Pb.Path (p : Pb) (bs : List Nat) : Prop where
  len : (bs.length : Int) = p.L
  lt : ∀ x ∈ bs, x < 2
theorem Pb.st_in (p : Pb) (bs : List Nat) : ∀ k, 0 ≤ p.st bs k ∧ p.st bs k < 2 ^ (p.C.K.toNat - 1)
  | 0 => ⟨Int.le_refl _, Int.pow_pos (by decide)⟩
  | k + 1 => ⟨Int.emod_nonneg _ (by have : (0 : Int) < 2 ^ (p.C.K.toNat - 1) := Int.pow_pos (by decide); omega), Int.emod_lt_of_pos _ (Int.pow_pos (by decide))⟩
theorem Pb.bit_lt {p : Pb} {bs : List Nat} (h : p.Path bs) (k : Nat) : p.bit bs k < 2 := by
  unfold Pb.bit
  split
  · by_cases hk : k < bs.length
    · rw [List.getD_eq_getElem?_getD, List.getElem?_eq_getElem hk]
      exact h.lt _ (List.getElem_mem hk)
    · rw [List.getD_eq_getElem?_getD, List.getElem?_eq_none (by omega)]
      decide
  · decide
/-- What comes of a step: its number, and what the register holds. -/
abbrev Pb.Elem (p : Pb) := { x : Nat × Nat // x.1 < p.N.toNat }
def Pb.pathL (p : Pb) (bs : List Nat) : List p.Elem := List.ofFn fun k : Fin p.N.toNat => ⟨(k.1, p.reg bs k.1), k.2⟩
theorem Pb.pathL_len (p : Pb) (bs : List Nat) : (p.pathL bs).length = p.N.toNat := by simp [Pb.pathL]
def Pb.enc (p : Pb) (x : p.Elem) : Array Value := #[.int .i64 (x.1.1 : Int), .agg (ya (p.C.y x.1.2))]
theorem Pb.pathL_take {p : Pb} {bs : List Nat} {k : Nat} (h : k < p.N.toNat) : (p.pathL bs).take (k + 1) = (p.pathL bs).take k ++ [⟨(k, p.reg bs k), h⟩] := by
  rw [List.take_succ_eq_append_getElem (by rw [p.pathL_len]; exact h)]
  simp [Pb.pathL]

set_option maxRecDepth 5000 in
set_option maxHeartbeats 1000000 in
theorem path_seq (p : Pb) (hp : p.Ok) (h : probChk p = 0) (bs : List Nat) (hbs : p.Path bs) (v : Value) (ab : Option Addr) (cb b1 b2 : Nat) (Rd : Nat → Prop) (W : World) (n : Nat)
    (x1 : Box W b1 (p.cells v)) (x2 : Box W b2 #[.slice ab bs.length cb]) (hby : Bytes W ab bs) (r1 : Rd b1) (r2 : Rd b2) (r3 : ∀ b o s, ab = some ⟨b, o, s⟩ → Rd b) :
    SeqAt n Try.prog 112 #[.pointer (some ⟨b1, 0, none⟩), .pointer (some ⟨b2, 0, none⟩)] p.enc (fun xs => xs = p.pathL bs) p.N.toNat Rd W := by
  intro l J hJ hY h0
  obtain ⟨⟨k1, k2⟩, l1, l2, cr, hwin, ⟨v1, v2⟩, hlev, hcc, htt⟩ := probChk_ok h
  clear hwin cr
  refine callsIn_wide.2 ?_
  go_enter Try.func112, Try.ntmps112
  obtain ⟨fk, fr, flev, fl, fwin, fcode, ftable, fall⟩ := x1.prob hp
  clear fk fr flev fl fwin fcode ftable
  go_wp2_with ((with_reducible apply ld); rfl; (with_reducible assumption); (simp only [List.set_cons_zero, List.set_cons_succ]; rfl))
  refine (score_steps p v hp l1 l2 k1 k2 _).mono ?_
  rintro e w1 ⟨rfl, B1⟩
  clear fall
  have K1 : Kept Rd W w1 := Turn.ofBelow B1
  have J1 : J (fun _ => False) [] w1 := hJ _ _ _ _ _ h0 (Turn.ofBelow B1) (fun _ h => h.elim)
  have hN : p.N ≤ 1055 := by unfold Pb.N; omega
  have hN0 : 0 ≤ p.N := by unfold Pb.N; omega
  go_wp2_with fail
  go_loopw [4, 12] (fun s i wr => ∃ k : Nat, k ≤ p.N.toNat ∧ i = .int .i64 k ∧ s = .int .u32 (p.st bs k) ∧ J (fun _ => False) ((p.pathL bs).take k) wr ∧ Kept Rd W wr) (fun _ i _ => p.N.toNat - (intOf i).toNat)
  case atStart => exact ⟨0, by omega, rfl, rfl, by simpa using J1, K1⟩
  case round =>
    obtain ⟨k, hk, rfl, rfl, Jk, Kk⟩ := hrel
    have x1k := Kk.box x1 r1
    have x2k := Kk.box x2 r2
    obtain ⟨fk, fr, flev, fl, fwin, fcode, ftable, fall⟩ := x1k.prob hp
    clear fk fr flev fwin ftable fall
    have c2 := x2k.cell 0
    simp only [List.getElem?_toArray, List.getElem?_cons_zero] at c2
    by_cases hkl : k < p.N.toNat
    · have hk2 : decide ((k : Int) < p.N) = true := by simp; omega
      have hst := p.st_in bs k
      have hbt := Pb.bit_lt hbs k
      by_cases hkL : (k : Int) < p.L
      · have hk3 : decide ((k : Int) < p.L) = true := by simpa using hkL
        have hkb : k < bs.length := by have := hbs.len; omega
        have hkb2 : (k : Int) < bs.length := by omega
        obtain ⟨b, o, rfl, hcell⟩ := hby.cell k hkb
        have hcell' := (World.cell?_of_block (Kk.block (lt_of_cell hcell) (r3 _ _ _ rfl))).trans hcell
        have hbv : bs[k] = p.bit bs k := by
          unfold Pb.bit
          rw [if_pos hkL, List.getD_eq_getElem?_getD, List.getElem?_eq_getElem hkb]
          rfl
        rw [hbv] at hcell'
        clear hcell hkL hbv
        go_wp2_with ((with_reducible apply ld); rfl; (with_reducible assumption); (simp only [List.set_cons_zero, List.set_cons_succ]; rfl))
        refine (trellis_Step p.C hp.c hcc (p.st bs k) (p.bit bs k) hst.1 hst.2 (by omega) (by omega) _).mono ?_
        rintro e w2 ⟨rfl, B2⟩
        obtain ⟨rg, hrg⟩ : ∃ rg : Nat, rg = (2 * p.st bs k + (p.bit bs k : Int)).toNat := ⟨_, rfl⟩
        obtain ⟨sn, hsn⟩ : ∃ sn, sn = (2 * p.st bs k + (p.bit bs k : Int)) % 2 ^ (p.C.K.toNat - 1) := ⟨_, rfl⟩
        rw [← hrg, ← hsn]
        have HR : Hid (p.reg bs k = rg) := hrg.symm
        have HS : Hid (p.st bs (k + 1) = sn) := hsn.symm
        clear hrg hsn
        have hsz : (p.C.yv rg).size = 3 := rfl
        have hfl := p.C.ys_flat rg p.C.R.toNat
        have hbz := Box.new w2 #[.int .u8 0, .int .u8 0, .int .u8 0] 108
        clear fl fcode c2
        go_upto_region 8 with ((with_reducible apply stO); rfl; rfl; exact hbz; rfl; exact hsz; exact hfl; intro w3 b8 B3 ho3 hs3)
        have B32 : Below w2.heap.size w2 w3 := ((Below.refl _ w2).alloc (Nat.le_refl _) _).trans B3
        have B3r := bOn B2 B32
        have K3 : Kept Rd W w3 := Kk.trans (Turn.ofBelow B3r)
        have J3 : J (fun _ => False) ((p.pathL bs).take k) w3 := hJ _ _ _ _ _ Jk (Turn.ofBelow B3r) (fun _ h => h.elim)
        clear ho3 hs3 hbz
        have gY := b8.load (off := 0) (n := 3) (cs' := p.C.yv rg) (by rw [hsz]; omega) (Array.extract_eq_self_of_le (by rw [hsz]; omega))
        obtain ⟨fn, tmps, assign, body, hy, hRd⟩ := hY _ _ ⟨(k, p.reg bs k), hkl⟩ w3 J3 (by rw [List.length_take, p.pathL_len]; omega) (fun _ h => h.elim)
        simp only [Pb.enc, HR.out] at hy
        refine (wpIn_wide (n := n)).1 (wpIn_region_lit ?_)
        rw [← p.C.yv_ya] at hy
        gi_wp2_with ((with_reducible apply ldIn); exact fn_wide; rfl; (with_reducible assumption); (simp only [List.set_cons_zero, List.set_cons_succ]; rfl))
        refine ⟨fun h => absurd h (by decide), hRd.mono ?_⟩
        rintro e w4 ⟨rfl, J4, K4⟩
        gi_wp2
        have K4' : Kept Rd w3 w4 := Turn.mono K4 fun k _ hn hx => hn (.inl hx)
        go_wp2
        go_roundw
        case measure => simp only [intOf]; omega
        case rel => exact ⟨k + 1, by omega, by go_num, by rw [HS.out], by rw [Pb.pathL_take hkl]; exact J4, K3.trans K4'⟩
      · have hk3 : decide ((k : Int) < p.L) = false := by simpa using hkL
        have hbv : (0 : Nat) = p.bit bs k := by unfold Pb.bit; rw [if_neg hkL]
        have HBV := Lib.hid hbv
        clear hkL hbv
        go_wp2_with ((with_reducible apply ld); rfl; (with_reducible assumption); (simp only [List.set_cons_zero, List.set_cons_succ]; rfl))
        refine (show Calls _ _ #[_, _, .int .u8 ((p.bit bs k : Nat) : Int)] _ _ from ?_ ) |> (fun h => (by rw [← HBV.out] at h; exact h))
        refine (trellis_Step p.C hp.c hcc (p.st bs k) (p.bit bs k) hst.1 hst.2 (by omega) (by omega) _).mono ?_
        rintro e w2 ⟨rfl, B2⟩
        obtain ⟨rg, hrg⟩ : ∃ rg : Nat, rg = (2 * p.st bs k + (p.bit bs k : Int)).toNat := ⟨_, rfl⟩
        obtain ⟨sn, hsn⟩ : ∃ sn, sn = (2 * p.st bs k + (p.bit bs k : Int)) % 2 ^ (p.C.K.toNat - 1) := ⟨_, rfl⟩
        rw [← hrg, ← hsn]
        have HR : Hid (p.reg bs k = rg) := hrg.symm
        have HS : Hid (p.st bs (k + 1) = sn) := hsn.symm
        clear hrg hsn
        have hsz : (p.C.yv rg).size = 3 := rfl
        have hfl := p.C.ys_flat rg p.C.R.toNat
        have hbz := Box.new w2 #[.int .u8 0, .int .u8 0, .int .u8 0] 108
        clear fl fcode c2
        go_upto_region 8 with ((with_reducible apply stO); rfl; rfl; exact hbz; rfl; exact hsz; exact hfl; intro w3 b8 B3 ho3 hs3)
        have B32 : Below w2.heap.size w2 w3 := ((Below.refl _ w2).alloc (Nat.le_refl _) _).trans B3
        have B3r := bOn B2 B32
        have K3 : Kept Rd W w3 := Kk.trans (Turn.ofBelow B3r)
        have J3 : J (fun _ => False) ((p.pathL bs).take k) w3 := hJ _ _ _ _ _ Jk (Turn.ofBelow B3r) (fun _ h => h.elim)
        clear ho3 hs3 hbz
        have gY := b8.load (off := 0) (n := 3) (cs' := p.C.yv rg) (by rw [hsz]; omega) (Array.extract_eq_self_of_le (by rw [hsz]; omega))
        obtain ⟨fn, tmps, assign, body, hy, hRd⟩ := hY _ _ ⟨(k, p.reg bs k), hkl⟩ w3 J3 (by rw [List.length_take, p.pathL_len]; omega) (fun _ h => h.elim)
        simp only [Pb.enc, HR.out] at hy
        refine (wpIn_wide (n := n)).1 (wpIn_region_lit ?_)
        rw [← p.C.yv_ya] at hy
        gi_wp2_with ((with_reducible apply ldIn); exact fn_wide; rfl; (with_reducible assumption); (simp only [List.set_cons_zero, List.set_cons_succ]; rfl))
        refine ⟨fun h => absurd h (by decide), hRd.mono ?_⟩
        rintro e w4 ⟨rfl, J4, K4⟩
        gi_wp2
        have K4' : Kept Rd w3 w4 := Turn.mono K4 fun k _ hn hx => hn (.inl hx)
        go_wp2
        go_roundw
        case measure => simp only [intOf]; omega
        case rel => exact ⟨k + 1, by omega, by go_num, by rw [HS.out], by rw [Pb.pathL_take hkl]; exact J4, K3.trans K4'⟩
    · obtain rfl : k = p.N.toNat := by omega
      have hk2 : decide ((p.N.toNat : Int) < p.N) = false := by simp; omega
      rw [List.take_of_length_le (by rw [p.pathL_len]; omega)] at Jk
      clear fl fcode c2
      go_wp2
      refine bodyPost_end (results_nil rfl) rfl ?_
      exact ⟨⟨_, rfl⟩, _, _, rfl, Jk, fun _ h => h.elim⟩
end Go.Proofs.Ytnjmplapjnnjdaa

/- The walk of the metric of a step, as the prefixes' closure reckons it. -/
namespace Go.Proofs.Ytnjmplapjnnjdaa
open Go.RowKit

set_option maxRecDepth 5000 in
set_option maxHeartbeats 1000000 in
theorem score_worth (p : Pb) (hp : p.Ok) (h : probChk p = 0) (g o c b1 br : Nat) (hcap : p.B.length ≤ c) (d : Nat) (hd : (d : Int) < p.N) (v : Nat) (w : World)
    (x1 : Box w b1 (p.cells (.slice (some ⟨g, o, none⟩) p.B.length c))) (x2 : Box w br #[.int .i64 p.C.R]) (hw : Bytes w (some ⟨g, o, none⟩) p.B) :
    Pure Try.prog 94 #[.int .i64 d, .agg (ya (p.C.y v)), .pointer (some ⟨b1, 0, none⟩), .pointer (some ⟨br, 0, none⟩)] w (.int .i64 (p.br d v)) := by
  obtain ⟨⟨k1, k2⟩, l1, l2, cr, hwin, ⟨v1, v2⟩, hlev, hcc, htt⟩ := probChk_ok h
  have hlen := Pb.lv_len h hd
  have HWIN := Lib.hid hwin; clear hwin
  have HCR := Lib.hid cr
  have HLEN := Lib.hid hlen; clear hlen
  have hNb : p.N ≤ 1055 := by unfold Pb.N; omega
  go_enter Try.func94, Try.ntmps94
  go_upto_region 1 with (fail)
  refine name1 ?_
  intro w0 b8 B0
  have x10 := x1.kept B0
  have x20 := x2.kept B0
  have hw0 := hw.kept B0
  obtain ⟨fk, fr, flev, fl, fwin, fcode, ftable, fall⟩ := x10.prob hp
  clear fk fr flev fl fcode fall
  have r0 := x20.cell 0
  simp only [List.getElem?_toArray, List.getElem?_cons_zero] at r0
  have gY := b8.load (off := 0) (n := 3) (cs' := ya (p.C.y v)) (by rw [ya_size]; omega) (Array.extract_eq_self_of_le (by rw [ya_size]; omega))
  obtain ⟨r, hr⟩ : ∃ r : Nat, p.C.R = r := ⟨p.C.R.toNat, by omega⟩
  have hrn : p.C.R.toNat = r := by omega
  obtain ⟨N, hN⟩ : ∃ N : Nat, p.N = N := ⟨p.N.toNat, by unfold Pb.N; omega⟩
  have hw1 := HWIN.out
  rw [hr, hN] at hw1
  have hBl : p.B.length = N * r := by exact_mod_cast hw1
  have hle : (d + 1) * r ≤ N * r := Nat.mul_le_mul_right _ (by omega)
  have hr3 : r ≤ 3 := by omega
  have hr2 : 2 ≤ r := by omega
  have hdr : (d + 1) * r = d * r + r := by rw [Nat.add_mul, Nat.one_mul]
  have hd3 : d * r ≤ 3165 := by
    have : d * r ≤ 1055 * 3 := Nat.mul_le_mul (by omega) hr3
    omega
  have hlv : p.lv d = (p.B.drop (d * r)).take r := by unfold Pb.lv; rw [hrn]
  have hbr : p.br d v = brS p.T (p.C.y v) (p.lv d) (p.lv d).length := by unfold Pb.br; rw [HLEN.out]
  have hlr : (p.lv d).length = r := by rw [HLEN.out, hrn]
  obtain ⟨i, hi⟩ : ∃ i : Nat, d * r = i := ⟨_, rfl⟩
  have e1 : (d : Int) * p.C.R = (i : Int) := by rw [hr, ← hi]; push_cast; rfl
  have e2 : ((d : Int) + 1) * p.C.R = ((i + r : Nat) : Int) := by rw [hr, ← hi]; push_cast; rw [Int.add_mul, Int.one_mul]
  have hi4 : (i : Int) ≤ 4000 := by omega
  obtain ⟨j, hj⟩ : ∃ j : Nat, i + r = j := ⟨_, rfl⟩
  rw [hj] at e2
  have hj4 : (j : Int) ≤ 4003 := by omega
  have hji : j - i = r := by omega
  have hlt : i < j := by omega
  have hjc : j ≤ c := by omega
  have hbytes : Bytes w0 (some ⟨g, o + i, none⟩) (p.lv d) := by rw [hlv, hi]; exact hw0.part i r
  have HBY := Lib.hid hbytes; clear hbytes
  have HLV := Lib.hid hlv; clear hlv
  have HBR := Lib.hid hbr; clear hbr
  have HLR := Lib.hid hlr; clear hlr
  have HJI := Lib.hid hji; clear hji
  have HR := Lib.hid hr; clear hr
  have HN := Lib.hid hN; clear hN
  clear hrn hBl hdr hi hw1
  have hd4 : (d : Int) ≤ 2000 := by omega
  refine wp_region_kept (by kernel_rfl) (by kernel_rfl) ?_
  have q39 := KeptW.cell fwin
  have qr := KeptW.cell r0
  clear fwin r0
  repeat first
    | ((with_reducible apply q_ld); rfl; (with_reducible assumption); (simp only [List.set_cons_zero, List.set_cons_succ]; rfl))
    | ((with_reducible apply q_sl); rfl; rfl; rfl; exact hlt; exact hjc; exact HJI.out.trans HLR.out.symm; rfl; (simp only [List.set_cons_zero, List.set_cons_succ]; rfl))
    | go_big_quiet_step (exact Calls.kept (metric_Branch p.T hp.t htt p.C.R HCR.out (p.lv d) (some ⟨g, o + i, none⟩) (c - i) (p.C.y v) (p.C.y_lt v) (by rw [HLR.out, HR.out]) (fun x hx => hlev x (List.mem_of_mem_drop (List.mem_of_mem_take (HLV.out ▸ hx)))) _ (HBY.out.kept (Subtype.property _))))
  refine wpQuiet_nil ?_
  intro w3 B3
  rw [← HBR.out]
  go_wp2
  go_ret
  exact ⟨rfl, bOn B0 B3⟩
end Go.Proofs.Ytnjmplapjnnjdaa

/- The iterator over a path's prefix metrics: the program's. -/
namespace Go.Proofs.Ytnjmplapjnnjdaa
open Go.RowKit Go.Shelf
attribute [local go_sem] Oper.semAt_some

/-- The metric of some steps. -/
def Pb.psum (p : Pb) (pre : List p.Elem) : Int := pre.foldl (fun m x => m + p.br x.1.1 x.1.2) 0
theorem Pb.psum_snoc (p : Pb) (pre : List p.Elem) (x : p.Elem) : p.psum (pre ++ [x]) = p.psum pre + p.br x.1.1 x.1.2 := by simp [Pb.psum]
/-- The metrics of the beginnings. -/
def Pb.psums (p : Pb) (pre : List p.Elem) : List Int := (List.range (pre.length + 1)).map fun k => p.psum (pre.take k)
theorem Pb.psums_nil (p : Pb) : p.psums [] = [0] := rfl
theorem Pb.psums_snoc (p : Pb) (pre : List p.Elem) (x : p.Elem) : p.psums (pre ++ [x]) = p.psums pre ++ [p.psum (pre ++ [x])] := by
  unfold Pb.psums
  rw [List.length_append, List.length_singleton, List.range_succ, List.map_append]
  congr 1
  · apply List.map_congr_left
    intro k hk
    have : k ≤ pre.length := by simp at hk; omega
    rw [List.take_append_of_le_length this]
  · rw [List.map_singleton, List.take_of_length_le (by simp)]
theorem Pb.psums_len (p : Pb) (pre : List p.Elem) : (p.psums pre).length = pre.length + 1 := by simp [Pb.psums]
theorem Pb.br_bd (p : Pb) (h : probChk p = 0) (d v : Nat) : -12288 ≤ p.br d v ∧ p.br d v ≤ 12288 := by
  obtain ⟨⟨k1, k2⟩, l1, l2, cr, hwin, ⟨v1, v2⟩, hlev, hcc, htt⟩ := probChk_ok h
  have hl16 : ∀ x ∈ p.lv d, x < 16 := fun x hx => by
    have := hlev x (List.mem_of_mem_drop (List.mem_of_mem_take hx))
    omega
  have := brS_bd htt (p.C.y_lt v) hl16 p.C.R.toNat
  unfold Pb.br
  omega
theorem foldl_bound {α : Type} {f : α → Int} {c : Int} (h : ∀ x, -c ≤ f x ∧ f x ≤ c) : ∀ (l : List α) (m : Int), m - c * l.length ≤ l.foldl (fun m x => m + f x) m ∧ l.foldl (fun m x => m + f x) m ≤ m + c * l.length
  | [], m => by simp
  | x :: l, m => by
    have h1 := h x
    have h2 := foldl_bound h l (m + f x)
    simp only [List.foldl_cons, List.length_cons]
    have e : c * ((l.length + 1 : Nat) : Int) = c * (l.length : Int) + c := by push_cast; rw [Int.mul_add, Int.mul_one]
    rw [e]
    omega
theorem Pb.psum_bd (p : Pb) (h : probChk p = 0) (pre : List p.Elem) : -12288 * (pre.length : Int) ≤ p.psum pre ∧ p.psum pre ≤ 12288 * (pre.length : Int) := by
  have := foldl_bound (f := fun x : p.Elem => p.br x.1.1 x.1.2) (c := 12288) (fun x => p.br_bd h x.1.1 x.1.2) pre 0
  unfold Pb.psum
  omega
theorem score_path (v : Value) (p : Pb) (ab : Option Addr) (nb cb : Nat) (w : World) :
    Calls Try.prog 96 #[.agg (p.cells v), .slice ab nb cb] w fun e w' => (∃ b1 b2, e = .returned (.func (.func 112) #[] #[.pointer (some ⟨b1, 0, none⟩), .pointer (some ⟨b2, 0, none⟩)]) ∧ Box w' b1 (p.cells v) ∧ Box w' b2 #[.slice ab nb cb] ∧ w.heap.size ≤ b1 ∧ w.heap.size ≤ b2) ∧ Below w.heap.size w w' := by
  go_enter Try.func96, Try.ntmps96
  go_upto_region 1 with (fail)
  refine name2 ?_
  intro w0 b2 b3 B0
  go_wp2
  go_ret
  exact ⟨⟨_, _, rfl, b2, b3, Nat.le_refl _, by omega⟩, B0⟩
end Go.Proofs.Ytnjmplapjnnjdaa
/- The iterator over a path's prefix metrics, which ranges over the path's own. -/
namespace Go.Proofs.Ytnjmplapjnnjdaa
open Go.RowKit Go.Shelf
attribute [local go_sem] Oper.semAt_some

theorem roundIn_any {P : Program} {m m' l l2 : Nat} {f : FuncId} {tmps : Array Value} {assign body : Code} {w : World} {R : Ending → World → Prop} (h : RoundIn Fence.wide m P l f tmps assign body w R) : RoundIn (Fence.wide.inRound l2) m' P l f tmps assign body w R :=
  ⟨trivial, fun c cs _ => h.2 c cs (room_wide _)⟩
theorem Bytes.block' {A B : World} {ab : Option Addr} {l : List Nat} {Rd : Nat → Prop} (h : Bytes A ab l) (hK : Kept Rd A B) (r : ∀ b o s, ab = some ⟨b, o, s⟩ → Rd b) (_hR : ∀ k, Rd k → k < A.heap.size) : Bytes B ab l :=
  ⟨fun k hk => by
    obtain ⟨b, o, ha, hc⟩ := h.cell k hk
    exact ⟨b, o, ha, (World.cell?_of_block (hK.block (lt_of_cell hc) (r _ _ _ ha))).trans hc⟩, h.lt⟩
set_option maxRecDepth 5000 in
set_option maxHeartbeats 2000000 in
theorem prefixes_seq (p : Pb) (hp : p.Ok) (h : probChk p = 0) (bs : List Nat) (hbs : p.Path bs) (g o c b1 b2 br bw : Nat) (ab : Option Addr) (cb : Nat) (hcap : p.B.length ≤ c) (Rd : Nat → Prop) (W : World) (n : Nat)
    (x1 : Box W b1 (p.cells (.slice (some ⟨g, o, none⟩) p.B.length c))) (x2 : Box W b2 #[.slice ab bs.length cb]) (x3 : Box W br #[.int .i64 p.C.R])
    (x4 : Box W bw #[.func (.func 94) #[] #[.pointer (some ⟨b1, 0, none⟩), .pointer (some ⟨br, 0, none⟩)]])
    (hw : Bytes W (some ⟨g, o, none⟩) p.B) (hby : Bytes W ab bs) (r1 : Rd b1) (r2 : Rd b2) (r3 : Rd br) (r4 : Rd bw) (r5 : Rd g) (r6 : ∀ b o s, ab = some ⟨b, o, s⟩ → Rd b) (hRW : ∀ k, Rd k → k < W.heap.size) :
    SeqAt n Try.prog 95 #[.pointer (some ⟨b1, 0, none⟩), .pointer (some ⟨b2, 0, none⟩), .pointer (some ⟨bw, 0, none⟩)] (fun m : Int => #[.int .i64 m]) (fun xs => xs = p.psums (p.pathL bs)) (p.N.toNat + 1) Rd W := by
  intro l J hJ hY h0
  refine callsIn_of_wp_marks Try.func95 rfl trivial ?_ rfl
  simp only [Try.ntmps95, List.size_toArray, List.length_cons, List.length_nil, Nat.reduceAdd, Nat.reduceSub, Array.replicate_succ, Array.replicate_zero, List.push_toArray, List.append_toArray, List.nil_append, List.cons_append]
  refine wpIn_wide.2 ?_
  go_upto_region 2 with (fail)
  refine name2 ?_
  intro w0 b4 b5 B0
  obtain ⟨H0, hH0⟩ : ∃ H0 : Nat → Prop, H0 = fun k => k = W.heap.size ∨ k = W.heap.size + 1 := ⟨_, rfl⟩
  have J0 : J H0 [] w0 := hJ _ _ _ _ _ h0 (Turn.ofBelow B0) (fun k hk => by
    rw [hH0] at hk
    have := b5.lt
    rcases hk with rfl | rfl
    · exact ⟨.inr (Nat.le_refl _), by omega⟩
    · exact ⟨.inr (by omega), by omega⟩)
  have c4 := b4.cell 0
  have c5 := b5.cell 0
  simp only [List.getElem?_toArray, List.getElem?_cons_zero] at c4 c5
  obtain ⟨fn, tmps, assign, body, hy, hRd⟩ := hY _ _ 0 w0 J0 (by simp) (fun k hk => by rw [hH0] at hk; rcases hk with rfl | rfl <;> omega)
  dsimp only at hy
  refine (wpIn_wide (n := n)).1 (wpIn_region_lit ?_)
  gi_wp2
  refine ⟨fun h => (by cases h), hRd.mono ?_⟩
  rintro e w1 ⟨rfl, J1, K1⟩
  clear c4 c5 hRd hy
  gi_wp2
  have y1 := K1.box (x1.kept B0) (.inl r1)
  have y2 := K1.box (x2.kept B0) (.inl r2)
  obtain ⟨fk, fr, flev, fl, fwin, fcode, ftable, fall⟩ := y1.prob hp
  clear fk fr flev fl fwin fcode ftable
  have c2 := y2.cell 0
  simp only [List.getElem?_toArray, List.getElem?_cons_zero] at c2
  go_wp2_with ((with_reducible apply ld); rfl; (with_reducible assumption); (simp only [List.set_cons_zero, List.set_cons_succ]; rfl))
  refine (score_path _ p ab bs.length cb w1).mono ?_
  rintro e w2 ⟨⟨q1, q2, rfl, z1, z2, hq1, hq2⟩, B2⟩
  clear fall c2
  go_wp2_with fail
  have hs0 : W.heap.size + 2 ≤ w0.heap.size := by have := b5.lt; omega
  have hs1 : w0.heap.size ≤ w1.heap.size := K1.size
  have hs2 := B2.size
  have hlq1 := z1.lt
  have hlq2 := z2.lt
  -- the blocks that this iterator holds while the inner loop runs
  obtain ⟨H1, hH1⟩ : ∃ H1 : Nat → Prop, H1 = fun k => k = W.heap.size ∨ k = W.heap.size + 1 ∨ k = q1 ∨ k = q2 := ⟨_, rfl⟩
  obtain ⟨R1, hR1⟩ : ∃ R1 : Nat → Prop, R1 = fun k => Rd k ∨ k = W.heap.size ∨ k = q1 ∨ k = q2 := ⟨_, rfl⟩
  have b42 : Box w2 W.heap.size #[.func (.yield l) #[] #[]] := (K1.box b4 (.inr (by rw [hH0]; exact .inl rfl))).kept B2
  have b52 : Box w2 (W.heap.size + 1) #[.int .i64 0] := (K1.box b5 (.inr (by rw [hH0]; exact .inr rfl))).kept B2
  have J2 : J H1 [0] w2 := hJ _ _ _ _ _ J1 (Turn.ofBelow B2) (fun k hk => by
    rw [hH1] at hk
    rw [hH0]
    rcases hk with rfl | rfl | rfl | rfl
    · exact ⟨.inl (.inl rfl), by omega⟩
    · exact ⟨.inl (.inr rfl), by omega⟩
    · exact ⟨.inr hq1, by omega⟩
    · exact ⟨.inr hq2, by omega⟩)
  have KR : Kept Rd W w2 := ((Turn.ofBelow B0 : Kept Rd W w0).trans (Turn.mono K1 fun k _ hn hx => hn (.inl hx))).trans (Turn.ofBelow B2)
  refine (wpIn_wide (n := n)).1 (wp_rangeSeq (n := n) (gf := 112) (lb := #[.pointer (some ⟨q1, 0, none⟩), .pointer (some ⟨q2, 0, none⟩)]) rfl (EnterF.out (P := Try.prog)) (encs := p.enc) (S := fun xs => xs = p.pathL bs) (N := p.N.toNat) (Rd := R1) ?hseq ?hRd (fun x => rfl)
    (fun H pre A => Box A (W.heap.size + 1) #[.int .i64 (p.psum pre)] ∧ Kept R1 w2 A ∧ J (fun k => H k ∨ H1 k) (p.psums pre) A) ?hI ?h0 ?hround ?hdone)
  case hseq =>
    intro A hA
    exact path_seq p hp h bs hbs _ ab cb q1 q2 R1 A _ (z1.kept hA) (z2.kept hA) (hby.block' ((KR.trans (Turn.ofBelow hA))) r6 hRW) (by rw [hR1]; exact .inr (.inr (.inl rfl))) (by rw [hR1]; exact .inr (.inr (.inr rfl))) (fun b o s he => by rw [hR1]; exact .inl (r6 b o s he))
  case hRd =>
    intro k hk
    rw [hR1] at hk
    rcases hk with hk | rfl | rfl | rfl
    · have := hRW k hk; omega
    · omega
    · omega
    · omega
  case hI =>
    rintro H H' s A A' ⟨i1, i2, i3⟩ hT hH hH'
    refine ⟨hT.box i1 (fun hx => by have := hH _ hx; omega), i2.trans (Turn.mono hT fun k hk hx hr => ?_), hJ _ _ _ _ _ i3 (hT.mono fun k _ hx => .inl hx) (fun k hk => ?_)⟩
    · have h1 := hH _ hx
      rw [hR1] at hr
      rcases hr with hr | rfl | rfl | rfl
      · have := hRW k hr; omega
      · omega
      · omega
      · omega
    · have hsz := i2.size
      have hsT := hT.size
      rcases hk with hk | hk
      · obtain ⟨h1, h2⟩ := hH' k hk
        exact ⟨h1.imp .inl id, h2⟩
      · refine ⟨.inl (.inr hk), ?_⟩
        rw [hH1] at hk
        rcases hk with rfl | rfl | rfl | rfl <;> omega
  case h0 =>
    exact ⟨b52, Turn.refl _ _, hJ _ _ _ _ _ J2 (Turn.refl _ _) (fun k hk => by
      rcases hk with hk | hk
      · exact hk.elim
      · refine ⟨.inl hk, ?_⟩
        rw [hH1] at hk
        rcases hk with rfl | rfl | rfl | rfl <;> omega)⟩
  case hround =>
    rintro l2 H pre x A ⟨i1, i2, i3⟩ hlen hH hl2
    have hbz := Box.new A #[.int .u8 0, .int .u8 0, .int .u8 0] 108
    have hfl : Flat (ya (p.C.y x.1.2)) := ya_flat _
    have hA2 := i2.size
    simp only [Pb.enc]
    gi_wp2_with ((with_reducible apply stIn); exact fn_round _; rfl; rfl; exact hbz; rfl; rfl; exact hfl; intro w4 b7 B4 ho4 hs4)
    have B4A : Below A.heap.size A w4 := ((Below.refl _ A).alloc (Nat.le_refl _) _).trans B4
    refine ⟨Turn.ofBelow B4A, fun w5 hT5 => ?_⟩
    have hs4' := B4A.size
    have hs5 := hT5.size
    have hlA : l2 < A.heap.size := (hH _ hl2).2
    have hgl2 := (hH _ hl2).1
    have i15 : Box w5 (W.heap.size + 1) #[.int .i64 (p.psum pre)] := hT5.box (i1.kept B4A) (by omega)
    have b75 : Box w5 A.heap.size (ya (p.C.y x.1.2)) := hT5.box b7 (by omega)
    have hlR : ¬R1 l2 := fun hx => by
      rw [hR1] at hx
      rcases hx with hx | rfl | rfl | rfl
      · have := hRW _ hx; omega
      · omega
      · omega
      · omega
    have K5 : Kept R1 w2 w5 := (i2.trans (Turn.ofBelow B4A)).trans (Turn.mono hT5 fun k _ hk hx => hlR (hk ▸ hx))
    have K5W : Kept Rd W w5 := KR.trans (Turn.mono K5 fun k _ hn hx => hn (by rw [hR1]; exact .inl hx))
    have y1 := K5W.box x1 r1
    have y3 := K5W.box x3 r3
    have y4 := K5W.box x4 r4
    have y5 := hw.block' K5W (fun b o' s he => by obtain ⟨rfl, _⟩ : g = b ∧ o = o' := by simp at he; exact ⟨he.1, he.2.1⟩
                                                  exact r5) hRW
    have c5 := i15.cell 0
    have cw := y4.cell 0
    simp only [List.getElem?_toArray, List.getElem?_cons_zero] at c5 cw
    have gY := b75.load (off := 0) (n := 3) (cs' := ya (p.C.y x.1.2)) (by rw [ya_size]; omega) (Array.extract_eq_self_of_le (by rw [ya_size]; omega))
    have hxN : (x.1.1 : Int) < p.N := by have := x.2; omega
    refine wpIn_block (wpIn_seq ?_)
    refine wpIn_region_det_tail 6 (by kernel_rfl) (by kernel_rfl) rfl ?_
    simp only [List.take_succ_cons, List.take_zero, List.drop_succ_cons, List.drop_zero]
    have q0 := KeptW.cell c5
    have qw := KeptW.cell cw
    repeat first
      | ((refine det_plain rfl ?_); ((with_reducible apply q_ld); rfl; (with_reducible assumption); (simp only [List.set_cons_zero, List.set_cons_succ]; rfl)); (refine wpQuiet_nil ?_))
      | ((with_reducible apply det_call); rfl; infer_instance; rfl; (intro w1 B1; exact score_worth p hp h g o c b1 br hcap x.1.1 hxN x.1.2 w1 (y1.kept B1) (y3.kept B1) (y5.kept B1)); (simp only [List.set_cons_zero, List.set_cons_succ]; rfl))
      | ((refine det_plain rfl ?_); (go_big_quiet_step (fail)); (refine wpQuiet_nil ?_))
    refine wpDet_nil ?_
    intro w6 B6
    clear q0 qw c5 cw gY
    have hbnd := p.psum_bd h pre
    have hbr := p.br_bd h x.1.1 x.1.2
    have hN : p.N ≤ 1055 := by
      obtain ⟨⟨k1, k2⟩, l1, l2, _⟩ := probChk_ok h
      unfold Pb.N
      omega
    have hsum : wrap64 (p.psum pre + p.br x.1.1 x.1.2) = p.psum (pre ++ [x]) := by
      rw [p.psum_snoc]
      unfold wrap64
      omega
    have i16 := i15.kept B6
    have c5 := i16.cell 0
    have f5 := i16.frozen 0
    have y46 : Box w6 W.heap.size #[.func (.yield l) #[] #[]] := (K5.box b42 (by rw [hR1]; exact .inr (.inl rfl))).kept B6
    have c4 := y46.cell 0
    simp only [List.getElem?_toArray, List.getElem?_cons_zero] at c5 c4
    obtain ⟨w7, hw7⟩ : ∃ w7, w7 = w6.setCell ⟨W.heap.size + 1, 0, none⟩ (.int .i64 (p.psum (pre ++ [x]))) := ⟨_, rfl⟩
    have J5 : J (fun k => H k ∨ H1 k) (p.psums pre) w7 := by
      have hT : Turn (fun k => H k ∨ H1 k) A w7 := by
        rw [hw7]
        exact (((Turn.ofBelow B4A).trans (Turn.mono hT5 fun k _ hk => hk ▸ .inl hl2)).trans (Turn.ofBelow B6)).trans (Turn.setCell _ _ _ (.inr (by rw [hH1]; exact .inr (.inl rfl))))
      exact hJ _ _ _ _ _ i3 hT (fun k hk => ⟨.inl hk, by
        have hszT := hT.size
        rcases hk with hk | hk
        · have := (hH k hk).2; omega
        · rw [hH1] at hk
          rcases hk with rfl | rfl | rfl | rfl <;> omega⟩)
    have i17 : Box w7 (W.heap.size + 1) #[.int .i64 (p.psum (pre ++ [x]))] := by rw [hw7]; exact (i16.setCell _).cast rfl
    have y47 : Box w7 W.heap.size #[.func (.yield l) #[] #[]] := by rw [hw7]; exact y46.setOther (by simp) _
    obtain ⟨fn2, tmps2, assign2, body2, hy2, hR2⟩ := hY _ _ (p.psum (pre ++ [x])) w7 J5 (by rw [p.psums_len]; omega) (fun k hk => by
      rcases hk with hk | hk
      · have := (hH k hk).1; omega
      · rw [hH1] at hk
        rcases hk with rfl | rfl | rfl | rfl <;> omega)
    have g4 := y47.cell 0
    have g5 := i17.cell 0
    simp only [List.getElem?_toArray, List.getElem?_cons_zero] at g4 g5
    subst hw7
    gi_wp2
    refine ⟨fun h => (by cases h), (roundIn_any hR2).mono ?_⟩
    rintro e w8 ⟨rfl, J8, K8⟩
    gi_wp2
    have hRH : ∀ k, R1 k → Rd k ∨ (H k ∨ H1 k) := fun k hk => by
      rw [hR1] at hk
      rw [hH1]
      rcases hk with hk | hk | hk | hk
      · exact .inl hk
      · exact .inr (.inr (.inl hk))
      · exact .inr (.inr (.inr (.inr (.inl hk))))
      · exact .inr (.inr (.inr (.inr (.inr hk))))
    have hb5 : ¬(R1 (W.heap.size + 1) ∨ H (W.heap.size + 1)) := fun hx => by
      rcases hx with hx | hx
      · rw [hR1] at hx
        rcases hx with hx | hx | hx | hx
        · have := hRW _ hx; omega
        · omega
        · omega
        · omega
      · have := (hH _ hx).1; omega
    have K58 : Kept (fun k => R1 k ∨ H k) w5 _ := ((Turn.ofBelow B6).trans (Turn.setCell _ _ _ hb5)).trans (Turn.mono K8 fun k _ hn hx => hn (hx.elim (hRH k) fun hx => .inr (.inl hx)))
    exact (show roundEnds _ _ _ _ _ .normal _ _ from ⟨K58, K8.box i17 (.inr (.inr (by rw [hH1]; exact .inr (.inl rfl)))), K5.trans (Turn.mono K58 fun k _ hn hx => hn (.inl hx)), by rw [p.psums_snoc]; exact J8⟩)
  case hdone =>
    rintro H xs A rfl ⟨i1, i2, i3⟩ hH hHD hD
    refine ⟨by simp, .inl ⟨_, _, rfl, run_takeDeferred hD, ?_⟩⟩
    refine ⟨_, results_nil rfl, ⟨_, rfl⟩, _, _, rfl, hJ _ (fun k => H k ∨ H1 k) _ _ _ i3 (Turn.putObj _ _ (.inl hHD)) (fun k hk => ⟨.inl hk, ?_⟩), fun k hk => ?_⟩
    · have hsz := i2.size
      rw [World.putObj_size]
      rcases hk with hk | hk
      · exact (hH k hk).2
      · rw [hH1] at hk
        rcases hk with rfl | rfl | rfl | rfl <;> omega
    · rcases hk with hk | hk
      · have := (hH k hk).1; omega
      · rw [hH1] at hk
        rcases hk with rfl | rfl | rfl | rfl <;> omega
end Go.Proofs.Ytnjmplapjnnjdaa
