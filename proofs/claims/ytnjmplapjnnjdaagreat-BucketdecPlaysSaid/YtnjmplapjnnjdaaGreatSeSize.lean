import Derived.Test.YtnjmplapjnnjdaaGreatSeRes
import Derived.Test.YtnjmplapjnnjdaaGreatSeq
import Derived.Test.YtnjmplapjnnjdaaGreatPref2
import Derived.Test.YtnjmplapjnnjdaaGreatLOrder
import Derived.Test.YtnjmplapjnnjdaaGreatSeDec
set_option linter.unusedSimpArgs false
set_option linter.unusedVariables false
set_option linter.unnecessarySimpa false
/- The search of layer 17: Top. -/
namespace Go.Proofs.YtnjmplapjnnjdaaGreat
open Go.RowKit

set_option maxRecDepth 5000 in
theorem se_Top_none {w : World} {p : Pb} {D : Int} {most : Nat} {s : Bq} (hs : s.Ok p D most) (hf : s.found = none) {b : Bk} {m : Sr} {ids : List Nat} {A : SA} {Wy : Nat → Prop} (h : Se w p D most s b m ids A Wy) :
    Calls Tryz.prog 21 #[.pointer (some ⟨A.sb, 0, none⟩)] w (SeTopPost p D most s b m ids A Wy w) := by
  have hne := hs.ne hf
  have hbne : b.I ≠ [] := fun e => by have := h.rel.ilen; rw [e] at this; simp at this; omega
  have hkey : ∀ t : Nat, (∃ y ∈ b.I, b.ix y.2 = t) → (∀ y ∈ b.I, b.ix y.2 ≤ t) → topKey D s.L = (t : Int) + b.base := by
    intro t h1 h2
    obtain ⟨x, hx, hall⟩ := h.bok.next hbne
    have h3 := (hall t h1 h2).2.1
    unfold topKey
    rw [← h.rel.keys, ← h.rel.next, Bk.keys_get hx]
    exact h3
  have HF := Lib.hid hf
  clear hf
  go_enter Tryz.func21, Tryz.ntmps21
  go_wp2_with fail
  refine (sr_good _ h.sr).mono ?_
  rintro e w1 ⟨rfl, B1⟩
  have h1 := h.kept B1
  have c6 := h1.sr.cells.c6
  have f2 : m.fnd = none := by
    rcases h.rel.fnd with ⟨f1, f2⟩ | ⟨en, wb, f1, f2, f3⟩
    · exact f2
    · rw [HF.out] at f1; cases f1
  rw [f2] at c6
  replace c6 : w1.cell? ⟨A.sb, 6, none⟩ = some (.pointer none) := c6
  have c3 := h1.sr.cells.c3
  clear f2
  go_wp2_with fail
  refine (bk_Highest h.bok hbne w1 h1.sr.bk).mono ?_
  rintro e w2 ⟨top, rfl, hB, hx, T⟩
  have ht := hkey top hx fun y hy => (hB.rng y hy).2
  have T' : Turn A.OB w1 w2 := T.mono fun k _ hk => by rw [hk]; exact h1.sr.bk.own.1
  have hS := h1.sr.newB (b' := b) hB (fun k hk => .inl hk) T' rfl
  have N : SrNext A { A with top := top } w w2 := ⟨⟨rfl, rfl, rfl, rfl, rfl, rfl, rfl, rfl⟩, fun k hk => .inl hk, (Turn.ofBelow B1).trans (T'.mono fun k _ hk => .inr (.inr (.inr hk)))⟩
  have hSe : Se w2 p D most s b m ids { A with top := top } Wy := ⟨hS, h.bok, h.blen, h.lo, h.hi, h.rel.mono fun _ _ hx => hx.next h.wy N, wy_next h.wy N⟩
  obtain ⟨K, hK⟩ : ∃ K, K = (top : Int) + b.base := ⟨_, rfl⟩
  rw [← hK] at ht ⊢
  have HT := Lib.hid ht
  clear ht hK hkey
  go_wp2
  go_ret2
  refine (show SeTopPost p D most s b m ids A Wy w _ _ from ⟨_, ?_, hSe, N⟩)
  rw [HF.out, HT.out]
  rfl
/-- Top, whatever was found. -/
theorem se_Top {w : World} {p : Pb} {D : Int} {most : Nat} {s : Bq} (hs : s.Ok p D most) {b : Bk} {m : Sr} {ids : List Nat} {A : SA} {Wy : Nat → Prop} (h : Se w p D most s b m ids A Wy) :
    Calls Tryz.prog 21 #[.pointer (some ⟨A.sb, 0, none⟩)] w (SeTopPost p D most s b m ids A Wy w) := by
  cases hf : s.found with
  | none => exact se_Top_none hs hf h
  | some e =>
    refine (se_Top_found (by rw [hf]; rfl) h).mono ?_
    rintro e w' ⟨rfl, B⟩
    refine ⟨A, by rw [hf]; rfl, h.kept B, ⟨⟨rfl, rfl, rfl, rfl, rfl, rfl, rfl, rfl⟩, fun k hk => .inl hk, Turn.ofBelow B⟩⟩
end Go.Proofs.YtnjmplapjnnjdaaGreat

/- The iterator over all that is in the buckets: how much it is. -/
namespace Go.Proofs.YtnjmplapjnnjdaaGreat
open Go.RowKit

/-- How much lies in the first buckets. -/
def Bk.upTo (b : Bk) : Nat → Nat
  | 0 => 0
  | k + 1 => b.upTo k + (b.row k).length
theorem Bk.upTo_eq (b : Bk) : ∀ k, b.upTo k = (b.I.filter fun x => decide (b.ix x.2 < k)).length
  | 0 => by
    have : (b.I.filter fun x => decide (b.ix x.2 < 0)) = [] := List.filter_eq_nil_iff.2 fun x _ => by simp
    rw [this]
    rfl
  | k + 1 => by
    unfold Bk.upTo Bk.row
    rw [b.upTo_eq k, List.length_map]
    generalize b.I = l
    induction l with
    | nil => rfl
    | cons x l ih =>
      simp only [List.filter_cons]
      by_cases h1 : b.ix x.2 < k
      · have h2 : ¬ (b.ix x.2 = k) := by omega
        have h3 : b.ix x.2 < k + 1 := by omega
        simp [h1, h2, h3] at ih ⊢
        omega
      · by_cases h2 : b.ix x.2 = k
        · have h3 : b.ix x.2 < k + 1 := by omega
          simp [h2] at ih ⊢
          omega
        · have h3 : ¬ b.ix x.2 < k + 1 := by omega
          simp [h1, h2, h3] at ih ⊢
          omega
theorem Bk.Ok.upTo_all {b : Bk} (hb : b.Ok) : b.upTo b.K = b.I.length := by
  rw [b.upTo_eq]
  congr 1
  rw [List.filter_eq_self]
  intro x hx
  have := hb.ms x hx
  have := (hb.ix this.1 this.2).2
  simpa using this
end Go.Proofs.YtnjmplapjnnjdaaGreat

/- A region that draws its order, in a fence that lets all in, outside of rounds: fixed values first, then a forced order. No program's text is named here. -/
namespace Go.Proofs.YtnjmplapjnnjdaaGreat
open Go.RowKit Go.Shelf

section
variable {P : Program} {ops : Array Oper} {md : Region.Mode} {w0 : World} {n : Nat}

theorem wpOpInW_of_knOp {i : Nat} {a : Act} {S : World → Prop} {K : Act → (World → Prop) → Prop} {K' : Act → World → Prop} {Q' : Exit → Act → World → Prop} {w : World} (hnd : ∀ (j : Nat) (o : Oper), ops[j]? = some o → ∀ c, o.op ≠ .defer c) (hw : Ext w0 w) (hS : S w) (hst : Stable S)
    (h : ∀ a S' w', Ext w0 w' → Stable S' → S' w' → K a S' → K' a w') (hh : knOp P ops w0 i K a S) : wpOpIn Fence.wide n P ops Q' i K' a w := by
  unfold knOp at hh
  unfold wpOpIn
  split
  · rename_i hi; rw [hi] at hh; exact h _ _ _ hw hst hS hh
  · rename_i o hi
    rw [hi] at hh
    simp only at hh
    split
    · rename_i hwt
      rw [if_pos hwt] at hh
      obtain ⟨R, hR, hn⟩ := hh
      refine ⟨fun _ _ => trivial, ?_⟩
      have h3 := hR.run w hw hS
      rw [semAt_exec _ (hnd i o hi)]
      generalize (execOp a.eval o).run P w = r at *
      have fin : ∀ v w', Ext w w' → R v w' → K' (a.put o.dst v) w' := fun v w' he hr =>
        h _ _ _ (ext_trans hw he) (fun x y hx hs => ⟨hst x y hx hs.1, hR.stable v x y hx hs.2⟩) ⟨hst _ _ he hS, hr⟩ (hn v ⟨w', hr⟩)
      cases r with
      | ok m w' =>
        cases m <;> simp only [freeUpon] at h3 <;> simp only [Oper.uponIn]
        case value u => exact fin _ _ h3.1 h3.2
        case skip => exact fin _ _ h3.1 h3.2
        case enter f args =>
          refine ⟨fun h => (by cases h), callsIn_wide.2 ?_⟩
          exact h3.2.2.mono fun e w'' ⟨⟨v, he, hr⟩, hx⟩ => by subst he; exact fin _ _ (ext_trans h3.2.1 hx) hr
      | halt x w' => simp only [freeUpon] at h3
    · rename_i hwt; rw [if_neg hwt] at hh; exact ⟨fun _ _ => trivial, h _ _ _ hw hst hS hh⟩
theorem anyInW_of_headKn {m g : Nat} {L : Array Bool → Act → (World → Prop) → Prop} {Q' : Exit → Act → World → Prop} (hnd : ∀ (j : Nat) (o : Oper), ops[j]? = some o → ∀ c, o.op ≠ .defer c) (hL : ∀ done a S w, Ext w0 w → Stable S → S w → L done a S → wpAnyIn Fence.wide n P md ops Q' g done a w) (f : Nat) :
    ∀ (done : Array Bool) (a : Act) (S : World → Prop) (w : World), Ext w0 w → Stable S → S w → headKn P md ops w0 m L f done a S → wpAnyIn Fence.wide n P md ops Q' (f + g) done a w := by
  induction f with
  | zero => intro done a S w hw hst hS h; rw [Nat.zero_add]; exact hL _ _ _ _ hw hst hS h
  | succ f ih =>
    intro done a S w hw hst hS h
    rw [show f + 1 + g = (f + g) + 1 by omega]
    refine ⟨fun h0 => absurd h0 h.1, fun i hi => ?_⟩
    exact wpOpInW_of_knOp hnd hw hS hst (fun a' S' w' hw' hst' hS' h' => ih _ a' S' w' hw' hst' hS' h') (h.2 i hi).2
/-- THE LAW: n operations of fixed values, then a forced order. -/
theorem wpInW_region_det_tail {id : Nat} {Q : Exit → Act → World → Prop} {a : Act} {w : World} {l : List Oper} (m : Nat) (hm : P.follows .mixedOrders = true) (hB : Region.lexTailB .any l.toArray m = true) (hnd : (l.all fun o => match o.op with | .defer _ => false | _ => true) = true)
    (h : wpDet P l.toArray w (fun a' => ∀ w', Ext w w' → wpListIn Fence.wide n P l.toArray Q (l.drop m) a' w') (l.take m) a) : (Code.region id l.toArray true).wpIn Fence.wide n P Q a w := by
  have hnd' : ∀ (j : Nat) (o : Oper), l.toArray[j]? = some o → ∀ c, o.op ≠ .defer c := fun j o hj c hc => by
    have ho : o ∈ l := List.mem_of_getElem? (by simpa using hj)
    have := List.all_eq_true.1 hnd o ho
    rw [hc] at this
    cases this
  simp only [Region.lexTailB, Bool.and_eq_true, decide_eq_true_eq] at hB
  obtain ⟨⟨⟨⟨hsel, hn⟩, hs⟩, hc⟩, hlex⟩ := hB
  have hn' : m < l.length := by simpa using hn
  have htl : (l.take m).length = m := by simp; omega
  have hdl : (l.drop m).length = l.toArray.size - m := by simp
  have inv0 : HeadInv .any l.toArray m (Array.replicate l.toArray.size false) :=
    ⟨by simp, fun j oj _ hl => (by rw [getD_replicate_false] at hl; cases hl), fun t _ ht => getD_in (by simpa using ht) (getD_replicate_false _ _)⟩
  have hQ : Anti (fun a'' S => ∀ w', Ext w w' → S w' → wpListIn Fence.wide n P l.toArray Q (l.drop m) a'' w') := fun _ _ _ hS hh w' hw hs => hh w' hw (hS w' hs)
  have H := headKn_lex1 (P := P) (md := .any) (g := l.toArray.size - m) (S := fun _ => True) (w0 := w) hQ hsel hs hc hn (post := []) (l.take m) 0 (Array.replicate l.toArray.size false) a (fun j hj => by
      rw [List.append_nil] at hj ⊢
      rw [htl] at hj
      simp [hj]) (by rw [List.append_nil]; simpa using htl) inv0 (by rw [List.append_nil, htl]; exact hlex) ?_
  · rw [List.append_nil] at H
    refine wpIn_region_any hm ?_
    have fin := anyInW_of_headKn (Q' := Q) (n := n) (g := l.toArray.size - m) hnd' (fun d a' S' w' hw' _ hS' hL => by
      have := wpAnyIn_of_seq (F := Fence.wide) (n := n) (md := .any) (Q' := Q) (l.drop m) m d a' w' (fun j => by simp [List.getElem?_drop]) (by rw [hdl]; exact hL.1) (hL.2 w' hw' hS')
      rwa [hdl] at this) _ _ _ _ _ ((Below.refl _ w).drew) (fun _ _ _ _ => trivial) trivial H
    rw [htl, show m + (l.toArray.size - m) = l.toArray.size by omega] at fin
    exact fin
  · refine wpDet_mono (fun a' ha => ?_) _ _ h
    have hsq := seqB_marked (md := .any) (ops := l.toArray) m 0 _ hlex
    rw [Nat.zero_add] at hsq
    show headKn _ _ _ _ _ _ 0 _ _ _
    refine ⟨?_, fun w' hx _ => ha w' hx⟩
    rw [htl]
    exact hsq
end
end Go.Proofs.YtnjmplapjnnjdaaGreat

/- The iterator over all that is in the buckets: its walk. -/
namespace Go.Proofs.YtnjmplapjnnjdaaGreat
open Go.RowKit

theorem bk_All (bb : Nat) (w : World) : Calls Tryz.prog 51 #[.pointer (some ⟨bb, 0, none⟩)] w fun e w' => ∃ vb, e = .returned (.func (.func 70) #[] #[.pointer (some ⟨vb, 0, none⟩)]) ∧ Box w' vb #[.pointer (some ⟨bb, 0, none⟩)] ∧ w.heap.size ≤ vb ∧ Below w.heap.size w w' := by
  have hmf : ∀ (fn : Fn) (first cap : Array Value) (w : World), (Instr.makeFunc fn first cap).run Tryz.prog w = .ok (.func fn first cap) w := fun _ _ _ _ => rfl
  go_enter Tryz.func51, Tryz.ntmps51
  go_upto_region 1 with fail
  refine name1 ?_
  intro w0 b0 B0
  go_wp2
  go_ret
  exact ⟨_, rfl, b0, Nat.le_refl _, B0⟩
/-- THE ARM for a copy out of a row of whole numbers that may begin in the midst of its block. -/
theorem cpO {P : Program} {ops : Array Oper} {rest : List Oper} {l l' : List Value} {ds : List Deferred} {w : World} {Q : Exit → Act → World → Prop} {dT sT e dd g k c1 bytes : Nat} {d s : Operand} {z : Value} {cur : List Value} {xs : List Int} {ty : TypeId} {ps : String} {af : Array Edge} {ga off c2 : Nat}
    [S : SlTy P dT e] [E : ElTy P e z 1 bytes] (hd : (Act.mk l.toArray ds).eval d = .slice (some ⟨g, 0, none⟩) k c1) (hs : (Act.mk l.toArray ds).eval s = .slice (some ⟨ga, off, none⟩) k c2)
    (hb : BoxT w g cur.toArray e) (hx : xs.length = k) (ha : ∀ j y, xs[j]? = some y → w.cell? ⟨ga, off + j, none⟩ = some (.int .i64 y)) (hk : cur.length = k) (hl : l.set dd (.int .i64 k) = l')
    (h : ∀ w', BoxT w' g (xs.map (Value.int .i64)).toArray e → (∀ b, b ≠ g → w'.heap[b]? = w.heap[b]?) → Below g w w' → w'.heap.size = w.heap.size → wpList P ops Q rest ⟨l'.toArray, ds⟩ w') :
    wpList P ops Q (⟨some dd, .call { callee := .builtin .copy, args := #[d, s], argTypes := #[dT, sT] }, ty, ps, af, none⟩ :: rest) ⟨l.toArray, ds⟩ w := by
  obtain ⟨i, hi, hz0, hz1, hz2, hz3⟩ := E.out
  have hlen : (xs.map (Value.int .i64)).length = k := by rw [List.length_map, hx]
  have hr := run_copy_row (P := P) w dT sT ty e g 0 k c1 ⟨ga, off, none⟩ k c2 cur.toArray e (xs.map (Value.int .i64)) S.out (by simp [hi, hz1]) hb (by rw [hlen]; exact (Nat.min_self k).symm) (fun j v hj => by
    rw [List.getElem?_map] at hj
    cases hy : xs[j]? with
    | none => rw [hy] at hj; cases hj
    | some y =>
      rw [hy] at hj
      obtain rfl := Option.some.inj hj
      have hadd : (⟨ga, off, none⟩ : Addr).add j = ⟨ga, off + j, none⟩ := by unfold Addr.add; split <;> simp_all
      rw [hadd]
      exact ha j y hy) (by rw [hlen]; simp [hk]) (fun v hv => by obtain ⟨y, _, rfl⟩ := List.mem_map.1 hv; rfl)
  refine wpList_plain rfl fun K hK => ?_
  unfold Oper.wp execOp
  simp only [resolve, invoke, builtin, Sem.run_bind, Sem.run_pure, Result.andThen_ok, List.map_toArray, List.map_cons, List.map_nil, hd, hs, hr]
  rw [Oper.upon_value, put_list, hlen, show goInt k = Value.int .i64 k from rfl, hl]
  refine hK _ _ (h _ ?_ (fun b hb => setRow_other w g b _ hb) ⟨rfl, rfl, rfl, by simp [World.setRow], fun b hb => setRow_other w g b _ (by omega)⟩ (by simp [World.setRow]))
  have h2 : cur.drop (0 + k) = [] := List.drop_of_length_le (by omega)
  rw [h2, List.take_zero, List.nil_append, List.append_nil]
  exact setRow_heap w g cur.toArray _ e _ hb
/-- The rows that are laid anew, up to the j-th. -/
def AllRows (w : World) (b : Bk) (gr B j : Nat) : Prop := ∃ vs : List Value, BoxT w gr vs.toArray 60 ∧ vs.length = b.K ∧ ∀ i, i < b.K →
  (i < j → ∃ g, ∃ zs : List Int, vs[i]? = some (.slice (some ⟨g, 0, none⟩) zs.length zs.length) ∧ zs.length = (b.row i).length ∧ BoxT w g (zs.map (Value.int .i64)).toArray 3 ∧ B ≤ g) ∧ (j ≤ i → vs[i]? = some (.slice none 0 0))
set_option maxRecDepth 5000 in
set_option maxHeartbeats 1000000 in
theorem bk_all_seq {b : Bk} (hb : b.Ok) {bb gr low top vb : Nat} {vs : List Value} {Own : Nat → Prop} (Rd : Nat → Prop) (W : World) (n : Nat) (x1 : Box W vb #[.pointer (some ⟨bb, 0, none⟩)]) (h : BkIn W b bb gr low top vs Own) (r1 : Rd vb) (r2 : ∀ k, Own k → Rd k) (hRW : ∀ k, Rd k → k < W.heap.size) :
    SeqAt n Tryz.prog 70 #[.pointer (some ⟨vb, 0, none⟩)] (fun x : Int × Int => #[.int .i64 x.1, .int .i64 x.2]) (fun xs => xs.length = b.I.length) b.I.length Rd W := by
  intro l J hJ hY h0
  refine callsIn_wide.2 ?_
  go_enter Tryz.func70, Tryz.ntmps70
  have cv : W.cell? ⟨vb, 0, none⟩ = some (.pointer (some ⟨bb, 0, none⟩)) := x1.cell 0
  go_wp2_with fail
  refine (bk_none hb W h).mono ?_
  rintro e w1 ⟨rfl, B1⟩
  have h1 := h.kept B1
  have cv1 : w1.cell? ⟨vb, 0, none⟩ = some (.pointer (some ⟨bb, 0, none⟩)) := (x1.kept B1).cell 0
  have c5 := h1.at_.c5
  have hK1 := hb.kpos.1
  have hK2 := hb.kpos.2.1
  go_upto_region 2 with ((with_reducible apply mkT); rfl; rfl; omega; omega; omega; rfl; intro w2 m2 B2 hs2)
  have hs1 := B1.size
  have BW2 := bOn B1 B2
  have h2 := h1.kept B2
  have hall0 : AllRows w2 b w1.heap.size W.heap.size 0 := by
    have e : madeCells (Value.slice none 0 0).cells ((b.K : Int).toNat * 1) = (List.replicate b.K (Value.slice none 0 0)).toArray := made_one _ _ rfl
    rw [e] at m2
    exact ⟨_, m2, by simp, fun i hi => ⟨fun h => absurd h (Nat.not_lt_zero _), fun _ => by rw [List.getElem?_replicate, if_pos hi]⟩⟩
  obtain ⟨g2, hg2⟩ : ∃ g2, g2 = w1.heap.size := ⟨_, rfl⟩
  have hg2W : W.heap.size ≤ g2 := by omega
  rw [← hg2] at hall0 ⊢
  have cv2 : w2.cell? ⟨vb, 0, none⟩ = some (.pointer (some ⟨bb, 0, none⟩)) := (B2.cell (lt_of_cell cv1)).trans cv1
  have c52 := h2.at_.c5
  clear cv cv1 c5 m2 hs2 h1 B1 B2 hg2
  go_wp2_with fail
  go_loopw [21] (fun i wr => ∃ j : Nat, j ≤ b.K ∧ i = .int .i64 j ∧ AllRows wr b g2 W.heap.size j ∧ Below W.heap.size W wr) (fun i _ => b.K - (intOf i).toNat)
  case atStart => exact ⟨0, Nat.zero_le _, rfl, hall0, BW2⟩
  case round =>
    clear hall0 BW2 cv2 c52 h2
    obtain ⟨j, hj, rfl, hall, BW⟩ := hrel
    have hr := h.kept BW
    by_cases hjK : j < b.K
    · have hj1 : decide ((j : Int) < (b.K : Int)) = true := by simp; omega
      have hj2 : (j : Int) < (b.K : Int) := by omega
      obtain ⟨v, hv⟩ : ∃ v, vs[j]? = some v := ⟨_, List.getElem?_eq_getElem (by rw [h.vlen]; exact hjK)⟩
      have hrow := hr.rows j v hv
      obtain ⟨a, c, rfl⟩ := hrow.form
      have hcell : wr.cell? ⟨gr, j, none⟩ = some (.slice a (b.row j).length c) := by rw [hr.arr.box.cell j, List.getElem?_toArray]; exact hv
      obtain ⟨vs2, hbx2, hvl2, hv2⟩ := hall
      have hcell2 : wr.cell? ⟨g2, j, none⟩ = some (.slice none 0 0) := by rw [hbx2.box.cell j, List.getElem?_toArray]; exact (hv2 j hjK).2 (Nat.le_refl _)
      have hz2 := hbx2.box.frozen j
      have hrl : (b.row j).length ≤ 65537 := by
        have h1 := hb.len
        have h2 := hb.c1
        unfold Bk.row
        rw [List.length_map]
        have := List.length_filter_le (fun x => b.ix x.2 == j) b.I
        omega
      have cvr : wr.cell? ⟨gr, j, none⟩ = some (.slice a (b.row j).length c) := hcell
      obtain ⟨rl, hrl2⟩ : ∃ rl, rl = (b.row j).length := ⟨_, rfl⟩
      rw [← hrl2] at cvr hrl
      have HRL := Lib.hid hrl2
      clear hcell hrl2
      go_upto_region 6 with ((with_reducible apply mkT); rfl; rfl; omega; omega; omega; rfl; intro w3 m3 B3 hs3; have hc3 := (B3.cell (lt_of_cell hcell2)).trans hcell2; have hz3 := (B3.frozen (p := ⟨g2, j, none⟩) (lt_of_cell hcell2)).trans hz2)
      have hne : wr.heap.size ≠ g2 := by have := Box.lt ⟨_, hbx2⟩; omega
      have e0 : madeCells (Value.int .i64 0).cells ((rl : Int).toNat * 1) = (List.replicate rl (Value.int .i64 0)).toArray := made_one _ _ rfl
      rw [e0] at m3
      obtain ⟨w4, hw4⟩ : ∃ w4, w4 = w3.setCell ⟨g2, j, none⟩ (.slice (some ⟨wr.heap.size, 0, none⟩) rl rl) := ⟨_, rfl⟩
      have m4 : BoxT w4 wr.heap.size (List.replicate rl (Value.int .i64 0)).toArray 3 := by rw [hw4]; exact (Below.heap_setCell _ _ _ _ hne).trans m3
      have hbx4 : BoxT w4 g2 (vs2.set j (.slice (some ⟨wr.heap.size, 0, none⟩) rl rl)).toArray 60 := by
        have := (hbx2.kept B3).set j (.slice (some ⟨wr.heap.size, 0, none⟩) rl rl)
        rw [List.setIfInBounds_toArray] at this
        rw [hw4]
        exact this
      have BW4 : Below W.heap.size W w4 := by rw [hw4]; exact (bOn BW B3).setCell (p := ⟨g2, j, none⟩) hg2W _
      have hold : ∀ k, k < wr.heap.size → k ≠ g2 → w4.heap[k]? = wr.heap[k]? := fun k hk hn => by rw [hw4]; exact (Below.heap_setCell _ _ _ _ hn).trans (B3.block k hk)
      rw [← hw4]
      have hcs : w4.cell? ⟨g2, j, none⟩ = some (.slice (some ⟨wr.heap.size, 0, none⟩) rl rl) := by
        rw [hbx4.box.cell j, List.getElem?_toArray, List.getElem?_set_self (by omega)]
      clear e0 m3 hw4 hc3 hz3 hcell2 hz2 cvr
      have fin : ∀ w5, BoxT w5 wr.heap.size ((b.row j).map (Value.int .i64)).toArray 3 → (∀ k, k ≠ wr.heap.size → w5.heap[k]? = w4.heap[k]?) → AllRows w5 b g2 W.heap.size (j + 1) := by
        intro w5 hx hk5
        refine ⟨_, hbx4.same (hk5 g2 (Ne.symm hne)), by rw [List.length_set]; exact hvl2, fun i hi => ⟨fun hij => ?_, fun hij => ?_⟩⟩
        · by_cases hje : i = j
          · subst hje
            refine ⟨wr.heap.size, b.row i, ?_, rfl, hx, BW.size⟩
            rw [List.getElem?_set_self (by omega), HRL.out]
          · obtain ⟨g, zs, q1, q2, q3, q4⟩ := (hv2 i hi).1 (by omega)
            have hgl := Box.lt ⟨_, q3⟩
            have hgn : g ≠ g2 := BoxT.ne q3 hbx2 (by decide)
            exact ⟨g, zs, by rw [List.getElem?_set_ne (Ne.symm hje)]; exact q1, q2, q3.same ((hk5 g (by omega)).trans (hold g hgl hgn)), q4⟩
        · rw [List.getElem?_set_ne (by omega)]
          exact (hv2 i hi).2 (by omega)
      rcases hrow with ⟨hv0, hx0⟩ | ⟨ga, off, cap, cur, hvv, hg, q1, q2, q3⟩
      · obtain ⟨rfl, hl0, rfl⟩ : a = none ∧ (b.row j).length = 0 ∧ c = 0 := by simpa using hv0
        have hr0 : rl = 0 := HRL.out.trans hl0
        subst hr0
        have hcp : (Builtin.copy_ #[60, 60] 3 #[.slice (some ⟨wr.heap.size, 0, none⟩) 0 0, .slice none 0 0]).run Tryz.prog w4 = .ok (.int .i64 0) w4 := run_copy_none (P := Tryz.prog) w4 60 60 3 3 (some ⟨wr.heap.size, 0, none⟩) none 0 0 0 0 Tryz.underlying60 (by kernel_rfl) rfl
        go_wp2
        have hall5 := fin w4 (by rw [hx0]; exact m4) (fun _ _ => rfl)
        go_roundw
        case measure => simp only [intOf]; omega
        case rel => exact ⟨j + 1, by omega, by go_num, hall5, BW4⟩
      · obtain ⟨rfl, rfl⟩ : a = some ⟨ga, off, none⟩ ∧ c = cap := by simpa using hvv
        have hgal : ga < wr.heap.size := (Array.getElem?_eq_some_iff.1 hg).1
        have hg4 : w4.heap[ga]? = some (.cells cur 3 (0, 0)) := (hold ga hgal (BoxT.ne (show BoxT wr ga cur 3 from hg) hbx2 (by decide))).trans hg
        have hsrc : ∀ i y, (b.row j)[i]? = some y → w4.cell? ⟨ga, off + i, none⟩ = some (.int .i64 y) := fun i y hy => by rw [cell_of_row w4 ga (off + i) cur _ (0, 0) hg4]; exact q3 i y hy
        have hlen : (b.row j).length = rl := HRL.out.symm
        have HSRC := Lib.hid hsrc
        have HLEN := Lib.hid hlen
        clear hsrc hlen hvv q1 q2 q3 hg hg4
        go_wp2_with ((with_reducible apply cpO (z := .int .i64 0) (bytes := 8) (cur := List.replicate rl (.int .i64 0)) (xs := b.row j)); rfl; rfl; exact m4; exact HLEN.out; exact HSRC.out; simp; (simp only [List.set_cons_zero, List.set_cons_succ]; rfl); intro w5 m5 hk5 B5 hs5)
        have hall5 := fin w5 m5 hk5
        have BW5 : Below W.heap.size W w5 := BW4.trans (B5.mono BW.size)
        go_roundw
        case measure => simp only [intOf]; omega
        case rel => exact ⟨j + 1, by omega, by go_num, hall5, BW5⟩
    · obtain rfl : j = b.K := by omega
      obtain ⟨H1, hH1⟩ : ∃ H1 : Nat → Prop, H1 = fun k => W.heap.size ≤ k ∧ k < wr.heap.size := ⟨_, rfl⟩
      have J1 : J H1 [] wr := hJ _ _ _ _ _ h0 (Turn.ofBelow BW) (fun k hk => by rw [hH1] at hk; exact ⟨.inr hk.1, hk.2⟩)
      have hH1k : ∀ k, H1 k → W.heap.size ≤ k ∧ k < wr.heap.size := fun k hk => by rw [hH1] at hk; exact hk
      have hH2k : ∀ k, W.heap.size ≤ k → k < wr.heap.size → H1 k := fun k h1 h2 => by rw [hH1]; exact ⟨h1, h2⟩
      have KR : Kept Rd W wr := Turn.ofBelow BW
      have hall' := hb.upTo_all
      have x1r := x1.kept BW
      clear hH1
      go_wp2_with fail
      go_loopw [6] (fun i w5 => ∃ (k : Nat) (pre : List (Int × Int)), k ≤ b.K ∧ i = .int .i64 ((k : Int) - 1) ∧ pre.length + b.upTo k = b.I.length ∧ J H1 pre w5 ∧ Kept (fun q => Rd q ∨ H1 q) wr w5) (fun i _ => (intOf i + 1).toNat)
      case atStart => exact ⟨b.K, [], Nat.le_refl _, by go_num, by simpa using hall', J1, Turn.refl _ _⟩
      case round =>
        clear J1
        obtain ⟨k, pre, hk, rfl, hpl, Jk, K5⟩ := hrel
        obtain ⟨vs2, hbx2, hvl2, hv2⟩ := hall
        cases k with
        | zero =>
          have hlen : pre.length = b.I.length := by simpa [Bk.upTo] using hpl
          have HLEN := Lib.hid hlen
          clear hlen hpl
          have e0 : ((0 : Nat) : Int) - 1 = -1 := rfl
          rw [e0]
          clear e0
          go_wp2
          refine bodyPost_end (results_nil rfl) rfl ?_
          exact ⟨⟨_, rfl⟩, pre, H1, HLEN.out, Jk, fun k hk => (hH1k k hk).1⟩
        | succ k =>
          have hkK : k < b.K := by omega
          have hkK2 : (k : Int) < (b.K : Int) := by omega
          obtain ⟨g, zs, q1, q2, q3, q4⟩ := (hv2 k hkK).1 hkK
          have e1 : ((k + 1 : Nat) : Int) - 1 = (k : Int) := by omega
          rw [e1]
          clear e1
          have hg2l := Box.lt ⟨_, hbx2⟩
          have hgl := Box.lt ⟨_, q3⟩
          have hbx5 := hbx2.same (K5.block hg2l (.inr (hH2k _ hg2W hg2l)))
          have q35 := q3.same (K5.block hgl (.inr (hH2k _ q4 hgl)))
          have x15 := K5.box x1r (.inl r1)
          have hck : wr.cell? ⟨g2, k, none⟩ = some (.slice (some ⟨g, 0, none⟩) zs.length zs.length) := by rw [hbx5.box.cell k, List.getElem?_toArray]; exact q1
          have hzl : zs.length ≤ 100000 := by
            have h1 := hb.len
            have h2 := hb.c1
            have h3 : zs.length = (b.row k).length := q2
            unfold Bk.row at h3
            rw [List.length_map] at h3
            have := List.length_filter_le (fun x => b.ix x.2 == k) b.I
            omega
          have hup : pre.length + b.upTo k + zs.length = b.I.length := by
            have : b.upTo (k + 1) = b.upTo k + (b.row k).length := rfl
            omega
          clear q1 hpl hv2
          go_wp2_with fail
          go_loopw [7] (fun i w6 => ∃ (m : Nat) (pre6 : List (Int × Int)), m ≤ zs.length ∧ i = .int .i64 ((m : Int) - 1) ∧ pre6.length + b.upTo k + m = b.I.length ∧ J H1 pre6 w6 ∧ Kept (fun q => Rd q ∨ H1 q) wr w6) (fun i _ => (intOf i + 1).toNat)
          case atStart => exact ⟨zs.length, pre, Nat.le_refl _, by go_num, hup, Jk, Turn.refl _ _⟩
          case round =>
            clear Jk hup
            obtain ⟨m, pre6, hm, rfl, hup, Jk, K6⟩ := hrel
            cases m with
            | zero =>
              have HUP := Lib.hid hup
              clear hup
              have e0 : ((0 : Nat) : Int) - 1 = -1 := rfl
              rw [e0]
              clear e0
              go_wp2
              go_roundw
              case measure => simp only [intOf]; omega
              case rel => exact ⟨k, pre6, by omega, by go_num, by have := HUP.out; omega, Jk, K5.trans K6⟩
            | succ m =>
              have hmz : m < zs.length := by omega
              have hmz2 : (m : Int) < zs.length := by omega
              have e1 : ((m + 1 : Nat) : Int) - 1 = (m : Int) := by omega
              rw [e1]
              clear e1
              have hlen : pre6.length < b.I.length := by omega
              obtain ⟨z, hz⟩ : ∃ z, zs[m]? = some z := ⟨_, List.getElem?_eq_getElem hmz⟩
              have x16 := K6.box x15 (.inl r1)
              have bb6 := K6.box (K5.box hr.box.box (.inl (r2 _ h.own.1))) (.inl (r2 _ h.own.1))
              have hbx6 := hbx5.same (K6.block (Box.lt ⟨_, hbx5⟩) (.inr (hH2k _ hg2W hg2l)))
              have q36 := q35.same (K6.block (Box.lt ⟨_, q35⟩) (.inr (hH2k _ q4 hgl)))
              have cv6 : wr.cell? ⟨vb, 0, none⟩ = some (.pointer (some ⟨bb, 0, none⟩)) := x16.cell 0
              have c46 : wr.cell? ⟨bb, 4, none⟩ = some (.int .i64 b.base) := bb6.cell 4
              have cg6 : wr.cell? ⟨g2, k, none⟩ = some (.slice (some ⟨g, 0, none⟩) zs.length zs.length) := by
                rw [hbx6.box.cell k, ← hck, hbx5.box.cell k]
              have cz6 : wr.cell? ⟨g, m, none⟩ = some (.int .i64 z) := by
                rw [q36.box.cell m, List.getElem?_toArray, List.getElem?_map, hz]; rfl
              have hbase := hb.base
              have HUP := Lib.hid hup
              clear hup x16 bb6 hbx6 q36 hz
              go_wp2_with fail
              have hsum : wrap64 ((k : Int) + b.base) = (k : Int) + b.base := by unfold wrap64; omega
              have hup2 : pre6.length + b.upTo k + (m + 1) = b.I.length := HUP.out
              refine (wpIn_wide (n := n)).1 (wpInW_region_det_tail 14 (by kernel_rfl) (by kernel_rfl) rfl ?_)
              simp only [List.take_succ_cons, List.take_zero, List.drop_succ_cons, List.drop_zero]
              have p1 := KeptW.cell cv6
              have p2 := KeptW.cell c46
              have p3 := KeptW.cell cg6
              have p4 := KeptW.cell cz6
              clear cv6 c46 cg6 cz6 hup2
              repeat first
                | ((refine det_known (d := 59) (v := .pointer (some ⟨bb, 0, none⟩)) rfl rfl (fun w => by go_simp; first | done | rfl) (by simp only [List.set_cons_zero, List.set_cons_succ]; rfl) ?_))
                | ((refine det_plain rfl ?_); ((with_reducible apply q_ld); rfl; (with_reducible assumption); (simp only [List.set_cons_zero, List.set_cons_succ]; rfl)); (refine wpQuiet_nil ?_))
                | ((refine det_plain rfl ?_); (go_big_quiet_step (fail)); (refine wpQuiet_nil ?_))
              refine wpDet_nil ?_
              intro w7 B7
              have J7 : J H1 pre6 w7 := hJ _ _ _ _ _ Jk (Turn.ofBelow B7) (fun q hq => ⟨.inl hq, by have := (hH1k q hq).2; have := K5.size; have := K6.size; have := B7.size; omega⟩)
              obtain ⟨fn, tmps, assign, body, hy, hRd⟩ := hY _ _ ((k : Int) + b.base, z) w7 J7 hlen (fun q hq => (hH1k q hq).1)
              simp only at hy
              clear p1 p2 p3 p4
              gi_wp2_with fail
              refine ⟨fun h => absurd h (by decide), hRd.mono ?_⟩
              rintro e w8 ⟨rfl, J8, K8⟩
              gi_wp2
              have K8' : Kept (fun q => Rd q ∨ H1 q) _ w8 := K6.trans ((Turn.ofBelow B7).trans K8)
              go_wp2
              go_roundw
              case measure => simp only [intOf]; omega
              case rel => exact ⟨m, pre6 ++ [((k : Int) + b.base, z)], by omega, by go_num, by have := HUP.out; simp; omega, J8, K8'⟩
end Go.Proofs.YtnjmplapjnnjdaaGreat

/- The search of layer 17 as one thing in memory: what it is, and which blocks it holds. -/
namespace Go.Proofs.YtnjmplapjnnjdaaGreat
open Go.RowKit
set_option linter.unusedSimpArgs false
set_option linter.unusedVariables false

structure SeM (w : World) (p : Pb) (D : Int) (most : Nat) (s : Bq) (sb : Nat) (F : Nat → Prop) : Prop where
  ok : s.Ok p D most
  wr : wrap64 s.work = s.work
  se : ∃ b m ids A Wy, A.sb = sb ∧ Se w p D most s b m ids A Wy ∧ m.work = s.work ∧ ∀ k, (A.has k ∨ Wy k) → F k
  lt : ∀ k, F k → k < w.heap.size
theorem SeM.same {w w' : World} {p : Pb} {D : Int} {most : Nat} {s : Bq} {sb : Nat} {F : Nat → Prop} (h : SeM w p D most s sb F) (hs : w.heap.size ≤ w'.heap.size) (hk : ∀ k, F k → w'.heap[k]? = w.heap[k]?) : SeM w' p D most s sb F := by
  obtain ⟨b, m, ids, A, Wy, h1, h2, h3, h4⟩ := h.se
  exact ⟨h.ok, h.wr, ⟨b, m, ids, A, Wy, h1, h2.same hs fun k hk' => hk k (h4 k hk'), h3, h4⟩, fun k hk' => Nat.lt_of_lt_of_le (h.lt k hk') hs⟩
theorem SeM.kept {w w' : World} {p : Pb} {D : Int} {most : Nat} {s : Bq} {sb : Nat} {F : Nat → Prop} (h : SeM w p D most s sb F) (hB : Below w.heap.size w w') : SeM w' p D most s sb F := h.same hB.size fun k hk => hB.block k (h.lt k hk)
theorem SeM.turn {w w' : World} {p : Pb} {D : Int} {most : Nat} {s : Bq} {sb : Nat} {F H : Nat → Prop} (h : SeM w p D most s sb F) (T : Turn H w w') (hn : ∀ k, F k → ¬H k) : SeM w' p D most s sb F := h.same T.size fun k hk => T.block k (h.lt k hk) (hn k hk)
/-- What a call leaves behind that turns the search's own blocks alone. -/
def Grows (F F' : Nat → Prop) (w w' : World) : Prop := Turn F w w' ∧ ∀ k, F' k → F k ∨ (w.heap.size ≤ k ∧ k < w'.heap.size)
theorem Grows.below {F : Nat → Prop} {w w' : World} (hB : Below w.heap.size w w') : Grows F F w w' := ⟨Turn.ofBelow hB, fun k hk => .inl hk⟩
def SeMPost (p : Pb) (D : Int) (most : Nat) (s : Bq) (sb : Nat) (F : Nat → Prop) (w : World) (v : Value) (e : Ending) (w' : World) : Prop :=
  e = .returned v ∧ ∃ F', SeM w' p D most s sb F' ∧ Grows F F' w w'
theorem foldl_work {D : Int} {most : Nat} : ∀ (l : List Ent) (s : Bq), (l.foldl (Bq.put D most) s).work = s.work
  | [], s => rfl
  | x :: l, s => by
    rw [List.foldl_cons, foldl_work l]
    unfold Bq.put
    split <;> rfl
theorem Pb.bstep_work0 (p : Pb) (D : Int) (most : Nat) (s : Bq) : (p.bstep D most s).work = wrap64 (s.work + 1) := by
  unfold Pb.bstep
  split
  · rfl
  · rw [foldl_work]
theorem wrap64_idem (x : Int) : wrap64 (wrap64 x) = wrap64 x := by unfold wrap64; omega
theorem Pb.brun_wr (p : Pb) (D : Int) (most : Nat) : ∀ (k : Nat) (s : Bq), wrap64 s.work = s.work → wrap64 (p.brun D most k s).work = (p.brun D most k s).work
  | 0, s, h => h
  | k + 1, s, h => by
    unfold Pb.brun
    split
    · exact h
    · exact p.brun_wr D most k _ (by rw [p.bstep_work0, wrap64_idem])
/-- Run, whatever the budget is. -/
def Pb.bRun (p : Pb) (D : Int) (most : Nat) (n : Int) (s : Bq) : Bq := if n < 0 ∨ 1048576 < n then s else p.brun D most n.toNat s
def Pb.bAns (p : Pb) (D : Int) (most : Nat) (n : Int) (s : Bq) : Value := if n < 0 ∨ 1048576 < n then .tuple #[.bool false, .int .i64 1] else .tuple #[.bool (p.brun D most n.toNat s).found.isSome, .int .i64 0]
theorem SeM.ofNext {w w' : World} {p : Pb} {D : Int} {most : Nat} {s s' : Bq} {sb : Nat} {F : Nat → Prop} (h : SeM w p D most s sb F) (hs' : s'.Ok p D most) (hwr : wrap64 s'.work = s'.work) {b' : Bk} {m' : Sr} {ids' : List Nat} {A A' : SA} {Wy Wy' : Nat → Prop} (hA : A.sb = sb) (hF : ∀ k, (A.has k ∨ Wy k) → F k)
    (h' : Se w' p D most s' b' m' ids' A' Wy') (hN : SrNext A A' w w') (hW : ∀ k, Wy' k → Wy k ∨ (w.heap.size ≤ k ∧ k < w'.heap.size)) (hm : m'.work = s'.work) : ∃ F', SeM w' p D most s' sb F' ∧ Grows F F' w w' := by
  refine ⟨fun k => A'.has k ∨ Wy' k, ⟨hs', hwr, ⟨b', m', ids', A', Wy', hN.1.1.trans hA, h', hm, fun k hk => hk⟩, fun k hk => hk.elim h'.sr.hasLt fun hk => (h'.wy k hk).2⟩, hN.2.2.mono fun k _ hk => hF k (.inl (.inl hk)), fun k hk => ?_⟩
  rcases hk with (hk | hk) | hk
  · rcases hN.2.1 k hk with h1 | h1
    · exact .inl (hF k (.inl (.inl h1)))
    · exact .inr h1
  · refine .inl (hF k (.inl (.inr ?_)))
    obtain ⟨⟨_, _, q1, q2, q3, q4, _, _⟩, _⟩ := hN
    rw [← q1, ← q2, ← q3, ← q4]
    exact hk
  · exact (hW k hk).imp_left fun h1 => hF k (.inr h1)
theorem SeM.run {w : World} {p : Pb} (hp : p.Ok) (hc : probChk p = 0) {D : Int} {most : Nat} (hm1 : 1 ≤ most) {s : Bq} {sb : Nat} {F : Nat → Prop} (h : SeM w p D most s sb F) (n : Int) :
    Calls Tryz.prog 32 #[.pointer (some ⟨sb, 0, none⟩), .int .i64 n] w (SeMPost p D most (p.bRun D most n s) sb F w (p.bAns D most n s)) := by
  obtain ⟨b, m, ids, A, Wy, rfl, hSe, hwk, hF⟩ := h.se
  unfold Pb.bRun Pb.bAns
  by_cases hb : n < 0 ∨ 1048576 < n
  · rw [if_pos hb, if_pos hb]
    refine (se_Run_bad hSe hb).mono ?_
    rintro e w' ⟨rfl, B⟩
    exact ⟨rfl, F, h.kept B, Grows.below B⟩
  · rw [if_neg hb, if_neg hb]
    refine (se_Run hp hc hm1 h.ok hSe hwk h.wr (n := n) (by omega) (by omega)).mono ?_
    rintro e w' ⟨b', m', ids', A', Wy', rfl, h1, h2, h3, h4⟩
    exact ⟨rfl, h.ofNext (h.ok.run hc hm1 _) (p.brun_wr D most _ _ h.wr) rfl hF h1 h2 h3 h4⟩
def Bq.top_ (D : Int) (s : Bq) : Value := .tuple #[.int .i64 (if s.found.isSome then 0 else topKey D s.L), .bool s.found.isNone]
theorem SeM.top {w : World} {p : Pb} {D : Int} {most : Nat} {s : Bq} {sb : Nat} {F : Nat → Prop} (h : SeM w p D most s sb F) :
    Calls Tryz.prog 21 #[.pointer (some ⟨sb, 0, none⟩)] w (SeMPost p D most s sb F w (s.top_ D)) := by
  obtain ⟨b, m, ids, A, Wy, rfl, hSe, hwk, hF⟩ := h.se
  refine (se_Top h.ok hSe).mono ?_
  rintro e w' ⟨A', rfl, h1, h2⟩
  exact ⟨rfl, h.ofNext h.ok h.wr rfl hF h1 h2 (fun k hk => .inl hk) hwk⟩
theorem SeM.mark {w : World} {p : Pb} {D : Int} {most : Nat} {s : Bq} {sb : Nat} {F : Nat → Prop} (h : SeM w p D most s sb F) :
    Pure Tryz.prog 23 #[.pointer (some ⟨sb, 0, none⟩)] w (.tuple #[.int .i64 s.gone, .bool s.some_]) := by
  obtain ⟨b, m, ids, A, Wy, rfl, hSe, hwk, hF⟩ := h.se
  exact se_Mark hSe
theorem SeM.res {w : World} {p : Pb} (hc : probChk p = 0) {D : Int} {most : Nat} {s : Bq} {sb : Nat} {F : Nat → Prop} (h : SeM w p D most s sb F) :
    Calls Tryz.prog 28 #[.pointer (some ⟨sb, 0, none⟩)] w (ResPostB (p.bres D s) w) := by
  obtain ⟨b, m, ids, A, Wy, rfl, hSe, hwk, hF⟩ := h.se
  exact se_Result hc h.ok hSe hwk
def SeMNew (p : Pb) (cap D : Int) (w : World) (e : Ending) (w' : World) : Prop :=
  (if newE p cap D = 0 then ∃ sb F, e = .returned (.tuple #[.pointer (some ⟨sb, 0, none⟩), .int .i64 0]) ∧ SeM w' p D cap.toNat (Bq.start D cap.toNat) sb F ∧ ∀ k, F k → w.heap.size ≤ k
    else e = .returned (.tuple #[.pointer none, .int .i64 (newE p cap D)])) ∧ Below w.heap.size w w'
theorem seM_New (p : Pb) (a : Option Addr) (ca : Nat) (cap D : Int) (hp : p.Ok) (w : World) (hw : Bytes w a p.B) :
    Calls Tryz.prog 5 #[.agg (p.cells (.slice a p.B.length ca)), .int .i64 cap, .int .i64 D] w (SeMNew p cap D w) := by
  refine (se_New p a ca cap D hp w hw).mono ?_
  rintro e w' ⟨h, B⟩
  refine ⟨?_, B⟩
  by_cases hz : newE p cap D = 0
  · rw [if_pos hz] at h ⊢
    obtain ⟨b, m, ids, A, Wy, rfl, h1, h2, h3⟩ := h
    obtain ⟨hc, c1, c2, d1, d2, _⟩ := newE_zero hz
    have hm : 1 ≤ cap.toNat := by omega
    have hwk0 : (Bq.start D cap.toNat).work = 0 := (Bq.put_facts (D := D) (most := cap.toNat) hm (s := ⟨[], 0, 0, 0, false, none⟩) (Nat.zero_le _) ent0).2.2.2.2
    exact ⟨A.sb, fun k => A.has k ∨ Wy k, rfl, ⟨Bq.Ok.start hm, by rw [hwk0]; unfold wrap64; omega, ⟨b, m, ids, A, Wy, rfl, h1, by rw [h2, hwk0], fun k hk => hk⟩, fun k hk => hk.elim h1.sr.hasLt fun hk => (h1.wy k hk).2⟩, h3⟩
  · rw [if_neg hz] at h ⊢
    exact h
end Go.Proofs.YtnjmplapjnnjdaaGreat

/- The search of layer 17: Size. -/
namespace Go.Proofs.YtnjmplapjnnjdaaGreat
open Go.RowKit Go.Shelf
attribute [local go_sem] Oper.semAt_some
set_option linter.unusedSimpArgs false
set_option linter.unusedVariables false

set_option maxRecDepth 5000 in
set_option maxHeartbeats 1000000 in
theorem se_Size {w : World} {p : Pb} {D : Int} {most : Nat} {s : Bq} {b : Bk} {m : Sr} {ids : List Nat} {A : SA} {Wy : Nat → Prop} (h : Se w p D most s b m ids A Wy) :
    Pure Tryz.prog 25 #[.pointer (some ⟨A.sb, 0, none⟩)] w (.int .i64 s.L.length) := by
  have hil := h.rel.ilen
  have hbl : b.I.length ≤ 70000 := by have := h.bok.len; have := h.bok.c1; omega
  refine (callsIn_wide (n := 3)).1 (callsIn_of_wp_marks Tryz.func25 rfl trivial ?_ rfl)
  simp only [Tryz.ntmps25, List.size_toArray, List.length_cons, List.length_nil, Nat.reduceAdd, Nat.reduceSub, Array.replicate_succ, Array.replicate_zero, List.push_toArray, List.append_toArray, List.nil_append, List.cons_append]
  refine wpIn_wide.2 ?_
  rw [← hil]
  have HIL := Lib.hid hil
  clear hil
  go_wp2_with fail
  refine (sr_good _ h.sr).mono ?_
  rintro e w1 ⟨rfl, B1⟩
  have h1 := h.kept B1
  go_upto_region 4 with (fail)
  refine name1 ?_
  intro w7 b7 B7
  have h7 := h1.kept B7
  have hs7 := b7.lt
  have B70 := bOn B1 B7
  have c3 := h7.sr.cells.c3
  go_wp2_with fail
  refine (bk_All A.bb w7).mono ?_
  rintro e w2 ⟨vb, rfl, z1, hv, B2⟩
  have h2 := h7.kept B2
  have B20 := bOn B70 B2
  have b72 := b7.kept B2
  have hs2 := B2.size
  have hsw := B1.size
  have hvl := z1.lt
  obtain ⟨Rd, hRd⟩ : ∃ Rd : Nat → Prop, Rd = fun k => k < w1.heap.size ∨ k = vb := ⟨_, rfl⟩
  have Rold : ∀ k, k < w1.heap.size → Rd k := fun k h => by rw [hRd]; exact .inl h
  have Rvb : Rd vb := by rw [hRd]; exact .inr rfl
  have R3 : ∀ k, Rd k → k < w2.heap.size ∧ k ≠ w1.heap.size := fun k h => by
    rw [hRd] at h
    rcases h with h | rfl <;> omega
  have hOB : ∀ k, A.OB k → Rd k := fun k hk => Rold k (by have := (h1.sr.low.1 k hk).2; omega)
  have hbok := h.bok
  have hbk2 := h2.sr.bk
  clear hRd c3 h h1 h7 h2 b7
  go_wp2_with fail
  refine (wpIn_wide (n := 3)).1 (wp_rangeSeq (n := 3) (gf := 70) (lb := #[.pointer (some ⟨vb, 0, none⟩)]) rfl (EnterF.out (P := Tryz.prog)) (encs := fun x : Int × Int => #[.int .i64 x.1, .int .i64 x.2]) (S := fun xs => xs.length = b.I.length) (N := b.I.length) (Rd := Rd) ?hseq (fun k hk => (R3 k hk).1) (fun x => rfl)
    (fun _ pre A => Box A w1.heap.size #[.int .i64 (pre.length : Int)] ∧ Below w1.heap.size w1 A ∧ w2.heap.size ≤ A.heap.size) ?hI ⟨b72, B7.trans (B2.mono (by omega)), Nat.le_refl _⟩ ?hround ?hdone)
  case hseq =>
    intro A' hA
    exact bk_all_seq hbok Rd A' _ (z1.kept hA) (hbk2.kept hA) Rvb hOB (fun k hk => by have := (R3 k hk).1; have := hA.size; omega)
  case hI =>
    rintro H H' s A A' ⟨i1, i4, i5⟩ hT hH hH'
    exact ⟨hT.box i1 (fun hx => by have := hH _ hx; omega), i4.trans (hT.below fun k hk => ⟨by omega, fun hx => by have := hH _ hx; omega⟩), Nat.le_trans i5 hT.size⟩
  case hround =>
    rintro l2 H pre x A' ⟨i1, i4, i5⟩ hlen hH hl2
    gi_wp2
    refine ⟨Turn.refl _ _, fun w5 hT5 => ?_⟩
    have hgl2 := (hH _ hl2).1
    have i15 : Box w5 w1.heap.size #[.int .i64 (pre.length : Int)] := hT5.box i1 (by omega)
    have B15 : Below w1.heap.size w1 w5 := i4.trans (hT5.below fun k hk => ⟨by omega, by omega⟩)
    have hsz5 := hT5.size
    have c4 := i15.cell 0
    have z4 := i15.frozen 0
    simp only [List.getElem?_toArray, List.getElem?_cons_zero] at c4
    have hpl : (pre.length : Int) ≤ 70000 := by omega
    have i16 : Box (w5.setCell ⟨w1.heap.size, 0, none⟩ (.int .i64 ((pre.length : Int) + 1))) w1.heap.size #[.int .i64 ((pre ++ [x]).length : Int)] := (i15.setCell (i := 0) (.int .i64 ((pre.length : Int) + 1))).cast (by rw [List.length_append, List.length_singleton]; rfl)
    have B16 : Below w1.heap.size w1 (w5.setCell ⟨w1.heap.size, 0, none⟩ (.int .i64 ((pre.length : Int) + 1))) := B15.setCell (p := ⟨w1.heap.size, 0, none⟩) (Nat.le_refl _) _
    have K6 : Kept (fun k => Rd k ∨ H k) w5 (w5.setCell ⟨w1.heap.size, 0, none⟩ (.int .i64 ((pre.length : Int) + 1))) := Turn.setCell _ _ _ (fun hx => by
      rcases hx with hx | hx
      · exact (R3 _ hx).2 rfl
      · have h9 : w2.heap.size ≤ w1.heap.size := (hH _ hx).1
        omega)
    have hl16 : w2.heap.size ≤ (w5.setCell ⟨w1.heap.size, 0, none⟩ (.int .i64 ((pre.length : Int) + 1))).heap.size := by simp; omega
    have FIN := Lib.hid (And.intro K6 (And.intro i16 (And.intro B16 hl16)))
    clear K6 i16 B16 hl16 i15 B15 i1 i4 hgl2 hsz5
    gi_wp2
    exact (show roundEnds _ _ _ _ _ .normal _ _ from FIN.out)
  case hdone =>
    rintro H xs A' hxs ⟨i1, i4, i5⟩ hH hHD hD
    rw [hxs] at i1
    have c4 := i1.cell 0
    have z4 := i1.frozen 0
    simp only [List.getElem?_toArray, List.getElem?_cons_zero] at c4
    go_wp2
    refine ⟨by simp, .inl ⟨_, _, rfl, run_takeDeferred hD, ?_⟩⟩
    have hT : Turn (fun k => k = w2.heap.size) A' (A'.putObj w2.heap.size (.deferred none)) := Turn.putObj _ _ rfl
    refine ⟨_, results_tmp rfl _ _ _, rfl, ?_⟩
    exact (B1.trans ((i4.trans (hT.below fun k hk => ⟨by omega, by omega⟩)).mono hsw))
theorem SeM.size {w : World} {p : Pb} {D : Int} {most : Nat} {s : Bq} {sb : Nat} {F : Nat → Prop} (h : SeM w p D most s sb F) :
    Pure Tryz.prog 25 #[.pointer (some ⟨sb, 0, none⟩)] w (.int .i64 s.L.length) := by
  obtain ⟨b, m, ids, A, Wy, rfl, hSe, hwk, hF⟩ := h.se
  exact se_Size hSe
end Go.Proofs.YtnjmplapjnnjdaaGreat
