/- The walk of the making of a tree: the program's. -/
import Derived.Test.YtiiljecocajdpaaRange
import Derived.Test.YtiiljecocajdpaaScoreB
namespace Go.Proofs.Ytiiljecocajdpaa
open Go.RowKit

theorem Box.cast {w : World} {b : Nat} {cs cs' : Array Value} (h : Box w b cs) (he : cs = cs') : Box w b cs' := he ▸ h
theorem Box.store {P : Program} {w : World} {b i : Nat} {cs : Array Value} {v : Value} (h : Box w b cs) (hi : i < cs.size) (hv : (∀ xs, v ≠ .agg xs) ∧ (∀ xs, v ≠ .tuple xs)) : (store ⟨b, i, none⟩ v).run P w = .ok () (w.setCell ⟨b, i, none⟩ v) := by
  have hc := h.cell i
  rw [Array.getElem?_eq_getElem hi] at hc
  have hf := h.frozen i
  cases v with
  | agg xs => exact absurd rfl (hv.1 xs)
  | tuple xs => exact absurd rfl (hv.2 xs)
  | _ => simp [Go.store, Sem.run, hc, hf]
theorem Bytes.block {w w' : World} {g : Nat} {l : List Nat} (h : Bytes w (some ⟨g, 0, none⟩) l) (hk : w'.heap[g]? = w.heap[g]?) : Bytes w' (some ⟨g, 0, none⟩) l :=
  ⟨fun k hk' => by
    obtain ⟨b, o, ha, hc⟩ := h.cell k hk'
    obtain ⟨rfl, rfl⟩ : g = b ∧ 0 = o := by simpa using ha
    exact ⟨g, 0, rfl, (World.cell?_of_block hk).trans hc⟩, h.lt⟩
theorem own_bytes {w : World} {base e g n c : Nat} {bs : List Nat} (h : w.ownsRow base e 1 (.slice (some ⟨g, 0, none⟩) n c) n (u8s bs)) (hl : ∀ x ∈ bs, x < 256) : Bytes w (some ⟨g, 0, none⟩) bs :=
  ⟨fun k hk => ⟨g, 0, rfl, by rw [Nat.zero_add]; exact own_cell h (u8s_get hk)⟩, hl⟩
/-- THE ARM for 'append([]byte(nil), b...)' of a row that is not empty. -/
theorem apNilB {P : Program} {ops : Array Oper} {rest : List Oper} {l : List Value} {ds : List Deferred} {w : World} {Q : Exit → Act → World → Prop} {t e d m c : Nat} {s x : Operand} {z : Value} {a : Option Addr} {bs : List Nat} {ty : TypeId} {ps : String} {af : Array Edge}
    [S : SlTy P t e] [E : ElTy P e z 1 1] (hb : Bytes w a bs) (hs : (Act.mk l.toArray ds).eval s = .slice none 0 0) (hx : (Act.mk l.toArray ds).eval x = .slice a m c) (hl : bs.length = m) (h0 : m ≠ 0) (hbytes : m ≤ 140737488355328)
    (h : ∀ cap w', m ≤ cap → w'.ownsRow w.heap.size e 1 (.slice (some ⟨w.heap.size, 0, none⟩) m cap) m (u8s bs) → Below w.heap.size w w' → w.heap.size < w'.heap.size → wpList P ops Q rest ⟨(l.set d (.slice (some ⟨w.heap.size, 0, none⟩) m cap)).toArray, ds⟩ w') :
    wpList P ops Q (⟨some d, .call { callee := .builtin .append, args := #[s, x], argTypes := #[t, t] }, ty, ps, af, none⟩ :: rest) ⟨l.toArray, ds⟩ w := by
  refine apB (World.ownsRow_nil w w.heap.size e 1) hb hs hx hl (by omega) (Nat.le_refl _) ?_
  intro v' w' hown hgr hat
  simp only [Nat.zero_add, List.nil_append] at hown
  have hbk : v'.ownBlock = some w.heap.size := by
    rcases hat with hat | hat
    · exfalso
      rcases hown.2 with ⟨rfl, h1⟩ | ⟨g, cap, cur, rfl, _⟩
      · exact h0 h1
      · cases hat
    · exact hat
  obtain ⟨cap, rfl, hcap⟩ := own_form hown hbk
  exact h cap w' hcap hown (own_below (World.ownsRow_nil w w.heap.size e 1) hgr (Nat.le_refl _)) (hown.lt _ rfl).2
/-- The cells of a tree. -/
def treeCells (p : Pb) (pb rb : Nat) : Array Value := #[.int .i64 p.N, .int .u64 (2 ^ (p.C.K.toNat - 1)), .func (.func 58) #[] #[.pointer (some ⟨pb, 0, none⟩), .pointer (some ⟨rb, 0, none⟩)], .int .i64 (min (p.C.R * p.N * p.T.lo) 0), .int .i64 (max (p.C.R * p.N * p.T.hi) 0), .int .i64 p.L]
/-- A tree that was made of a problem. -/
structure TreeIn (w : World) (p : Pb) (tb pb rb g c : Nat) : Prop where
  tree : Box w tb (treeCells p pb rb)
  prob : Box w pb (p.cells (.slice (some ⟨g, 0, none⟩) p.B.length c))
  rate : Box w rb #[.int .i64 p.C.R]
  win : Bytes w (some ⟨g, 0, none⟩) p.B
  cap : p.B.length ≤ c
theorem TreeIn.kept {w w' : World} {p : Pb} {tb pb rb g c : Nat} (h : TreeIn w p tb pb rb g c) (hB : Below w.heap.size w w') : TreeIn w' p tb pb rb g c := ⟨h.tree.kept hB, h.prob.kept hB, h.rate.kept hB, h.win.kept hB, h.cap⟩
theorem nameAny {P : Program} {c : Code} {Q : Exit → Act → World → Prop} {a : Act} {w : World} (R : World → Prop) (hR : R w) (h : ∀ w0, R w0 → c.wp P Q a w0) : c.wp P Q a w := h w hR

/-- What the making of a tree of a good problem leaves. -/
def NewPost (p : Pb) (w : World) (e : Ending) (w' : World) : Prop := (∃ tb pb rb g c, e = .returned (.tuple #[.pointer (some ⟨tb, 0, none⟩), .int .i64 0]) ∧ TreeIn w' p tb pb rb g c ∧ (w.heap.size ≤ tb ∧ w.heap.size ≤ pb ∧ w.heap.size ≤ rb ∧ w.heap.size ≤ g)) ∧ Below w.heap.size w w'
theorem tree_New_bad (p : Pb) (a : Option Addr) (cap : Nat) (hp : p.Ok) (h : probChk p ≠ 0) (w : World) (hw : Bytes w a p.B) :
    Pure Try.prog 17 #[.agg (p.cells (.slice a p.B.length cap))] w (.tuple #[.pointer none, .int .i64 (probChk p)]) := by
  have hb := Box.new w (p.cells (.slice a p.B.length cap)) 32
  obtain ⟨fk, fr, flev, fl, fwin, fcode, ftable, fall⟩ := hb.prob hp
  have hc : (probChk p != 0) = true := by simp [h]
  go_enter Try.func17, Try.ntmps17
  go_wp2_with ((with_reducible apply ld); rfl; (with_reducible assumption); (simp only [List.set_cons_zero, List.set_cons_succ]; rfl))
  refine (score_Check p a cap hp _ (hw.below ((Below.refl _ _).alloc (Nat.le_refl _) _) (Nat.le_refl _))).mono ?_
  rintro e w1 ⟨rfl, B1⟩
  clear fk fr flev fl fwin fcode ftable fall hb
  go_wp2
  go_ret2
  exact ⟨rfl, ((Below.refl _ w).alloc (Nat.le_refl _) _).trans (B1.mono (by simp))⟩

set_option maxRecDepth 5000 in
set_option maxHeartbeats 1000000 in
theorem tree_New (p : Pb) (a : Option Addr) (cap : Nat) (hp : p.Ok) (h : probChk p = 0) (w : World) (hw : Bytes w a p.B) :
    Calls Try.prog 17 #[.agg (p.cells (.slice a p.B.length cap))] w (NewPost p w) := by
  obtain ⟨⟨k1, k2⟩, l1, l2, cr, hwin, ⟨v1, v2⟩, hlev, hcc, htt⟩ := probChk_ok h
  have hb := Box.new w (p.cells (.slice a p.B.length cap)) 32
  obtain ⟨fk, fr, flev, fl, fwin, fcode, ftable, fall⟩ := hb.prob hp
  have HB := Lib.hid hb; clear hb
  have hne : p.B.length ≠ 0 := by
    have h1 : 3 ≤ p.N := by unfold Pb.N; omega
    rcases cr with h | h <;> rw [h] at hwin <;> omega
  have hn : p.B.length ≤ 140737488351232 := by
    have h1 : p.N ≤ 1056 := by unfold Pb.N; omega
    rcases cr with h | h <;> rw [h] at hwin <;> omega
  have HWIN := Lib.hid hwin; clear hwin
  have HCR := Lib.hid cr; clear cr
  go_enter Try.func17, Try.ntmps17
  go_wp2_with ((with_reducible apply ld); rfl; (with_reducible assumption); (simp only [List.set_cons_zero, List.set_cons_succ]; rfl))
  refine (score_Check p a cap hp _ (hw.below ((Below.refl _ _).alloc (Nat.le_refl _) _) (Nat.le_refl _))).mono ?_
  rintro e w1 ⟨rfl, B1⟩
  rw [h]
  clear fk fr flev fl fwin fcode ftable fall
  have B10 : Below w.heap.size w w1 := ((Below.refl _ w).alloc (Nat.le_refl _) _).trans (B1.mono (by simp))
  have hb1 := HB.out.kept B1
  clear HB B1
  obtain ⟨fk, fr, flev, fl, fwin, fcode, ftable, fall⟩ := hb1.prob hp
  have hsz1 := B10.size
  have hbw1 := hw.below B10 (Nat.le_refl _)
  have c39 := hb1.cell 39
  rw [hp.cell39] at c39
  go_upto_region 6 with (at_builtin; refine apNilB hbw1 rfl rfl rfl hne (by omega) ?_; intro c w2 hcap hown2 B2 hlt2; have hz39 := (hb1.kept B2).frozen 39; have hc39 := (B2.cell hb1.lt).trans c39; have hR : (w2.setCell ⟨w.heap.size, 39, none⟩ (.slice (some ⟨w1.heap.size, 0, none⟩) p.B.length c)).cell? ⟨w.heap.size, 1, none⟩ = some (.int .i64 p.C.R) := by rw [((hb1.kept B2).setCell (i := 39) _).cell, hp.set39, hp.cellc _ (by omega)]; rfl)
  have hbp := (hb1.kept B2).setCell (i := 39) (.slice (some ⟨w1.heap.size, 0, none⟩) p.B.length c)
  rw [hp.set39] at hbp
  refine nameAny (fun W => Box W w.heap.size (p.cells (.slice (some ⟨w1.heap.size, 0, none⟩) p.B.length c)) ∧ Box W w2.heap.size #[.int .i64 p.C.R] ∧ Bytes W (some ⟨w1.heap.size, 0, none⟩) p.B ∧ Below w.heap.size w W) ⟨hbp.alloc _, by simpa using Box.new (w2.setCell ⟨w.heap.size, 39, none⟩ (.slice (some ⟨w1.heap.size, 0, none⟩) p.B.length c)) #[.int .i64 p.C.R] 3, ((own_bytes hown2 hw.lt).block (Below.heap_setCell _ _ _ _ (by have := hb1.lt; simp; omega))).kept ((Below.refl _ _).alloc (Nat.le_refl _) _), (B10.trans (B2.mono hsz1)).trans (((Below.refl w.heap.size w2).setCell (p := ⟨w.heap.size, 39, none⟩) (Nat.le_refl _) _).alloc (by simp; omega) _)⟩ ?_
  have b1lt := hb1.lt
  clear fk fr flev fl fwin fcode ftable fall hbp hR hc39 hz39 hown2 c39 hbw1
  rintro w3 ⟨b1, b5, bB, B30⟩
  obtain ⟨fk, fr, flev, fl, fwin, fcode, ftable, fall⟩ := b1.prob hp
  have hshl := one_shl64 k1 k2
  rw [Int.one_mul] at hshl
  have hNw : wrap64 (wrap64 (p.L + p.C.K) - 1) = p.N := by unfold wrap64 Pb.N; omega
  (refine wp_region_kept_tail 15 (by kernel_rfl) (by kernel_rfl) ?_; simp only [List.take_succ_cons, List.take_zero, List.drop_succ_cons, List.drop_zero])
  have q0 := KeptW.cell fk
  have q38 := KeptW.cell fl
  clear fk fl
  repeat first
    | ((with_reducible apply q_ld); rfl; (with_reducible assumption); (simp only [List.set_cons_zero, List.set_cons_succ]; rfl))
    | go_big_quiet_step (fail)
  refine wpQuiet_nil ?_
  intro w4 B4
  go_upto_region 7 with (fail)
  refine name1 ?_
  intro w5 bt B5
  have B50 : Below w.heap.size w w5 := (B30.trans (B4.mono B30.size)).trans (B5.mono (Nat.le_trans B30.size B4.size))
  have b15 := (b1.kept B4).kept B5
  have b55 := (b5.kept B4).kept B5
  have bB5 := (bB.kept B4).kept B5
  clear fr flev fwin fcode ftable fall q0 q38 hNw hshl
  obtain ⟨fk, fr, flev, fl, fwin, fcode, ftable, fall⟩ := b15.prob hp
  have g5 := b55.cell 0
  have gt0 := bt.cell 0
  simp only [List.getElem?_toArray, List.getElem?_cons_zero] at g5 gt0
  have htw : w4.heap.size < w5.heap.size := bt.lt
  have hw4 : w.heap.size ≤ w4.heap.size := Nat.le_trans B30.size B4.size
  refine wp_region_kept (by kernel_rfl) (by kernel_rfl) ?_
  have q0 := KeptW.cell g5
  have q1 := KeptW.cell gt0
  repeat first
    | ((with_reducible apply q_ld); rfl; (with_reducible assumption); (simp only [List.set_cons_zero, List.set_cons_succ]; rfl))
    | go_big_quiet_step (exact Calls.kept (metric_Range p.T hp.t htt p.C.R HCR.out (p.L + p.C.K - 1) (by omega) (by omega) _))
  refine wpQuiet_nil ?_
  intro w6 B6
  have bt6 := bt.kept B6
  have b16 := b15.kept B6
  have b56 := b55.kept B6
  have bB6 := bB5.kept B6
  have B60 := B50.trans (B6.mono B50.size)
  clear fk fr flev fl fwin fcode ftable fall q0 q1 g5 gt0
  have c2 := bt6.cell 2
  have c3 := bt6.cell 3
  have c4 := bt6.cell 4
  simp only [List.getElem?_toArray, List.getElem?_cons_zero, List.getElem?_cons_succ] at c2 c3 c4
  have z2 := bt6.frozen 2
  have z3 := bt6.frozen 3
  have z4 := bt6.frozen 4
  have hb5lt := b5.lt
  have hB4s := B4.size
  have hB6s := B6.size
  have hs2 := fun x y => ((bt6.setCell (i := 3) x).setCell (i := 4) y).store (P := Try.prog) (i := 2) (v := .func (.func 58) #[] #[.pointer (some ⟨w.heap.size, 0, none⟩), .pointer (some ⟨w2.heap.size, 0, none⟩)]) (by simp) ⟨fun _ h => (by cases h), fun _ h => (by cases h)⟩
  have hNN : p.L + p.C.K - 1 = p.N := rfl
  have HNN := Lib.hid hNN; clear hNN
  go_wp2
  all_goals go_ret2
  all_goals refine (show NewPost _ _ _ _ from ⟨⟨w4.heap.size, w.heap.size, w2.heap.size, w1.heap.size, c, rfl, ⟨?_, ((b16.setOther (by simp; omega) _).setOther (by simp; omega) _).setOther (by simp; omega) _, ((b56.setOther (by simp; omega) _).setOther (by simp; omega) _).setOther (by simp; omega) _, bB6.block ?_, hcap⟩, by omega, Nat.le_refl _, by omega, by omega⟩, B60.trans ((((Below.refl _ _).setCell (by simp; omega) _).setCell (by simp; omega) _).setCell (by simp; omega) _)⟩)
  all_goals first
    | (rw [Below.heap_setCell _ _ _ _ (by simp; omega), Below.heap_setCell _ _ _ _ (by simp; omega), Below.heap_setCell _ _ _ _ (by simp; omega)]; done)
    | (refine (((bt6.setCell _).setCell _).setCell _).cast ?_; simp [treeCells, Pb.N]; omega)
end Go.Proofs.Ytiiljecocajdpaa
