import Derived.Test.YtkjnmjilkhigaaaKnow
import Derived.ProofKit
import Derived.OpenShut
import Derived.ShutString
import Derived.ChangeOld
import Derived.Below
import Derived.SizedLaws
import Derived.Deep.Slices
set_option linter.unusedSimpArgs false
set_option linter.unusedVariables false
set_option linter.unnecessarySimpa false
/- Arguments opened: a problem, a node, lists of bytes, of integers and of nodes, as data say them. -/
namespace Go.Proofs.Ytkjnmjilkhigaaa
open Go.RowKit Go.ChangeShapes Go.WideShapes Go.ChangeAt

/-- A node whose numbers fit their kinds. -/
structure Nd.Ok (n : Nd) : Prop where
  s0 : 0 ≤ n.s
  s1 : n.s < 4294967296
  d0 : -9223372036854775808 ≤ n.d
  d1 : n.d ≤ 9223372036854775807
  m0 : -9223372036854775808 ≤ n.m
  m1 : n.m ≤ 9223372036854775807

section
variable {H : Type} {enc : TypeId × Value → H} {P : Program} {w : World} {base : Nat} {sp : Nat → Bool} {held : Bool}

/-- Whatever reads as data of this type is c integers of kind k. -/
def IntsOf (enc : TypeId × Value → H) (P : Program) (w : World) (base : Nat) (sp : Nat → Bool) (held : Bool) (k : IntKind) (c : Nat) (t : TypeId) : Prop :=
  ∀ fuel cs x, DataW.trod enc P w base sp held fuel t cs = some x → ∃ zs : List Int, cs = zs.map (Value.int k) ∧ zs.length = c ∧ ∀ z ∈ zs, (Lit.int k z).wf = true
theorem IntsOf.one {k : IntKind} {t : TypeId} (ht : P.underlying t = some (.int k)) : IntsOf enc P w base sp held k 1 t := fun fuel cs x h => by
  obtain ⟨n, rfl, _, hw⟩ := DataW.trod_int ht h
  exact ⟨[n], rfl, rfl, by simpa using hw⟩
theorem IntsOf.array {k : IntKind} {t e : TypeId} {c n : Nat} (ht : P.underlying t = some (.array n e)) (he : IntsOf enc P w base sp held k c e) (hc : P.cellsOf e = c) (hn : P.cellsOf t = n * c) : IntsOf enc P w base sp held k (n * c) t := fun fuel cs x h => by
  obtain ⟨xs, m, rfl, _, hl, hxs, hall⟩ := DataW.trod_array ht h
  rw [hc] at hall
  have upto : ∀ j, j ≤ n → ∃ zs : List Int, cs.take (j * c) = zs.map (Value.int k) ∧ zs.length = j * c ∧ ∀ z ∈ zs, (Lit.int k z).wf = true := by
    intro j
    induction j with
    | zero => intro _; exact ⟨[], by simp, by simp, by simp⟩
    | succ j ih =>
      intro hj
      obtain ⟨zs, h1, h2, h3⟩ := ih (by omega)
      have h4 := hall j (by omega)
      rw [List.getElem?_eq_getElem (by omega)] at h4
      obtain ⟨ys, e1, e2, e3⟩ := he _ _ _ h4
      refine ⟨zs ++ ys, ?_, by rw [List.length_append, h2, e2, Nat.succ_mul], ?_⟩
      · rw [Nat.succ_mul, List.take_add, h1, e1, List.map_append]
      · intro z hz
        rcases List.mem_append.1 hz with hz | hz
        · exact h3 z hz
        · exact e3 z hz
  obtain ⟨zs, h1, h2, h3⟩ := upto n (Nat.le_refl _)
  rw [List.take_of_length_le (by omega)] at h1
  exact ⟨zs, h1, h2, h3⟩

theorem bd_i64 {z : Int} (h : (Lit.int .i64 z).wf = true) : -9223372036854775808 ≤ z ∧ z ≤ 9223372036854775807 := by
  simp [Lit.wf, IntKind.min, IntKind.max, IntKind.signed, IntKind.bits] at h
  omega
theorem bd_u32 {z : Int} (h : (Lit.int .u32 z).wf = true) : 0 ≤ z ∧ z < 4294967296 := by
  simp [Lit.wf, IntKind.min, IntKind.max, IntKind.signed, IntKind.bits] at h
  omega
theorem bd_u8 {z : Int} (h : (Lit.int .u8 z).wf = true) : 0 ≤ z ∧ z < 256 := by
  simp [Lit.wf, IntKind.min, IntKind.max, IntKind.signed, IntKind.bits] at h
  omega
theorem parts5 {α : Type} {cs : List α} (h : cs.length = 5) : cs = (cs.drop 0).take 1 ++ ((cs.drop 1).take 1 ++ (cs.drop 2).take 3) := by
  match cs, h with
  | [a, b, c, d, e], _ => rfl

/-- A row of bytes that came in. -/
theorem open_bytes {t e : TypeId} {fuel : Nat} {cs : List Value} {x : DataW H × List MemPlace} (ht : P.underlying t = some (.slice e)) (he : P.underlying e = some (.int .u8)) (hc : P.cellsOf e = 1)
    (h : DataW.trod enc P w base sp held fuel t cs = some x) : ∃ (a : Option Addr) (cap : Nat) (l : List Nat), cs = [.slice a l.length cap] ∧ Bytes w a l ∧ (l.length : Int) ≤ 9223372036854775807 ∧ (l = [] ∨ ∃ el sp, x.1 = .slice el sp ∧ el.length = l.length) := by
  rcases open_ints ht he hc h with ⟨rfl, _⟩ | ⟨a, len, cap, zs, rfl, _, hl, hm, hz, hx, hcell, hwf⟩
  · exact ⟨none, 0, [], rfl, ⟨fun k hk => by simp at hk, by simp⟩, by simp, .inl rfl⟩
  · have hlz : len ≤ zs.length := by rw [hz]; split <;> omega
    have hlen : ((zs.take len).map Int.toNat).length = len := by simp; omega
    refine ⟨some a, cap, (zs.take len).map Int.toNat, by rw [hlen], ⟨fun k hk => ?_, ?_⟩, ?_, .inr ⟨_, _, by rw [hx], by rw [hlen]; simp [lits]; omega⟩⟩
    · rw [hlen] at hk
      obtain ⟨b, off, spot⟩ := a
      have hk2 : k < zs.length := by omega
      have hcl := hcell k hk2
      have hspot : spot = none := by simpa [Addr.add] using World.cell?_spot (hcell 0 (by omega))
      subst hspot
      refine ⟨b, off, rfl, ?_⟩
      have hadd : (⟨b, off, none⟩ : Addr).add k = ⟨b, off + k, none⟩ := by unfold Addr.add; split <;> simp_all
      rw [hadd] at hcl
      rw [hcl]
      have hb := bd_u8 (hwf zs[k] (List.getElem_mem hk2))
      simp [List.getD, List.getElem?_eq_getElem hk2]
      omega
    · intro y hy
      simp only [List.mem_map] at hy
      obtain ⟨z, hz1, rfl⟩ := hy
      have := bd_u8 (hwf z (List.mem_of_mem_take hz1))
      omega
    · rw [hlen]
      unfold maxLen at hm
      omega
end


section
variable {H : Type} {enc : TypeId × Value → H} {w : World} {base : Nat} {sp : Nat → Bool} {held : Bool} {fuel : Nat} {cs : List Value} {x : DataW H × List MemPlace}
theorem get_some {α : Type} {xs : List α} {n i : Nat} (h : xs.length = n) (hi : i < n) : ∃ y, xs[i]? = some y := ⟨xs[i]'(by omega), List.getElem?_eq_getElem (by omega)⟩
theorem one_of {α : Type} {cs : List α} {y : α} {i : Nat} (h : (cs.drop i).take 1 = [y]) : cs[i]? = some y := by
  have := congrArg (·[0]?) h
  simpa [List.getElem?_take, List.getElem?_drop] using this

theorem parts40 {α : Type} {cs : List α} (h : cs.length = 40) : cs = (cs.drop 0).take 5 ++ ((cs.drop 5).take 33 ++ ((cs.drop 38).take 1 ++ (cs.drop 39).take 1)) := by
  have h1 : (cs.drop 38).take 1 ++ (cs.drop 39).take 1 = cs.drop 38 := by
    rw [List.take_of_length_le (l := cs.drop 39) (by simp; omega)]
    have := List.take_append_drop 1 (cs.drop 38)
    rwa [List.drop_drop] at this
  have h2 : (cs.drop 5).take 33 ++ cs.drop 38 = cs.drop 5 := by
    have := List.take_append_drop 33 (cs.drop 5)
    rwa [List.drop_drop] at this
  rw [h1, h2, List.drop_zero, List.take_append_drop]
theorem open_code (h : DataW.trod enc Try.prog w base sp held fuel 25 cs = some x) : ∃ c : Cd, c.Ok ∧ cs = c.cells.toList := by
  obtain ⟨xs, n, rfl, _, hl, hxs, hall⟩ := DataW.trod_struct Try.underlying25 h
  have h5 : cs.length = 5 := hl.trans (by kernel_rfl)
  have f0 : DataW.trod enc Try.prog w base sp held n 3 ((cs.drop 0).take (Try.prog.cellsOf 3)) = xs[0]? := hall 0 _ rfl
  have f1 : DataW.trod enc Try.prog w base sp held n 3 ((cs.drop 1).take (Try.prog.cellsOf 3)) = xs[1]? := hall 1 _ rfl
  have f2 : DataW.trod enc Try.prog w base sp held n 23 ((cs.drop 2).take (Try.prog.cellsOf 23)) = xs[2]? := hall 2 _ rfl
  obtain ⟨y0, e0⟩ := get_some (i := 0) hxs (by decide)
  obtain ⟨y1, e1⟩ := get_some (i := 1) hxs (by decide)
  obtain ⟨y2, e2⟩ := get_some (i := 2) hxs (by decide)
  rw [e0] at f0
  rw [e1] at f1
  rw [e2] at f2
  rw [show Try.prog.cellsOf 3 = 1 by kernel_rfl] at f0 f1
  rw [show Try.prog.cellsOf 23 = 3 by kernel_rfl] at f2
  obtain ⟨K, g0, _, w0⟩ := DataW.trod_int Try.underlying3 f0
  obtain ⟨R, g1, _, w1⟩ := DataW.trod_int Try.underlying3 f1
  obtain ⟨zs, g2, hz, w2⟩ := IntsOf.array Try.underlying23 (IntsOf.one Try.underlying22) (by kernel_rfl) (by kernel_rfl) _ _ _ f2
  match zs, hz with
  | [a, b, c], _ =>
    have k0 := bd_i64 w0
    have k1 := bd_i64 w1
    have ka := bd_u32 (w2 a (by simp))
    have kb := bd_u32 (w2 b (by simp))
    have kc := bd_u32 (w2 c (by simp))
    refine ⟨⟨K, R, a, b, c⟩, ⟨k0.1, k0.2, k1.1, k1.2, ka.1, ka.2, kb.1, kb.2, kc.1, kc.2⟩, ?_⟩
    rw [parts5 h5, g0, g1, g2]
    rfl
theorem open_table (h : DataW.trod enc Try.prog w base sp held fuel 29 cs = some x) : ∃ t : Tb, t.Ok ∧ cs = t.cells.toList := by
  obtain ⟨xs, n, rfl, _, hl, hxs, hall⟩ := DataW.trod_struct Try.underlying29 h
  have h33 : cs.length = 33 := hl.trans (by kernel_rfl)
  have f0 : DataW.trod enc Try.prog w base sp held n 3 ((cs.drop 0).take (Try.prog.cellsOf 3)) = xs[0]? := hall 0 _ rfl
  have f1 : DataW.trod enc Try.prog w base sp held n 27 ((cs.drop 1).take (Try.prog.cellsOf 27)) = xs[1]? := hall 1 _ rfl
  obtain ⟨y0, e0⟩ := get_some (i := 0) hxs (by decide)
  obtain ⟨y1, e1⟩ := get_some (i := 1) hxs (by decide)
  rw [e0] at f0
  rw [e1] at f1
  rw [show Try.prog.cellsOf 3 = 1 by kernel_rfl] at f0
  rw [show Try.prog.cellsOf 27 = 32 by kernel_rfl] at f1
  obtain ⟨K, g0, _, w0⟩ := DataW.trod_int Try.underlying3 f0
  obtain ⟨zs, g1, hz, w1⟩ := IntsOf.array Try.underlying27 (IntsOf.array Try.underlying26 (IntsOf.one Try.underlying3) (by kernel_rfl) (by kernel_rfl)) (by kernel_rfl) (by kernel_rfl) _ _ _ f1
  have k0 := bd_i64 w0
  refine ⟨⟨K, zs⟩, ⟨by simpa using hz, k0.1, k0.2, fun z hz => bd_i64 (w1 z hz)⟩, ?_⟩
  have : cs = (cs.drop 0).take 1 ++ (cs.drop 1).take 32 := by
    rw [List.drop_zero, List.take_of_length_le (l := cs.drop 1) (by simp; omega), List.take_append_drop]
  rw [this, g0, g1]
  simp [Tb.cells, Tb.mc]
theorem open_problemL (h : DataW.trod enc Try.prog w base sp held fuel 32 cs = some x) : ∃ (p : Pb) (a : Option Addr) (cap : Nat), p.Ok ∧ Bytes w a p.B ∧ cs = (p.cells (.slice a p.B.length cap)).toList ∧ ((∀ n ∈ x.1.weights Try.prog 32, n ≤ reachBytes) → p.B.length ≤ 140737488351232) := by
  obtain ⟨xs, n, rfl, hx, hl, hxs, hall⟩ := DataW.trod_struct Try.underlying32 h
  have h40 : cs.length = 40 := hl.trans (by kernel_rfl)
  have f0 : DataW.trod enc Try.prog w base sp held n 25 ((cs.drop 0).take (Try.prog.cellsOf 25)) = xs[0]? := hall 0 _ rfl
  have f1 : DataW.trod enc Try.prog w base sp held n 29 ((cs.drop 5).take (Try.prog.cellsOf 29)) = xs[1]? := hall 1 _ rfl
  have f2 : DataW.trod enc Try.prog w base sp held n 3 ((cs.drop 38).take (Try.prog.cellsOf 3)) = xs[2]? := hall 2 _ rfl
  have f3 : DataW.trod enc Try.prog w base sp held n 30 ((cs.drop 39).take (Try.prog.cellsOf 30)) = xs[3]? := hall 3 _ rfl
  obtain ⟨y0, e0⟩ := get_some (i := 0) hxs (by decide)
  obtain ⟨y1, e1⟩ := get_some (i := 1) hxs (by decide)
  obtain ⟨y2, e2⟩ := get_some (i := 2) hxs (by decide)
  obtain ⟨y3, e3⟩ := get_some (i := 3) hxs (by decide)
  rw [e0] at f0
  rw [e1] at f1
  rw [e2] at f2
  rw [e3] at f3
  rw [show Try.prog.cellsOf 25 = 5 by kernel_rfl] at f0
  rw [show Try.prog.cellsOf 29 = 33 by kernel_rfl] at f1
  rw [show Try.prog.cellsOf 3 = 1 by kernel_rfl] at f2
  rw [show Try.prog.cellsOf 30 = 1 by kernel_rfl] at f3
  obtain ⟨c, hc, g0⟩ := open_code f0
  obtain ⟨t, ht, g1⟩ := open_table f1
  obtain ⟨L, g2, _, w2⟩ := DataW.trod_int Try.underlying3 f2
  obtain ⟨a, cap, l, g3, hb, hn, hsz⟩ := open_bytes Try.underlying30 Try.underlying5 (by kernel_rfl) f3
  have k2 := bd_i64 w2
  refine ⟨⟨c, t, L, l⟩, a, cap, ⟨hc, ht, k2.1, k2.2, hb.lt, hn⟩, hb, ?_, fun hw => ?_⟩
  · rw [parts40 h40, g0, g1, g2, g3]
    simp [Pb.cells]
  · rcases hsz with rfl | ⟨el, sp, hy, hel⟩
    · simp
    · have h1 := hw ((el.length + sp.length) * Try.prog.bytesOf 5) (by
        rw [hx]
        simp only [DataW.weights, Try.underlying32]
        refine DataW.weights_mem_each (j := 3) (t := 30) (d := y3.1) rfl (by rw [List.getElem?_map, e3]; rfl) _ ?_
        rw [hy]
        simp only [DataW.weights, Try.underlying30]
        exact List.mem_cons_self ..)
      rw [show Try.prog.bytesOf 5 = 1 by kernel_rfl] at h1
      simp only [reachBytes] at h1
      show l.length ≤ _
      omega
set_option maxRecDepth 5000 in
theorem open_nodeL (h : DataW.trod enc Try.prog w base sp held fuel 80 cs = some x) : ∃ n : Nd, n.Ok ∧ cs = n.cells.toList := by
  obtain ⟨xs, n, rfl, _, hl, hxs, hall⟩ := DataW.trod_struct Try.underlying80 h
  have h3 : cs.length = 3 := hl.trans (by kernel_rfl)
  have f0 : DataW.trod enc Try.prog w base sp held n 22 ((cs.drop 0).take (Try.prog.cellsOf 22)) = xs[0]? := hall 0 _ rfl
  have f1 : DataW.trod enc Try.prog w base sp held n 3 ((cs.drop 1).take (Try.prog.cellsOf 3)) = xs[1]? := hall 1 _ rfl
  have f2 : DataW.trod enc Try.prog w base sp held n 3 ((cs.drop 2).take (Try.prog.cellsOf 3)) = xs[2]? := hall 2 _ rfl
  obtain ⟨y0, e0⟩ := get_some (i := 0) hxs (by decide)
  obtain ⟨y1, e1⟩ := get_some (i := 1) hxs (by decide)
  obtain ⟨y2, e2⟩ := get_some (i := 2) hxs (by decide)
  rw [e0] at f0
  rw [e1] at f1
  rw [e2] at f2
  rw [show Try.prog.cellsOf 22 = 1 by kernel_rfl] at f0
  rw [show Try.prog.cellsOf 3 = 1 by kernel_rfl] at f1 f2
  obtain ⟨s, g0, _, w0⟩ := DataW.trod_int Try.underlying22 f0
  obtain ⟨d, g1, _, w1⟩ := DataW.trod_int Try.underlying3 f1
  obtain ⟨m, g2, _, w2⟩ := DataW.trod_int Try.underlying3 f2
  have k0 := bd_u32 w0
  have k1 := bd_i64 w1
  have k2 := bd_i64 w2
  refine ⟨⟨s, d, m⟩, ⟨k0.1, k0.2, k1.1, k1.2, k2.1, k2.2⟩, ?_⟩
  match cs, h3 with
  | [a, b, c], _ =>
    simp at g0 g1 g2
    subst g0 g1 g2
    rfl
end

set_option maxRecDepth 5000 in
/-- A problem that came in. -/
theorem open_problem {H : Type} {enc : TypeId × Value → H} {w : World} {base : Nat} {sp : Nat → Bool} {held : Bool} {r : Reach} {b0 : Nat} {v : Value} {d : DataW H} {ps : List MemPlace}
    (hval : Value.okWide Try.prog w r b0 32 v) (hd : DataW.Trod enc Try.prog w base sp held 32 v d ps) :
    ∃ (p : Pb) (a : Option Addr) (cap : Nat), p.Ok ∧ Bytes w a p.B ∧ v = .agg (p.cells (.slice a p.B.length cap)) ∧ ((∀ n ∈ d.weights Try.prog 32, n ≤ reachBytes) → p.B.length ≤ 140737488351232) := by
  obtain ⟨cs, rfl, hsz⟩ := okWide_struct Try.underlying32 hval
  obtain ⟨fuel, hf⟩ := hd
  obtain ⟨p, a, cap, hp, hb, he, hz⟩ := open_problemL hf
  exact ⟨p, a, cap, hp, hb, by rw [show cs = p.cells (.slice a p.B.length cap) from Array.ext' he], hz⟩
set_option maxRecDepth 5000 in
/-- A node that came in. -/
theorem open_node {H : Type} {enc : TypeId × Value → H} {w : World} {base : Nat} {sp : Nat → Bool} {held : Bool} {r : Reach} {b0 : Nat} {v : Value} {d : DataW H} {ps : List MemPlace}
    (hval : Value.okWide Try.prog w r b0 80 v) (hd : DataW.Trod enc Try.prog w base sp held 80 v d ps) : ∃ n : Nd, n.Ok ∧ v = .agg n.cells := by
  obtain ⟨cs, rfl, hsz⟩ := okWide_struct Try.underlying80 hval
  obtain ⟨fuel, hf⟩ := hd
  obtain ⟨n, hn, he⟩ := open_nodeL hf
  exact ⟨n, hn, by rw [show cs = n.cells from Array.ext' he]⟩
theorem cell_block {w : World} {b o : Nat} {v : Value} (h : w.cell? ⟨b, o, none⟩ = some v) : ∃ cs t fr, w.heap[b]? = some (.cells cs t fr) ∧ cs[o]? = some v := by
  unfold World.cell? at h
  split at h
  · rename_i cs t fr hb
    exact ⟨cs, t, fr, hb, h⟩
  · cases h
theorem load_three {w : World} {b o : Nat} {x y z : Value} (h0 : w.cell? ⟨b, o, none⟩ = some x) (h1 : w.cell? ⟨b, o + 1, none⟩ = some y) (h2 : w.cell? ⟨b, o + 2, none⟩ = some z) : loadAgg w b o 3 = .ok (.agg #[x, y, z]) w := by
  obtain ⟨cs, t, fr, hb, c0⟩ := cell_block h0
  obtain ⟨cs1, t1, fr1, hb1, c1⟩ := cell_block h1
  obtain ⟨cs2, t2, fr2, hb2, c2⟩ := cell_block h2
  rw [hb] at hb1 hb2
  simp at hb1 hb2
  obtain ⟨rfl, rfl, rfl⟩ := hb1
  obtain ⟨rfl, rfl, rfl⟩ := hb2
  have hlt := (Array.getElem?_eq_some_iff.1 c2).1
  rw [loadAgg_block hb (by omega)]
  congr 2
  apply Array.ext'
  rw [Array.toList_extract, List.extract_eq_take_drop]
  have e0 : (cs.toList.drop o)[0]? = some x := by simpa using c0
  have e1 : (cs.toList.drop o)[1]? = some y := by simpa using c1
  have e2 : (cs.toList.drop o)[2]? = some z := by simpa using c2
  rw [show o + 3 - o = 3 by omega]
  match cs.toList.drop o, e0, e1, e2 with
  | a :: b :: c :: r, e0, e1, e2 =>
    simp at e0 e1 e2
    subst e0 e1 e2
    rfl
set_option maxRecDepth 5000 in
/-- A list of nodes that came in. -/
theorem open_nodes {H : Type} {enc : TypeId × Value → H} {w : World} {base : Nat} {sp : Nat → Bool} {held : Bool} {r : Reach} {b0 : Nat} {v : Value} {d : DataW H} {ps : List MemPlace}
    (hval : Value.okWide Try.prog w r b0 85 v) (hd : DataW.Trod enc Try.prog w base sp held 85 v d ps) :
    ∃ (l : List Nd) (a : Option Addr) (cap : Nat), (∀ n ∈ l, n.Ok) ∧ Nodes w a l ∧ v = .slice a l.length cap ∧ l.length ≤ maxLen := by
  obtain ⟨a, len, cap, rfl⟩ := okWide_slice Try.underlying85 hval
  obtain ⟨fuel, hf⟩ := hd
  rcases Deep.open_slice Try.underlying85 hf with ⟨hcs, _⟩ | ⟨a', len', cap', m, n, D, Pl, hcs, _, hl, hmax, hm, _, hall⟩
  · simp [Value.cells] at hcs
    obtain ⟨rfl, rfl, rfl⟩ := hcs
    exact ⟨[], none, 0, by simp, Nodes.nil _, rfl, by simp⟩
  · simp [Value.cells] at hcs
    obtain ⟨rfl, rfl, rfl⟩ := hcs
    have hlm : len ≤ m := by rw [hm]; split <;> omega
    rw [show Try.prog.cellsOf 80 = 3 by kernel_rfl] at hall
    have each : ∀ i, ∃ nd : Nd, nd.Ok ∧ (i < len → ∃ cs', w.cells? base (a'.add (i * 3)) 3 = some cs' ∧ cs' = nd.cells.toList) := fun i => by
      by_cases hi : i < len
      · obtain ⟨cs', h1, h2⟩ := hall i (by omega)
        obtain ⟨nd, hn, he⟩ := open_nodeL h2
        exact ⟨nd, hn, fun _ => ⟨cs', h1, he⟩⟩
      · exact ⟨⟨0, 0, 0⟩, ⟨by decide, by decide, by decide, by decide, by decide, by decide⟩, fun h => absurd h hi⟩
    obtain ⟨F, hF⟩ := Classical.axiomOfChoice each
    have hlen : ((List.range len).map F).length = len := by simp
    refine ⟨(List.range len).map F, some a', cap, ?_, fun k hk => ?_, by rw [hlen], by rw [hlen]; omega⟩
    · intro nd hnd
      simp only [List.mem_map] at hnd
      obtain ⟨i, _, rfl⟩ := hnd
      exact (hF i).1
    · rw [hlen] at hk
      have three : ∀ j, j < 3 → ∃ u, w.cell? ((a'.add (k * 3)).add j) = some u ∧ (F k).cells[j]? = some u := fun j hj => by
        obtain ⟨cs', h1, h2⟩ := (hF k).2 hk
        unfold World.cells? at h1
        split at h1
        · have := mapM_some_get h1 j j (by simp [hj])
          rw [h2] at this
          refine ⟨(F k).cells[j]'(by simpa [Nd.cells, nodeCells] using hj), ?_, by simp⟩
          rw [this]
          simp [Nd.cells, nodeCells, hj]
        · cases h1
      obtain ⟨b, off, spot⟩ := a'
      have hspot : spot = none := by
        obtain ⟨cs', h1, h2⟩ := (hF 0).2 (by omega)
        unfold World.cells? at h1
        split at h1
        · have h3 := mapM_some_get h1 0 0 (by simp)
          rw [h2] at h3
          have h4 : w.cell? (((⟨b, off, spot⟩ : Addr).add (0 * 3)).add 0) = some (.int .u32 (F 0).s) := by rw [h3]; rfl
          simpa [Addr.add] using World.cell?_spot h4
        · cases h1
      subst hspot
      have hadd : ∀ i j, ((⟨b, off, none⟩ : Addr).add i).add j = ⟨b, off + i + j, none⟩ := fun i j => by unfold Addr.add; split <;> split <;> simp_all
      obtain ⟨u0, h0, e0⟩ := three 0 (by omega)
      obtain ⟨u1, h1, e1⟩ := three 1 (by omega)
      obtain ⟨u2, h2, e2⟩ := three 2 (by omega)
      rw [hadd] at h0 h1 h2
      rw [Nat.add_zero] at h0
      refine ⟨b, off, rfl, ?_⟩
      rw [load_three h0 h1 h2]
      simp [Nd.cells, nodeCells] at e0 e1 e2
      subst e0 e1 e2
      simp [Nd.cells, nodeCells]
end Go.Proofs.Ytkjnmjilkhigaaa
/- More on arguments that come in: a window's room; bytes. -/
namespace Go.Proofs.Ytkjnmjilkhigaaa
open Go.WideShapes Go.ChangeShapes Go.ChangeAt Go.RowKit

theorem drop_last {α : Type} {X : List α} {v : α} {n : Nat} (h : (X ++ [v]).length = n + 1) : ((X ++ [v]).drop n).take 1 = [v] := by
  have hX : X.length = n := by simpa using h
  rw [← hX, List.drop_left]
  rfl
theorem open_cap {H : Type} {enc : TypeId × Value → H} {w : World} {base : Nat} {sp : Nat → Bool} {held : Bool} {p : Pb} {a : Option Addr} {len cap : Nat} {d : DataW H} {ps : List MemPlace}
    (hd : DataW.Trod enc Try.prog w base sp held 32 (.agg (p.cells (.slice a len cap))) d ps) : len ≤ cap := by
  obtain ⟨fuel, hf⟩ := hd
  obtain ⟨xs, n, rfl, hx, hl, hxs, hall⟩ := DataW.trod_struct Try.underlying32 hf
  have h40 := hl.trans (show _ = 40 by kernel_rfl)
  have f3 : DataW.trod enc Try.prog w base sp held n 30 (((Value.agg (p.cells (.slice a len cap))).cells.toList.drop 39).take (Try.prog.cellsOf 30)) = xs[3]? := hall 3 _ rfl
  obtain ⟨y3, e3⟩ := get_some (i := 3) hxs (by decide)
  rw [e3, show Try.prog.cellsOf 30 = 1 by kernel_rfl] at f3
  have hc : (Value.agg (p.cells (.slice a len cap))).cells.toList = (p.C.cells ++ p.T.cells ++ #[Value.int IntKind.i64 p.L]).toList ++ [.slice a len cap] := by
    simp [Value.cells, Pb.cells]
  rw [hc] at f3 h40
  rw [drop_last h40] at f3
  rcases open_ints Try.underlying30 Try.underlying5 (by kernel_rfl) f3 with ⟨h, _⟩ | ⟨a', len', cap', zs, h, _, hle, _⟩
  · simp at h; omega
  · simp at h; omega
set_option maxRecDepth 5000 in
theorem open_bytesV {H : Type} {enc : TypeId × Value → H} {w : World} {base : Nat} {sp : Nat → Bool} {held : Bool} {r : Reach} {b0 : Nat} {v : Value} {d : DataW H} {ps : List MemPlace}
    (hval : Value.okWide Try.prog w r b0 30 v) (hd : DataW.Trod enc Try.prog w base sp held 30 v d ps) :
    ∃ (a : Option Addr) (cap : Nat) (l : List Nat), Bytes w a l ∧ v = .slice a l.length cap ∧ (l.length : Int) ≤ 9223372036854775807 := by
  obtain ⟨a, len, cap, rfl⟩ := okWide_slice Try.underlying30 hval
  obtain ⟨fuel, hf⟩ := hd
  obtain ⟨a', cap', l, hc, hb, hn, _⟩ := open_bytes Try.underlying30 Try.underlying5 (by kernel_rfl) hf
  have h : Value.slice a len cap = .slice a' l.length cap' := by simpa [Value.cells] using hc
  exact ⟨a', cap', l, hb, h, hn⟩
end Go.Proofs.Ytkjnmjilkhigaaa

/- Small laws on worlds, trees and kids. -/
namespace Go.Proofs.Ytkjnmjilkhigaaa
open Go.RowKit

theorem bOn {w w1 w2 : World} (h1 : Below w.heap.size w w1) (h2 : Below w1.heap.size w1 w2) : Below w.heap.size w w2 := h1.trans (h2.mono h1.size)

theorem TreeIn.setOther {w : World} {p : Pb} {tb pb rb g c : Nat} (h : TreeIn w p tb pb rb g c) {q : Addr} (hq : q.block ≠ tb ∧ q.block ≠ pb ∧ q.block ≠ rb ∧ q.block ≠ g) (v : Value) : TreeIn (w.setCell q v) p tb pb rb g c :=
  ⟨h.tree.setOther hq.1 v, h.prob.setOther hq.2.1 v, h.rate.setOther hq.2.2.1 v, h.win.block (Below.heap_setCell _ _ _ _ (Ne.symm hq.2.2.2)), h.cap⟩
theorem tmod_in {N : Int} (h3 : 3 ≤ N) (h4 : N ≤ 1055) (d : Int) : 0 ≤ (wrap64 (wrap64 (d.tmod (N + 1) + N) + 1)).tmod (N + 1) ∧ (wrap64 (wrap64 (d.tmod (N + 1) + N) + 1)).tmod (N + 1) ≤ N := by
  have h1 : -(N + 1) < d.tmod (N + 1) ∧ d.tmod (N + 1) < N + 1 := by
    refine ⟨?_, Int.tmod_lt_of_pos _ (by omega)⟩
    have := Int.tmod_lt_of_pos (-d) (b := N + 1) (by omega)
    rw [Int.neg_tmod] at this
    omega
  have h2 : wrap64 (wrap64 (d.tmod (N + 1) + N) + 1) = d.tmod (N + 1) + N + 1 := by unfold wrap64; omega
  rw [h2, Int.tmod_eq_emod_of_nonneg (by omega)]
  have := Int.emod_nonneg (d.tmod (N + 1) + N + 1) (b := N + 1) (by omega)
  have := Int.emod_lt_of_pos (d.tmod (N + 1) + N + 1) (b := N + 1) (by omega)
  omega
theorem kid_facts {p : Pb} (k1 : 3 ≤ p.C.K) (k2 : p.C.K ≤ 32) (hN : p.N ≤ 1055) {S D : Int} (s0 : 0 ≤ S) (_s1 : S < 2 ^ (p.C.K.toNat - 1)) (d0 : 0 ≤ D) (d1 : D ≤ p.N) (M : Int) {b : Int} (b0 : 0 ≤ b) (b1 : b < 2) :
    (p.kid ⟨S, D, M⟩ b).d = D + 1 ∧ (p.kid ⟨S, D, M⟩ b).s % 2 = b ∧ (p.kid ⟨S, D, M⟩ b).s.tmod 2 = b := by
  have h : (2 * S + b) % 2 ^ (p.C.K.toNat - 1) % 2 = b := by
    obtain ⟨m, hm⟩ : ∃ m, p.C.K.toNat - 1 = m + 1 := ⟨p.C.K.toNat - 2, by omega⟩
    rw [hm, Int.pow_succ, Int.emod_emod_of_dvd _ (Int.dvd_mul_left _ _)]
    omega
  refine ⟨rfl, h, ?_⟩
  rw [Int.tmod_eq_emod_of_nonneg]
  · exact h
  · exact Int.emod_nonneg _ (by have : (0 : Int) < 2 ^ (p.C.K.toNat - 1) := Int.pow_pos (by decide); omega)
end Go.Proofs.Ytkjnmjilkhigaaa

/- The walks of a tree's looks at no tree, and at one that nobody made. -/
namespace Go.Proofs.Ytkjnmjilkhigaaa
open Go.RowKit

theorem neq_nilFunc0 {P : Program} {t : TypeId} {d : TypeDesc} (hu : P.underlying t = some d) (hd : (match d with | .func .. => true | _ => false) = true) (w : World) : (binOp .neq t .nilFunc .nilFunc).run P w = .ok (.bool false) w := by
  cases d <;> simp at hd
  simp only [binOp, Op.equal]
  rw [Sem.run_bind, show Op.maxDepth = 9999 + 1 from rfl, Op.equalIn, Sem.run_bind, run_underlying hu]
  simp [Sem.run_pure]
/-- A tree that nobody made. -/
def rawTree : Array Value := #[.int .i64 0, .int .u64 0, .nilFunc, .int .i64 0, .int .i64 0, .int .i64 0]
/-- No tree, or one that nobody made. -/
def NoTree (w : World) (v : Value) : Prop := v = .pointer none ∨ ∃ tb, v = .pointer (some ⟨tb, 0, none⟩) ∧ Box w tb rawTree
theorem NoTree.kept {w w' : World} {v : Value} (h : NoTree w v) (hB : Below w.heap.size w w') : NoTree w' v := by
  rcases h with h | ⟨tb, h, hb⟩
  · exact .inl h
  · exact .inr ⟨tb, h, hb.kept hB⟩
theorem noTree_good (v : Value) (w : World) (hT : NoTree w v) : Pure Try.prog 94 #[v] w (.bool false) := by
  rcases hT with rfl | ⟨tb, rfl, hb⟩
  · go_enter Try.func94, Try.ntmps94
    go_wp2
    go_ret
    exact ⟨rfl, Below.refl _ _⟩
  · have t2 := hb.cell 2
    simp only [rawTree, List.getElem?_toArray, List.getElem?_cons_zero, List.getElem?_cons_succ] at t2
    have hne := neq_nilFunc0 (P := Try.prog) Try.underlying120 rfl
    go_enter Try.func94, Try.ntmps94
    go_wp2
    go_ret
    exact ⟨rfl, Below.refl _ _⟩
theorem noTree_Leaf (v : Value) (n : Nd) (w : World) (hT : NoTree w v) : Pure Try.prog 77 #[v, .agg n.cells] w (.bool false) := by
  go_enter Try.func77, Try.ntmps77
  go_upto_region 1 with (fail)
  refine name1 ?_
  intro w0 b3 B0
  have hT0 := hT.kept B0
  (refine wp_region_kept_tail 11 (by kernel_rfl) (by kernel_rfl) ?_; simp only [List.take_succ_cons, List.take_zero, List.drop_succ_cons, List.drop_zero])
  repeat first
    | go_big_quiet_skip
    | go_big_quiet_step (exact Calls.kept (noTree_good v _ (hT0.kept (Subtype.property _))))
  refine wpQuiet_nil ?_
  intro w1 B1
  go_wp2
  go_ret
  exact ⟨rfl, bOn B0 B1⟩
theorem noTree_Kids (v : Value) (n : Nd) (w : World) (hT : NoTree w v) : Pure Try.prog 75 #[v, .agg n.cells] w (.tuple #[.slice none 0 0, .slice none 0 0]) := by
  go_enter Try.func75, Try.ntmps75
  go_upto_region 1 with (fail)
  refine name1 ?_
  intro w0 b3 B0
  have hT0 := hT.kept B0
  refine wp_region_kept (by kernel_rfl) (by kernel_rfl) ?_
  repeat first
    | go_big_quiet_skip
    | go_big_quiet_step (exact Calls.kept (noTree_good v _ (hT0.kept (Subtype.property _))))
  refine wpQuiet_nil ?_
  intro w1 B1
  go_wp2
  go_ret2
  exact ⟨rfl, bOn B0 B1⟩
end Go.Proofs.Ytkjnmjilkhigaaa

/- The walk of a tree's Count: the program's. -/
namespace Go.Proofs.Ytkjnmjilkhigaaa
open Go.RowKit

/-- What lay there is as it was, but for one block. -/
structure But (b : Nat) (w w' : World) : Prop where
  os : w'.os = w.os
  tape : w'.tape = w.tape
  output : w'.output = w.output
  size : w.heap.size ≤ w'.heap.size
  block : ∀ k, k < w.heap.size → k ≠ b → w'.heap[k]? = w.heap[k]?
theorem But.refl (b : Nat) (w : World) : But b w w := ⟨rfl, rfl, rfl, Nat.le_refl _, fun _ _ _ => rfl⟩
theorem But.ofBelow {b : Nat} {w w' : World} (h : Below w.heap.size w w') : But b w w' := ⟨h.os, h.tape, h.output, h.size, fun k hk _ => h.block k hk⟩
theorem But.trans {b : Nat} {x y z : World} (h : But b x y) (k : But b y z) : But b x z :=
  ⟨k.os.trans h.os, k.tape.trans h.tape, k.output.trans h.output, Nat.le_trans h.size k.size, fun i hi hb => (k.block i (Nat.lt_of_lt_of_le hi h.size) hb).trans (h.block i hi hb)⟩
theorem But.on {b : Nat} {x y z : World} (h : But b x y) (k : Below y.heap.size y z) : But b x z := h.trans (But.ofBelow k)
theorem But.below {b : Nat} {w w' : World} (h : But b w w') (B : Nat) (hB : B ≤ b) (hw : B ≤ w.heap.size) : Below B w w' := ⟨h.os, h.tape, h.output, h.size, fun k hk => h.block k (by omega) (by omega)⟩
theorem But.setCell (w : World) (p : Addr) (v : Value) : But p.block w (w.setCell p v) := ⟨rfl, rfl, rfl, by simp [World.setCell], fun _ _ hb => Below.heap_setCell _ _ _ _ hb⟩
theorem But.box {b : Nat} {w w' : World} (h : But b w w') {k : Nat} {cs : Array Value} (hk : Box w k cs) (hb : k ≠ b) : Box w' k cs := by
  have hl := hk.lt
  obtain ⟨t, hk⟩ := hk
  exact ⟨t, (h.block k hl hb).trans hk⟩
theorem Bytes.but {b : Nat} {w w' : World} (h : But b w w') {g : Nat} {l : List Nat} (hk : Bytes w (some ⟨g, 0, none⟩) l) (hb : g ≠ b) : Bytes w' (some ⟨g, 0, none⟩) l :=
  ⟨fun k hk' => by
    obtain ⟨b', o, ha, hc⟩ := hk.cell k hk'
    obtain ⟨rfl, rfl⟩ : g = b' ∧ 0 = o := by simpa using ha
    exact ⟨g, 0, rfl, (World.cell?_of_block (h.block g (lt_of_cell hc) hb)).trans hc⟩, hk.lt⟩
theorem TreeIn.but {w w' : World} {p : Pb} {tb pb rb g c b : Nat} (h : TreeIn w p tb pb rb g c) (hB : But b w w') (hb : tb ≠ b ∧ pb ≠ b ∧ rb ≠ b ∧ g ≠ b) : TreeIn w' p tb pb rb g c :=
  ⟨hB.box h.tree hb.1, hB.box h.prob hb.2.1, hB.box h.rate hb.2.2.1, Bytes.but hB h.win hb.2.2.2, h.cap⟩
theorem Nodes.but {w w' : World} {b g : Nat} {o : Nat} {l : List Nd} (h : Nodes w (some ⟨g, o, none⟩) l) (hB : But b w w') (hb : g ≠ b) : Nodes w' (some ⟨g, o, none⟩) l := fun k hk => by
  obtain ⟨b', o', h1, h2⟩ := h k hk
  obtain ⟨rfl, rfl⟩ : g = b' ∧ o = o' := by simpa using h1
  refine ⟨g, o, rfl, ?_⟩
  have hl := lt_of_loadAgg h2
  have := hB.block g hl hb
  unfold loadAgg at h2 ⊢
  rw [this]
  split at h2
  · split at h2
    · rename_i hn
      rw [if_pos hn]
      injection h2 with h2 _
      rw [h2]
    · cases h2
  · cases h2

theorem results_nil {P : Program} {fn : Func} {tmps : Array Value} {w : World} (h : fn.results = #[]) : (results fn tmps).run P w = .ok (.tuple #[]) w := by
  simp [results, h]
/-- How many ways there are, from a node on. -/
def Pb.look (p : Pb) (dip most : Int) : Nat → Nd → Int → Int
  | 0, x, v => if most ≤ v ∨ x.m < dip then v else v + 1
  | f + 1, x, v => if most ≤ v ∨ x.m < dip then v else (p.kids x).foldl (fun c k => p.look dip most f k c) (v + 1)
/-- A node of the tree, f steps ahead of its end. -/
structure Pb.At (p : Pb) (x : Nd) (f : Nat) : Prop where
  s0 : 0 ≤ x.s
  s1 : x.s < 2 ^ (p.C.K.toNat - 1)
  d0 : 0 ≤ x.d
  d1 : x.d + f = p.N
theorem Pb.At.kid {p : Pb} {x : Nd} {f : Nat} (h : p.At x (f + 1)) (b : Int) : p.At (p.kid x b) f where
  s0 := Int.emod_nonneg _ (by have : (0 : Int) < 2 ^ (p.C.K.toNat - 1) := Int.pow_pos (by decide); omega)
  s1 := Int.emod_lt_of_pos _ (Int.pow_pos (by decide))
  d0 := by have := h.d0; show 0 ≤ x.d + 1; omega
  d1 := by have := h.d1; show x.d + 1 + f = p.N; omega
theorem Pb.At.kids {p : Pb} {x : Nd} {f : Nat} (h : p.At x (f + 1)) : ∀ k ∈ p.kids x, p.At k f := by
  intro k hk
  unfold Pb.kids at hk
  split at hk
  · obtain rfl : k = p.kid x 0 := by simpa using hk
    exact h.kid 0
  · unfold Pb.twoK at hk
    split at hk
    all_goals
      rcases (by simpa using hk : k = _ ∨ k = _) with rfl | rfl
      all_goals exact h.kid _
theorem foldl_bd {α : Type} {F : α → Int → Int} {lo hi : Int} : ∀ (l : List α) (v : Int), (∀ k ∈ l, ∀ c, lo ≤ c → c ≤ hi → lo ≤ F k c ∧ F k c ≤ hi) → lo ≤ v → v ≤ hi → lo ≤ l.foldl (fun c k => F k c) v ∧ l.foldl (fun c k => F k c) v ≤ hi
  | [], v, _, h1, h2 => ⟨h1, h2⟩
  | a :: l, v, h, h1, h2 => by
    have := h a (by simp) v h1 h2
    exact foldl_bd l _ (fun k hk => h k (by simp [hk])) this.1 this.2
theorem Pb.look_bd (p : Pb) (dip most : Int) (hm : most ≤ 1048577) : ∀ (f : Nat) (x : Nd) (v : Int), 0 ≤ v → v ≤ 1048577 → 0 ≤ p.look dip most f x v ∧ p.look dip most f x v ≤ 1048577
  | 0, x, v, h1, h2 => by unfold Pb.look; split <;> omega
  | f + 1, x, v, h1, h2 => by
    unfold Pb.look
    split
    · omega
    · exact foldl_bd (p.kids x) (v + 1) (fun k _ c hc1 hc2 => p.look_bd dip most hm f k c hc1 hc2) (by omega) (by omega)

def LookPost (sn : Nat) (r : Int) (w : World) (e : Ending) (w' : World) : Prop := (e = .returned (.tuple #[]) ∧ Box w' sn #[.int .i64 r]) ∧ But sn w w'
def KidsAny (l : List Nd) (w : World) (e : Ending) (w' : World) : Prop := (∃ a c bv, e = .returned (.tuple #[.slice a l.length c, bv]) ∧ Nodes w' a l ∧ ∀ b o s, a = some ⟨b, o, s⟩ → w.heap.size ≤ b ∧ s = none) ∧ Below w.heap.size w w'

theorem KidsPost.any {l : List Nd} {bs : List Nat} {w w' : World} {e : Ending} (h : KidsPost l bs w e w') : KidsAny l w e w' := by
  obtain ⟨⟨nb, bb, rfl, x1, x2, x3, x4, x5⟩, B⟩ := h
  exact ⟨⟨_, _, _, rfl, Nodes.ofBox x1, fun b o s h => by obtain ⟨rfl, rfl, rfl⟩ : nb = b ∧ 0 = o ∧ none = s := by simpa using h
                                                          exact ⟨x4, rfl⟩⟩, B⟩
theorem Pb.kids_len (p : Pb) (n : Nd) : (p.kids n).length ≤ 2 := by
  unfold Pb.kids
  split
  · simp
  · unfold Pb.twoK
    split <;> simp
theorem TreeIn.glt {w : World} {p : Pb} {tb pb rb g c : Nat} (hT : TreeIn w p tb pb rb g c) (h : probChk p = 0) : g < w.heap.size := by
  obtain ⟨⟨k1, k2⟩, l1, l2, cr, hwin, _⟩ := probChk_ok h
  have hne : 0 < p.B.length := by
    have h1 : 3 ≤ p.N := by unfold Pb.N; omega
    rcases cr with h | h <;> rw [h] at hwin <;> omega
  obtain ⟨b, o, ha, hc⟩ := hT.win.cell 0 hne
  obtain ⟨rfl, rfl⟩ : g = b ∧ 0 = o := by simpa using ha
  exact lt_of_cell hc
/-- How many ways from the root there are. -/
def Pb.count (p : Pb) (dip most : Int) : Int := p.look dip (min most 1048577) p.N.toNat ⟨0, 0, 0⟩ 0
end Go.Proofs.Ytkjnmjilkhigaaa
