import Derived.Test.YtnjmplapjnnjdaaGreatKnow
import Derived.ProofKit
import Derived.OpenShut
import Derived.ShutString
import Derived.ChangeOld
import Derived.Below
import Derived.SizedLaws
import Derived.Deep.Slices
import Derived.Test.YtnjmplapjnnjdaaGreatElems
set_option linter.unusedSimpArgs false
set_option linter.unusedVariables false
set_option linter.unnecessarySimpa false
/- Arguments opened: a problem, a node, lists of bytes, of integers and of nodes, as data say them. -/
namespace Go.Proofs.YtnjmplapjnnjdaaGreat
open Go.RowKit Go.ChangeShapes Go.WideShapes Go.ChangeAt

/-- A node whose numbers fit their kinds. -/
structure Nd.Ok (n : Nd) : Prop where
  s0 : 0 ≤ n.s
  s1 : n.s < 4294967296
  d0 : -9223372036854775808 ≤ n.d
  d1 : n.d ≤ 9223372036854775807
  m0 : -9223372036854775808 ≤ n.m
  m1 : n.m ≤ 9223372036854775807

section
variable {H : Type} {enc : TypeId × Value → H} {P : Program} {w : World} {base : Nat} {sp : Nat → Bool} {held : Bool}

/-- Whatever reads as data of this type is c integers of kind k. -/
def IntsOf (enc : TypeId × Value → H) (P : Program) (w : World) (base : Nat) (sp : Nat → Bool) (held : Bool) (k : IntKind) (c : Nat) (t : TypeId) : Prop :=
  ∀ fuel cs x, DataW.trod enc P w base sp held fuel t cs = some x → ∃ zs : List Int, cs = zs.map (Value.int k) ∧ zs.length = c ∧ ∀ z ∈ zs, (Lit.int k z).wf = true
theorem IntsOf.one {k : IntKind} {t : TypeId} (ht : P.underlying t = some (.int k)) : IntsOf enc P w base sp held k 1 t := fun fuel cs x h => by
  obtain ⟨n, rfl, _, hw⟩ := DataW.trod_int ht h
  exact ⟨[n], rfl, rfl, by simpa using hw⟩
theorem IntsOf.array {k : IntKind} {t e : TypeId} {c n : Nat} (ht : P.underlying t = some (.array n e)) (he : IntsOf enc P w base sp held k c e) (hc : P.cellsOf e = c) (hn : P.cellsOf t = n * c) : IntsOf enc P w base sp held k (n * c) t := fun fuel cs x h => by
  obtain ⟨xs, m, rfl, _, hl, hxs, hall⟩ := DataW.trod_array ht h
  rw [hc] at hall
  have upto : ∀ j, j ≤ n → ∃ zs : List Int, cs.take (j * c) = zs.map (Value.int k) ∧ zs.length = j * c ∧ ∀ z ∈ zs, (Lit.int k z).wf = true := by
    intro j
    induction j with
    | zero => intro _; exact ⟨[], by simp, by simp, by simp⟩
    | succ j ih =>
      intro hj
      obtain ⟨zs, h1, h2, h3⟩ := ih (by omega)
      have h4 := hall j (by omega)
      rw [List.getElem?_eq_getElem (by omega)] at h4
      obtain ⟨ys, e1, e2, e3⟩ := he _ _ _ h4
      refine ⟨zs ++ ys, ?_, by rw [List.length_append, h2, e2, Nat.succ_mul], ?_⟩
      · rw [Nat.succ_mul, List.take_add, h1, e1, List.map_append]
      · intro z hz
        rcases List.mem_append.1 hz with hz | hz
        · exact h3 z hz
        · exact e3 z hz
  obtain ⟨zs, h1, h2, h3⟩ := upto n (Nat.le_refl _)
  rw [List.take_of_length_le (by omega)] at h1
  exact ⟨zs, h1, h2, h3⟩

theorem bd_i64 {z : Int} (h : (Lit.int .i64 z).wf = true) : -9223372036854775808 ≤ z ∧ z ≤ 9223372036854775807 := by
  simp [Lit.wf, IntKind.min, IntKind.max, IntKind.signed, IntKind.bits] at h
  omega
theorem bd_u32 {z : Int} (h : (Lit.int .u32 z).wf = true) : 0 ≤ z ∧ z < 4294967296 := by
  simp [Lit.wf, IntKind.min, IntKind.max, IntKind.signed, IntKind.bits] at h
  omega
theorem bd_u8 {z : Int} (h : (Lit.int .u8 z).wf = true) : 0 ≤ z ∧ z < 256 := by
  simp [Lit.wf, IntKind.min, IntKind.max, IntKind.signed, IntKind.bits] at h
  omega
theorem parts5 {α : Type} {cs : List α} (h : cs.length = 5) : cs = (cs.drop 0).take 1 ++ ((cs.drop 1).take 1 ++ (cs.drop 2).take 3) := by
  match cs, h with
  | [a, b, c, d, e], _ => rfl

/-- A row of bytes that came in. -/
theorem open_bytes {t e : TypeId} {fuel : Nat} {cs : List Value} {x : DataW H × List MemPlace} (ht : P.underlying t = some (.slice e)) (he : P.underlying e = some (.int .u8)) (hc : P.cellsOf e = 1)
    (h : DataW.trod enc P w base sp held fuel t cs = some x) : ∃ (a : Option Addr) (cap : Nat) (l : List Nat), cs = [.slice a l.length cap] ∧ Bytes w a l ∧ (l.length : Int) ≤ 9223372036854775807 ∧ (l = [] ∨ ∃ el sp, x.1 = .slice el sp ∧ el.length = l.length) := by
  rcases open_ints ht he hc h with ⟨rfl, _⟩ | ⟨a, len, cap, zs, rfl, _, hl, hm, hz, hx, hcell, hwf⟩
  · exact ⟨none, 0, [], rfl, ⟨fun k hk => by simp at hk, by simp⟩, by simp, .inl rfl⟩
  · have hlz : len ≤ zs.length := by rw [hz]; split <;> omega
    have hlen : ((zs.take len).map Int.toNat).length = len := by simp; omega
    refine ⟨some a, cap, (zs.take len).map Int.toNat, by rw [hlen], ⟨fun k hk => ?_, ?_⟩, ?_, .inr ⟨_, _, by rw [hx], by rw [hlen]; simp [lits]; omega⟩⟩
    · rw [hlen] at hk
      obtain ⟨b, off, spot⟩ := a
      have hk2 : k < zs.length := by omega
      have hcl := hcell k hk2
      have hspot : spot = none := by simpa [Addr.add] using World.cell?_spot (hcell 0 (by omega))
      subst hspot
      refine ⟨b, off, rfl, ?_⟩
      have hadd : (⟨b, off, none⟩ : Addr).add k = ⟨b, off + k, none⟩ := by unfold Addr.add; split <;> simp_all
      rw [hadd] at hcl
      rw [hcl]
      have hb := bd_u8 (hwf zs[k] (List.getElem_mem hk2))
      simp [List.getD, List.getElem?_eq_getElem hk2]
      omega
    · intro y hy
      simp only [List.mem_map] at hy
      obtain ⟨z, hz1, rfl⟩ := hy
      have := bd_u8 (hwf z (List.mem_of_mem_take hz1))
      omega
    · rw [hlen]
      unfold maxLen at hm
      omega
end


section
variable {H : Type} {enc : TypeId × Value → H} {w : World} {base : Nat} {sp : Nat → Bool} {held : Bool} {fuel : Nat} {cs : List Value} {x : DataW H × List MemPlace}
theorem get_some {α : Type} {xs : List α} {n i : Nat} (h : xs.length = n) (hi : i < n) : ∃ y, xs[i]? = some y := ⟨xs[i]'(by omega), List.getElem?_eq_getElem (by omega)⟩
theorem parts40 {α : Type} {cs : List α} (h : cs.length = 40) : cs = (cs.drop 0).take 5 ++ ((cs.drop 5).take 33 ++ ((cs.drop 38).take 1 ++ (cs.drop 39).take 1)) := by
  have h1 : (cs.drop 38).take 1 ++ (cs.drop 39).take 1 = cs.drop 38 := by
    rw [List.take_of_length_le (l := cs.drop 39) (by simp; omega)]
    have := List.take_append_drop 1 (cs.drop 38)
    rwa [List.drop_drop] at this
  have h2 : (cs.drop 5).take 33 ++ cs.drop 38 = cs.drop 5 := by
    have := List.take_append_drop 33 (cs.drop 5)
    rwa [List.drop_drop] at this
  rw [h1, h2, List.drop_zero, List.take_append_drop]
theorem open_code (h : DataW.trod enc Tryz.prog w base sp held fuel 25 cs = some x) : ∃ c : Cd, c.Ok ∧ cs = c.cells.toList := by
  obtain ⟨xs, n, rfl, _, hl, hxs, hall⟩ := DataW.trod_struct Tryz.underlying25 h
  have h5 : cs.length = 5 := hl.trans (by kernel_rfl)
  have f0 : DataW.trod enc Tryz.prog w base sp held n 3 ((cs.drop 0).take (Tryz.prog.cellsOf 3)) = xs[0]? := hall 0 _ rfl
  have f1 : DataW.trod enc Tryz.prog w base sp held n 3 ((cs.drop 1).take (Tryz.prog.cellsOf 3)) = xs[1]? := hall 1 _ rfl
  have f2 : DataW.trod enc Tryz.prog w base sp held n 23 ((cs.drop 2).take (Tryz.prog.cellsOf 23)) = xs[2]? := hall 2 _ rfl
  obtain ⟨y0, e0⟩ := get_some (i := 0) hxs (by decide)
  obtain ⟨y1, e1⟩ := get_some (i := 1) hxs (by decide)
  obtain ⟨y2, e2⟩ := get_some (i := 2) hxs (by decide)
  rw [e0] at f0
  rw [e1] at f1
  rw [e2] at f2
  rw [show Tryz.prog.cellsOf 3 = 1 by kernel_rfl] at f0 f1
  rw [show Tryz.prog.cellsOf 23 = 3 by kernel_rfl] at f2
  obtain ⟨K, g0, _, w0⟩ := DataW.trod_int Tryz.underlying3 f0
  obtain ⟨R, g1, _, w1⟩ := DataW.trod_int Tryz.underlying3 f1
  obtain ⟨zs, g2, hz, w2⟩ := IntsOf.array Tryz.underlying23 (IntsOf.one Tryz.underlying22) (by kernel_rfl) (by kernel_rfl) _ _ _ f2
  match zs, hz with
  | [a, b, c], _ =>
    have k0 := bd_i64 w0
    have k1 := bd_i64 w1
    have ka := bd_u32 (w2 a (by simp))
    have kb := bd_u32 (w2 b (by simp))
    have kc := bd_u32 (w2 c (by simp))
    refine ⟨⟨K, R, a, b, c⟩, ⟨k0.1, k0.2, k1.1, k1.2, ka.1, ka.2, kb.1, kb.2, kc.1, kc.2⟩, ?_⟩
    rw [parts5 h5, g0, g1, g2]
    rfl
theorem open_table (h : DataW.trod enc Tryz.prog w base sp held fuel 29 cs = some x) : ∃ t : Tb, t.Ok ∧ cs = t.cells.toList := by
  obtain ⟨xs, n, rfl, _, hl, hxs, hall⟩ := DataW.trod_struct Tryz.underlying29 h
  have h33 : cs.length = 33 := hl.trans (by kernel_rfl)
  have f0 : DataW.trod enc Tryz.prog w base sp held n 3 ((cs.drop 0).take (Tryz.prog.cellsOf 3)) = xs[0]? := hall 0 _ rfl
  have f1 : DataW.trod enc Tryz.prog w base sp held n 27 ((cs.drop 1).take (Tryz.prog.cellsOf 27)) = xs[1]? := hall 1 _ rfl
  obtain ⟨y0, e0⟩ := get_some (i := 0) hxs (by decide)
  obtain ⟨y1, e1⟩ := get_some (i := 1) hxs (by decide)
  rw [e0] at f0
  rw [e1] at f1
  rw [show Tryz.prog.cellsOf 3 = 1 by kernel_rfl] at f0
  rw [show Tryz.prog.cellsOf 27 = 32 by kernel_rfl] at f1
  obtain ⟨K, g0, _, w0⟩ := DataW.trod_int Tryz.underlying3 f0
  obtain ⟨zs, g1, hz, w1⟩ := IntsOf.array Tryz.underlying27 (IntsOf.array Tryz.underlying26 (IntsOf.one Tryz.underlying3) (by kernel_rfl) (by kernel_rfl)) (by kernel_rfl) (by kernel_rfl) _ _ _ f1
  have k0 := bd_i64 w0
  refine ⟨⟨K, zs⟩, ⟨by simpa using hz, k0.1, k0.2, fun z hz => bd_i64 (w1 z hz)⟩, ?_⟩
  have : cs = (cs.drop 0).take 1 ++ (cs.drop 1).take 32 := by
    rw [List.drop_zero, List.take_of_length_le (l := cs.drop 1) (by simp; omega), List.take_append_drop]
  rw [this, g0, g1]
  simp [Tb.cells, Tb.mc]
theorem open_problemL (h : DataW.trod enc Tryz.prog w base sp held fuel 32 cs = some x) : ∃ (p : Pb) (a : Option Addr) (cap : Nat), p.Ok ∧ Bytes w a p.B ∧ cs = (p.cells (.slice a p.B.length cap)).toList ∧ ((∀ n ∈ x.1.weights Tryz.prog 32, n ≤ reachBytes) → p.B.length ≤ 140737488351232) := by
  obtain ⟨xs, n, rfl, hx, hl, hxs, hall⟩ := DataW.trod_struct Tryz.underlying32 h
  have h40 : cs.length = 40 := hl.trans (by kernel_rfl)
  have f0 : DataW.trod enc Tryz.prog w base sp held n 25 ((cs.drop 0).take (Tryz.prog.cellsOf 25)) = xs[0]? := hall 0 _ rfl
  have f1 : DataW.trod enc Tryz.prog w base sp held n 29 ((cs.drop 5).take (Tryz.prog.cellsOf 29)) = xs[1]? := hall 1 _ rfl
  have f2 : DataW.trod enc Tryz.prog w base sp held n 3 ((cs.drop 38).take (Tryz.prog.cellsOf 3)) = xs[2]? := hall 2 _ rfl
  have f3 : DataW.trod enc Tryz.prog w base sp held n 30 ((cs.drop 39).take (Tryz.prog.cellsOf 30)) = xs[3]? := hall 3 _ rfl
  obtain ⟨y0, e0⟩ := get_some (i := 0) hxs (by decide)
  obtain ⟨y1, e1⟩ := get_some (i := 1) hxs (by decide)
  obtain ⟨y2, e2⟩ := get_some (i := 2) hxs (by decide)
  obtain ⟨y3, e3⟩ := get_some (i := 3) hxs (by decide)
  rw [e0] at f0
  rw [e1] at f1
  rw [e2] at f2
  rw [e3] at f3
  rw [show Tryz.prog.cellsOf 25 = 5 by kernel_rfl] at f0
  rw [show Tryz.prog.cellsOf 29 = 33 by kernel_rfl] at f1
  rw [show Tryz.prog.cellsOf 3 = 1 by kernel_rfl] at f2
  rw [show Tryz.prog.cellsOf 30 = 1 by kernel_rfl] at f3
  obtain ⟨c, hc, g0⟩ := open_code f0
  obtain ⟨t, ht, g1⟩ := open_table f1
  obtain ⟨L, g2, _, w2⟩ := DataW.trod_int Tryz.underlying3 f2
  obtain ⟨a, cap, l, g3, hb, hn, hsz⟩ := open_bytes Tryz.underlying30 Tryz.underlying5 (by kernel_rfl) f3
  have k2 := bd_i64 w2
  refine ⟨⟨c, t, L, l⟩, a, cap, ⟨hc, ht, k2.1, k2.2, hb.lt, hn⟩, hb, ?_, fun hw => ?_⟩
  · rw [parts40 h40, g0, g1, g2, g3]
    simp [Pb.cells]
  · rcases hsz with rfl | ⟨el, sp, hy, hel⟩
    · simp
    · have h1 := hw ((el.length + sp.length) * Tryz.prog.bytesOf 5) (by
        rw [hx]
        simp only [DataW.weights, Tryz.underlying32]
        refine DataW.weights_mem_each (j := 3) (t := 30) (d := y3.1) rfl (by rw [List.getElem?_map, e3]; rfl) _ ?_
        rw [hy]
        simp only [DataW.weights, Tryz.underlying30]
        exact List.mem_cons_self ..)
      rw [show Tryz.prog.bytesOf 5 = 1 by kernel_rfl] at h1
      simp only [reachBytes] at h1
      show l.length ≤ _
      omega
end

set_option maxRecDepth 5000 in
/-- A problem that came in. -/
theorem open_problem {H : Type} {enc : TypeId × Value → H} {w : World} {base : Nat} {sp : Nat → Bool} {held : Bool} {r : Reach} {b0 : Nat} {v : Value} {d : DataW H} {ps : List MemPlace}
    (hval : Value.okWide Tryz.prog w r b0 32 v) (hd : DataW.Trod enc Tryz.prog w base sp held 32 v d ps) :
    ∃ (p : Pb) (a : Option Addr) (cap : Nat), p.Ok ∧ Bytes w a p.B ∧ v = .agg (p.cells (.slice a p.B.length cap)) ∧ ((∀ n ∈ d.weights Tryz.prog 32, n ≤ reachBytes) → p.B.length ≤ 140737488351232) := by
  obtain ⟨cs, rfl, hsz⟩ := okWide_struct Tryz.underlying32 hval
  obtain ⟨fuel, hf⟩ := hd
  obtain ⟨p, a, cap, hp, hb, he, hz⟩ := open_problemL hf
  exact ⟨p, a, cap, hp, hb, by rw [show cs = p.cells (.slice a p.B.length cap) from Array.ext' he], hz⟩
theorem cell_block {w : World} {b o : Nat} {v : Value} (h : w.cell? ⟨b, o, none⟩ = some v) : ∃ cs t fr, w.heap[b]? = some (.cells cs t fr) ∧ cs[o]? = some v := by
  unfold World.cell? at h
  split at h
  · rename_i cs t fr hb
    exact ⟨cs, t, fr, hb, h⟩
  · cases h
end Go.Proofs.YtnjmplapjnnjdaaGreat
/- More on arguments that come in: a window's room; bytes. -/
namespace Go.Proofs.YtnjmplapjnnjdaaGreat
open Go.WideShapes Go.ChangeShapes Go.ChangeAt Go.RowKit

end Go.Proofs.YtnjmplapjnnjdaaGreat

/- Rows of whole numbers that may begin in the midst of a block: how they lie; append, head and tail of them. -/
namespace Go.Proofs.YtnjmplapjnnjdaaGreat
open Go.RowKit

/-- A row of whole numbers in a block of its own, the spare room behind it too. -/
def RowO (w : World) (v : Value) (xs : List Int) : Prop :=
  (v = .slice none 0 0 ∧ xs = []) ∨ ∃ g off cap cur, v = .slice (some ⟨g, off, none⟩) xs.length cap ∧ w.heap[g]? = some (.cells cur 3 (0, 0)) ∧ xs.length ≤ cap ∧ off + cap ≤ cur.size ∧ ∀ i x, xs[i]? = some x → cur[off + i]? = some (.int .i64 x)
theorem RowO.block {w w' : World} {v : Value} {xs : List Int} (h : RowO w v xs) (hk : ∀ k, v.ownBlock = some k → w'.heap[k]? = w.heap[k]?) : RowO w' v xs := by
  rcases h with h | ⟨g, off, cap, cur, rfl, hg, h1, h2, h3⟩
  · exact .inl h
  · exact .inr ⟨g, off, cap, cur, rfl, (hk g rfl).trans hg, h1, h2, h3⟩
theorem RowO.lt {w : World} {v : Value} {xs : List Int} (h : RowO w v xs) {k : Nat} (hk : v.ownBlock = some k) : k < w.heap.size := by
  rcases h with ⟨rfl, _⟩ | ⟨g, off, cap, cur, rfl, hg, h1, h2, h3⟩
  · cases hk
  · obtain rfl : g = k := by simpa [Value.ownBlock] using hk
    exact (Array.getElem?_eq_some_iff.1 hg).1
theorem RowO.form {w : World} {v : Value} {xs : List Int} (h : RowO w v xs) : ∃ a c, v = .slice a xs.length c := by
  rcases h with ⟨rfl, rfl⟩ | ⟨g, off, cap, cur, rfl, hg, h1, h2, h3⟩
  · exact ⟨none, 0, rfl⟩
  · exact ⟨_, _, rfl⟩
theorem RowO.at_ {w : World} {v : Value} {xs : List Int} (h : RowO w v xs) {i : Nat} {x : Int} (hi : xs[i]? = some x) : ∃ g off c, v = .slice (some ⟨g, off, none⟩) xs.length c ∧ w.cell? ⟨g, off + i, none⟩ = some (.int .i64 x) := by
  rcases h with ⟨rfl, rfl⟩ | ⟨g, off, cap, cur, rfl, hg, h1, h2, h3⟩
  · simp at hi
  · exact ⟨g, off, cap, rfl, by rw [cell_of_row w g (off + i) cur _ (0, 0) hg]; exact h3 i x hi⟩
/-- The head of a row. -/
theorem RowO.head {w : World} {g off c : Nat} {xs ys : List Int} {y : Int} (h : RowO w (.slice (some ⟨g, off, none⟩) xs.length c) xs) (he : xs = ys ++ [y]) : RowO w (.slice (some ⟨g, off, none⟩) ys.length c) ys := by
  rcases h with ⟨h, _⟩ | ⟨g', off', cap, cur, hv, hg, h1, h2, h3⟩
  · cases h
  · obtain ⟨⟨rfl, rfl⟩, rfl⟩ : (g = g' ∧ off = off') ∧ c = cap := by simpa using hv
    refine .inr ⟨g, off, c, cur, rfl, hg, by rw [he] at h1; simp at h1; omega, h2, fun i x hi => h3 i x ?_⟩
    rw [he, List.getElem?_append_left (by rcases Nat.lt_or_ge i ys.length with h | h; exact h; rw [List.getElem?_eq_none h] at hi; cases hi)]
    exact hi
/-- A row without its first. -/
theorem RowO.tail {w : World} {g off c : Nat} {xs ys : List Int} {y : Int} (h : RowO w (.slice (some ⟨g, off, none⟩) xs.length c) xs) (he : xs = y :: ys) : RowO w (.slice (some ⟨g, off + 1, none⟩) ys.length (c - 1)) ys ∧ (c = 1 → RowO w (.slice (some ⟨g, off, none⟩) ys.length (c - 1)) ys) := by
  rcases h with ⟨h, _⟩ | ⟨g', off', cap, cur, hv, hg, h1, h2, h3⟩
  · cases h
  · obtain ⟨⟨rfl, rfl⟩, rfl⟩ : (g = g' ∧ off = off') ∧ c = cap := by simpa using hv
    have hl : ys.length + 1 ≤ c := by rw [he] at h1; simpa using h1
    refine ⟨.inr ⟨g, off + 1, c - 1, cur, rfl, hg, by omega, by omega, fun i x hi => ?_⟩, fun h1c => .inr ⟨g, off, c - 1, cur, rfl, hg, by omega, by omega, fun i x hi => ?_⟩⟩
    · have := h3 (i + 1) x (by rw [he]; exact hi)
      rw [← this]
      congr 1; omega
    · have h0 : ys = [] := List.eq_nil_of_length_eq_zero (by omega)
      rw [h0] at hi
      simp at hi
theorem RowO.nil (w : World) : RowO w (.slice none 0 0) [] := .inl ⟨rfl, rfl⟩
section
variable {P : Program}
theorem run_append_roomO (w : World) (t ty e : TypeId) (i : TypeInfo) (ht : P.underlying t = some (.slice e)) (hi : P.info? e = some i) (hsz : i.size = 1)
    (g off sLen sCap : Nat) (cur : Array Value) (hg : w.heap[g]? = some (.cells cur e (0, 0))) (a : Addr) (c : Nat) (u : Value) (hu : w.cell? a = some u) (h1 : u.oneCell' = true)
    (hroom : sLen + 1 ≤ sCap) (hfit : off + sLen + 1 ≤ cur.size) :
    (Builtin.append_ #[t, t] ty #[.slice (some ⟨g, off, none⟩) sLen sCap, .slice (some a) 1 c]).run P w =
      .ok (.slice (some ⟨g, off, none⟩) (sLen + 1) sCap) (w.setRow g (cur.toList.take (off + sLen) ++ [u] ++ cur.toList.drop (off + sLen + 1)).toArray) := by
  have hnews : ∀ j u', [u][j]? = some u' → w.cell? (a.add j) = some u' := fun j u' hj => by
    match j, hj with
    | 0, hj =>
      have : a.add 0 = a := by cases a; rename_i b o s; cases s <;> simp [Addr.add]
      rw [this]
      simp at hj
      rw [← hj]; exact hu
    | j + 1, hj => simp at hj
  have hf := run_firstCells_some (P := P) w i.size 1 a 1 c [u] (by rw [hsz]; rfl) hnews
  have hst := run_storeCells_at P g (off + sLen) e [u] 0 cur w hg (by simpa using hfit) (by intro x hx; simp at hx; rw [hx]; exact h1)
  simp only [Nat.add_zero] at hst
  have hadd : (⟨g, off, none⟩ : Addr).add sLen = ⟨g, off + sLen, none⟩ := by unfold Addr.add; split <;> simp_all
  simp [Builtin.append_, run_underlying ht, sizeOf, typeInfo, hi, hsz, Builtin.lenOf, hroom, hadd] at hf hst ⊢
  simp [hf, hst]
end
theorem run_appendO (w : World) (v : Value) (xs : List Int) (x : Int) (h : RowO w v xs) {b c : Nat} (hb : w.cell? ⟨b, 0, none⟩ = some (.int .i64 x)) (hn : xs.length ≤ 1000000) {t : TypeId} [S : SlTy Tryz.prog t 3] [E : ElTy Tryz.prog 3 (.int .i64 0) 1 8] (ty : TypeId) :
    ∃ v' w', (Builtin.append_ #[t, t] ty #[v, .slice (some ⟨b, 0, none⟩) 1 c]).run Tryz.prog w = .ok v' w' ∧ RowO w' v' (xs ++ [x]) ∧ (∃ g off cap, v' = .slice (some ⟨g, off, none⟩) (xs.length + 1) cap) ∧
      ((∃ g, v.ownBlock = some g ∧ v'.ownBlock = some g ∧ w.grownBy w' (some g)) ∨ (v'.ownBlock = some w.heap.size ∧ w.grownBy w' none)) := by
  obtain ⟨i, hi, hz0, hz1, hz2, hz3⟩ := E.out
  have hbytes : i.bytes = 8 := hz2
  have hsz : i.size = 1 := hz1
  have hzc : Value.cells (.int .i64 0) = #[.int .i64 0] := rfl
  have hnews : ∀ j u', [Value.int .i64 x][j]? = some u' → w.cell? ((⟨b, 0, none⟩ : Addr).add j) = some u' := fun j u' hj => by
    match j, hj with
    | 0, hj =>
      simp at hj
      rw [← hj]; exact hb
    | j + 1, hj => simp at hj
  have grown : ∀ (old : Nat), old < xs.length + 1 →
      RowO (w.drew.alloc (.cells ((xs.map (Value.int .i64)).toArray ++ [Value.int .i64 x].toArray ++ Builtin.zeroCells (Value.int .i64 0).cells (grownCap w (xs.length + 1) old 3 - (xs.length + 1))) 3)) (.slice (some ⟨w.heap.size, 0, none⟩) (xs.length + 1) (grownCap w (xs.length + 1) old 3)) (xs ++ [x]) ∧
      w.grownBy (w.drew.alloc (.cells ((xs.map (Value.int .i64)).toArray ++ [Value.int .i64 x].toArray ++ Builtin.zeroCells (Value.int .i64 0).cells (grownCap w (xs.length + 1) old 3 - (xs.length + 1))) 3)) none := by
    intro old ho
    have hge := grownCap_ge w (xs.length + 1) old 3
    refine ⟨.inr ⟨w.heap.size, 0, grownCap w (xs.length + 1) old 3, _, by simp, heap_alloc_new w.drew _, by simpa using hge, ?_, fun j y hj => ?_⟩, ⟨rfl, rfl, rfl, by simp, fun k hk _ => heap_alloc_old w.drew _ hk⟩⟩
    · simp only [Array.size_append, List.size_toArray, size_zeroCells, List.length_map, hzc, List.length_cons, List.length_nil]
      omega
    · rw [Nat.zero_add]
      have hj2 : j < xs.length + 1 := by
        rcases Nat.lt_or_ge j (xs ++ [x]).length with h | h
        · simpa using h
        · rw [List.getElem?_eq_none h] at hj; cases hj
      rw [Array.getElem?_append_left (by simp; omega)]
      have := congrArg (Option.map (Value.int .i64)) hj
      rw [← List.getElem?_map, List.map_append] at this
      simpa using this
  have key : ∀ (a : Option Addr) (cap : Nat), v = .slice a xs.length cap → cap < xs.length + 1 → (∀ j u, (xs.map (Value.int .i64))[j]? = some u → ∀ b', a = some b' → w.cell? (b'.add j) = some u) → (a = none → xs = [] ∧ cap = 0) →
      ∃ v' w', (Builtin.append_ #[t, t] ty #[v, .slice (some ⟨b, 0, none⟩) 1 c]).run Tryz.prog w = .ok v' w' ∧ RowO w' v' (xs ++ [x]) ∧ (∃ g off cap, v' = .slice (some ⟨g, off, none⟩) (xs.length + 1) cap) ∧ (v'.ownBlock = some w.heap.size ∧ w.grownBy w' none) := by
    intro a cap hv hcap holds hnil
    subst hv
    have hgr := grown cap hcap
    cases a with
    | none =>
      obtain ⟨rfl, rfl⟩ := hnil rfl
      have hr := run_append_nil (P := Tryz.prog) w t ty 3 i (.int .i64 0) S.out hi hz0 ⟨b, 0, none⟩ 1 c [.int .i64 x] (by rw [hsz]; rfl) hnews (by decide) (by decide) (by rw [hbytes]; decide)
      exact ⟨_, _, hr, by simpa using hgr.1, ⟨_, _, _, rfl⟩, rfl, by simpa using hgr.2⟩
    | some b' =>
      have hr := run_append_grow (P := Tryz.prog) w t ty 3 i (.int .i64 0) S.out hi hz0 b' xs.length cap (xs.map (Value.int .i64)) (by rw [hsz, List.length_map, Nat.mul_one]) (fun j u hj => holds j u hj b' rfl) ⟨b, 0, none⟩ 1 c [.int .i64 x] (by rw [hsz]; rfl) hnews hcap (by omega) (growslice_fits (by omega) (by rw [hbytes]; omega))
      exact ⟨_, _, hr, hgr.1, ⟨_, _, _, rfl⟩, rfl, hgr.2⟩
  rcases h with ⟨rfl, rfl⟩ | ⟨g, off, cap, cur, rfl, hg, h1, h2, h3⟩
  · obtain ⟨v', w', r1, r2, r3, r4⟩ := key none 0 rfl (by simp) (fun j u hj => by simp at hj) (fun _ => ⟨rfl, rfl⟩)
    exact ⟨v', w', r1, r2, r3, .inr r4⟩
  · have hcl : cur.toList.length = cur.size := Array.length_toList
    by_cases hroom : xs.length + 1 ≤ cap
    · have htl : (cur.toList.take (off + xs.length)).length = off + xs.length := by rw [List.length_take, hcl]; omega
      have hr := run_append_roomO (P := Tryz.prog) w t ty 3 i S.out hi hsz g off xs.length cap cur hg ⟨b, 0, none⟩ c (.int .i64 x) hb rfl hroom (by omega)
      refine ⟨_, _, hr, .inr ⟨g, off, cap, _, by simp, setRow_heap w g cur _ _ _ hg, by simpa using hroom, ?_, fun j y hj => ?_⟩, ⟨_, _, _, rfl⟩, .inl ⟨g, rfl, rfl, ⟨rfl, rfl, rfl, by simp, fun k _ hk => setRow_other w g k _ (fun e => hk (by simp [e]))⟩⟩⟩
      · rw [List.size_toArray, List.length_append, List.length_append, htl, List.length_drop, hcl, List.length_singleton]
        omega
      · rw [List.getElem?_toArray, List.append_assoc]
        rcases Nat.lt_or_ge j xs.length with hj2 | hj2
        · rw [List.getElem?_append_left (by rw [htl]; omega), List.getElem?_take, if_pos (by omega), Array.getElem?_toList]
          exact h3 j y (by rwa [List.getElem?_append_left hj2] at hj)
        · have hj3 : j = xs.length := by
            rcases Nat.lt_or_ge j (xs ++ [x]).length with h | h
            · simp at h; omega
            · rw [List.getElem?_eq_none h] at hj; cases hj
          subst hj3
          rw [List.getElem?_append_right (Nat.le_refl _), Nat.sub_self] at hj
          rw [List.getElem?_append_right (by rw [htl]; omega), htl, Nat.sub_self]
          simp at hj
          rw [← hj]; rfl
    · obtain ⟨v', w', r1, r2, r3, r4⟩ := key (some ⟨g, off, none⟩) cap rfl (by omega) (fun j u hj b' he => by
        obtain rfl := Option.some.inj he
        rw [List.getElem?_map] at hj
        obtain ⟨y, hy, rfl⟩ := Option.map_eq_some_iff.1 hj
        have hadd : (⟨g, off, none⟩ : Addr).add j = ⟨g, off + j, none⟩ := by unfold Addr.add; split <;> simp_all
        rw [hadd, cell_of_row w g (off + j) cur _ (0, 0) hg]
        exact h3 j y hy) (fun h => by cases h)
      exact ⟨v', w', r1, r2, r3, .inr r4⟩
end Go.Proofs.YtnjmplapjnnjdaaGreat

/- Small laws on worlds, trees and kids. -/
namespace Go.Proofs.YtnjmplapjnnjdaaGreat
open Go.RowKit

theorem bOn {w w1 w2 : World} (h1 : Below w.heap.size w w1) (h2 : Below w1.heap.size w1 w2) : Below w.heap.size w w2 := h1.trans (h2.mono h1.size)

theorem TreeIn.setOther {w : World} {p : Pb} {tb pb rb g c : Nat} (h : TreeIn w p tb pb rb g c) {q : Addr} (hq : q.block ≠ tb ∧ q.block ≠ pb ∧ q.block ≠ rb ∧ q.block ≠ g) (v : Value) : TreeIn (w.setCell q v) p tb pb rb g c :=
  ⟨h.tree.setOther hq.1 v, h.prob.setOther hq.2.1 v, h.rate.setOther hq.2.2.1 v, h.win.block (Below.heap_setCell _ _ _ _ (Ne.symm hq.2.2.2)), h.cap⟩
end Go.Proofs.YtnjmplapjnnjdaaGreat

/- The walks of a tree's looks at no tree, and at one that nobody made. -/
namespace Go.Proofs.YtnjmplapjnnjdaaGreat
open Go.RowKit

/-- A tree that nobody made. -/
def rawTree : Array Value := #[.int .i64 0, .int .u64 0, .nilFunc, .int .i64 0, .int .i64 0, .int .i64 0]
/-- No tree, or one that nobody made. -/
def NoTree (w : World) (v : Value) : Prop := v = .pointer none ∨ ∃ tb, v = .pointer (some ⟨tb, 0, none⟩) ∧ Box w tb rawTree
theorem NoTree.kept {w w' : World} {v : Value} (h : NoTree w v) (hB : Below w.heap.size w w') : NoTree w' v := by
  rcases h with h | ⟨tb, h, hb⟩
  · exact .inl h
  · exact .inr ⟨tb, h, hb.kept hB⟩
end Go.Proofs.YtnjmplapjnnjdaaGreat
