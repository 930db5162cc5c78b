import Derived.Test.YtkjnmjilkhigaaaWorth
import Derived.Test.YtkjnmjilkhigaaaMetric2
import Derived.Test.YtkjnmjilkhigaaaKidsG
set_option linter.unusedSimpArgs false
set_option linter.unusedVariables false
set_option linter.unnecessarySimpa false
/- Rows that share nothing: how they lie, and the walks of the checks that they do. -/
namespace Go.Proofs.Ytkjnmjilkhigaaa
open Go.RowKit

section
variable {P : Program} (w : World)
/-- The library's law on 'append', with one word more: where the row is a new one, nothing that lay there has turned. -/
theorem run_append_apart (base : Nat) (t ty e : TypeId) (i : TypeInfo) (z : Value) (size bytes : Nat) (ht : P.underlying t = some (.slice e)) (hi : P.info? e = some i) (hz : i.zero = some z)
    (hsize : i.size = size) (hby : i.bytes = bytes) (hzs : z.cells.size = size) (hsz : 0 < size)
    (v : Value) (n : Nat) (xs : List Value) (hown : w.ownsRow base e size v n xs)
    (a : Addr) (m c : Nat) (hm : 0 < m) (news : List Value) (hl : news.length = m * size) (hnews : ∀ j u, news[j]? = some u → w.cell? (a.add j) = some u) (h1 : ∀ u ∈ news, u.oneCell' = true)
    (h63 : n + m ≤ maxLen) (hbytes : (n + m) * bytes ≤ 140737488355328) (hbase : base ≤ w.heap.size) :
    ∃ v' w', (Builtin.append_ #[t, t] ty #[v, .slice (some a) m c]).run P w = .ok v' w' ∧ w'.ownsRow base e size v' (n + m) (xs ++ news) ∧
      ((∃ g c, v = .slice (some ⟨g, 0, none⟩) n c ∧ v' = .slice (some ⟨g, 0, none⟩) (n + m) c ∧ w.grownBy w' (some g)) ∨ (v'.ownBlock = some w.heap.size ∧ w.grownBy w' none)) := by
  subst hsize
  subst hby
  have hlen : (xs ++ news).length = (n + m) * i.size := by rw [List.length_append, hown.1, hl, Nat.add_mul]
  have grown : ∀ (old : Nat), old < n + m →
      (w.drew.alloc (.cells (xs.toArray ++ news.toArray ++ Builtin.zeroCells z.cells (grownCap w (n + m) old e - (n + m))) e)).ownsRow base e i.size
        (.slice (some ⟨w.heap.size, 0, none⟩) (n + m) (grownCap w (n + m) old e)) (n + m) (xs ++ news) ∧
      w.grownBy (w.drew.alloc (.cells (xs.toArray ++ news.toArray ++ Builtin.zeroCells z.cells (grownCap w (n + m) old e - (n + m))) e)) none := by
    intro old ho
    have hge := grownCap_ge w (n + m) old e
    have hcm : grownCap w (n + m) old e ≤ maxLen := grownCap_le_maxLen w (n + m) old e h63
    refine ⟨⟨hlen, .inr ⟨w.heap.size, _, _, rfl, hbase, heap_alloc_new w.drew _, hge, hcm, ?_, ?_⟩⟩, ⟨rfl, rfl, rfl, by simp, fun k hk _ => heap_alloc_old w.drew _ hk⟩⟩
    · simp only [Array.size_append, List.size_toArray, size_zeroCells, hzs, hown.1, hl, ← Nat.add_mul]
      congr 1
      omega
    · simp only [Array.toList_append, List.append_assoc]
      rw [← List.append_assoc, ← hlen]
      exact List.take_left
  have h63' : n + m ≤ 9223372036854775807 := by simp only [maxLen] at h63; omega
  rcases hown.2 with ⟨rfl, rfl⟩ | ⟨g, cap, cur, rfl, hbg, hg, hnc, hcm, hcs, htake⟩
  · have hx : xs = [] := List.eq_nil_of_length_eq_zero (by simpa using hown.1)
    subst hx
    have hr := run_append_nil (P := P) w t ty e i z ht hi hz a m c news hl hnews (by omega) (by omega) (by have hb := hbytes; simp only [Nat.zero_add] at hb; omega)
    have hgr := grown 0 (by omega)
    simp only [Nat.zero_add, List.nil_append, Array.empty_append] at hgr ⊢
    exact ⟨_, _, hr, hgr.1, Or.inr ⟨rfl, hgr.2⟩⟩
  · by_cases hroom : n + m ≤ cap
    · have hfit : n * i.size + news.length ≤ cur.size := by rw [hl, hcs, ← Nat.add_mul]; exact Nat.mul_le_mul_right _ hroom
      have hr := run_append_room (P := P) w t ty e i ht hi g n cap cur hg a m c news hl hnews h1 hroom hfit
      refine ⟨_, _, hr, ⟨hlen, .inr ⟨g, cap, _, rfl, hbg, setRow_heap w g cur _ e _ hg, hroom, hcm, ?_, ?_⟩⟩, Or.inl ⟨g, cap, rfl, rfl, ⟨rfl, rfl, rfl, by simp, fun k _ hk => setRow_other w g k _ (fun e => hk (by simp [e]))⟩⟩⟩
      · simp only [List.size_toArray, List.length_append, List.length_take, List.length_drop, Array.length_toList]
        omega
      · rw [htake, ← hlen]
        exact List.take_left
    · have holds : ∀ j u, xs[j]? = some u → w.cell? ((⟨g, 0, none⟩ : Addr).add j) = some u := hown.cells (g := g) rfl
      have hr := run_append_grow (P := P) w t ty e i z ht hi hz ⟨g, 0, none⟩ n cap xs hown.1 holds a m c news hl hnews (by omega) (by omega) (growslice_fits (by omega) hbytes)
      have hgr := grown cap (by omega)
      exact ⟨_, _, hr, hgr.1, Or.inr ⟨rfl, hgr.2⟩⟩
end
/-- THE ARM, the new elements laid in a block of their own just before. -/
theorem apP {P : Program} {ops : Array Oper} {rest : List Oper} {l : List Value} {ds : List Deferred} {w : World} {Q : Exit → Act → World → Prop} {t e te d n m c size bytes base : Nat} {s x : Operand} {z v : Value} {xs us : List Value} {ty : TypeId} {ps : String} {af : Array Edge}
    [S : SlTy P t e] [E : ElTy P e z size bytes] (hown : w.ownsRow base e size v n xs) (hsz : 0 < size) (hm : 0 < m) (hs : (Act.mk l.toArray ds).eval s = v) (hx : (Act.mk l.toArray ds).eval x = .slice (some ⟨w.heap.size, 0, none⟩) m c)
    (hl : us.length = m * size) (h1 : ∀ u ∈ us, u.oneCell' = true) (h63 : n + m ≤ 9223372036854775807 / 65536) (hbytes : (n + m) * bytes ≤ 140737488355328) (hbase : base ≤ w.heap.size)
    (h : ∀ v' w', w'.ownsRow base e size v' (n + m) (xs ++ us) → ((∃ g c, v = .slice (some ⟨g, 0, none⟩) n c ∧ v' = .slice (some ⟨g, 0, none⟩) (n + m) c ∧ w.grownBy w' (some g)) ∨ (v'.ownBlock = some (w.heap.size + 1) ∧ w.grownBy w' none)) → wpList P ops Q rest ⟨(l.set d v').toArray, ds⟩ w') :
    wpList P ops Q (⟨some d, .call { callee := .builtin .append, args := #[s, x], argTypes := #[t, t] }, ty, ps, af, none⟩ :: rest) ⟨l.toArray, ds⟩ (w.alloc (.cells us.toArray te)) := by
  obtain ⟨i, hi, hz0, hz1, hz2, hz3⟩ := E.out
  obtain ⟨v', w', hr, h2, h3⟩ := run_append_apart (P := P) (w.alloc (.cells us.toArray te)) base t ty e i z size bytes S.out hi hz0 hz1 hz2 hz3 hsz v n xs (hown.alloc _) ⟨w.heap.size, 0, none⟩ m c hm us hl (alloc_cells_new w us te) h1 (by unfold maxLen; omega) hbytes (by simp; omega)
  refine wpList_plain rfl fun K hK => ?_
  unfold Oper.wp execOp
  simp only [resolve, invoke, builtin, Sem.run_bind, Sem.run_pure, Result.andThen_ok, List.map_toArray, List.map_cons, List.map_nil, hs, hx, hr]
  rw [Oper.upon_value, put_list]
  refine hK _ _ (h v' w' h2 ?_)
  rcases h3 with ⟨g, c, h3, h5, h4⟩ | ⟨h3, h4⟩
  · exact .inl ⟨g, c, h3, h5, (World.grownBy_alloc w _ _).trans h4⟩
  · exact .inr ⟨by simpa using h3, (World.grownBy_alloc w _ _).trans h4⟩

/-! ### A row that is owned, where a cell of it is set, or its end grows -/
section
variable {w w' : World} {B : Nat} {e n c g : Nat} {v : Value} {xs : List Value}
theorem owns_set (h : w.ownsRow B e 1 (.slice (some ⟨g, 0, none⟩) n c) n xs) (j : Nat) (u : Value) : (w.setCell ⟨g, j, none⟩ u).ownsRow B e 1 (.slice (some ⟨g, 0, none⟩) n c) n (xs.set j u) := by
  refine ⟨by rw [List.length_set]; exact h.1, ?_⟩
  rcases h.2 with ⟨h, _⟩ | ⟨g', cap, cur, hv, hb, hg, hnc, hcm, hcs, htake⟩
  · cases h
  · obtain ⟨rfl, rfl⟩ : g = g' ∧ c = cap := by simpa using hv
    refine .inr ⟨g, c, cur.setIfInBounds j u, rfl, hb, ?_, hnc, hcm, by simpa using hcs, ?_⟩
    · exact setCell_block w g j u cur e _ hg
    · rw [Array.toList_setIfInBounds, List.take_set, htake]
theorem owns_block (h : w.ownsRow B e 1 v n xs) (hk : ∀ k, v.ownBlock = some k → w'.heap[k]? = w.heap[k]?) : w'.ownsRow B e 1 v n xs := by
  refine ⟨h.1, ?_⟩
  rcases h.2 with h | ⟨g', cap, cur, hv, hb, hg, rest⟩
  · exact .inl h
  · exact .inr ⟨g', cap, cur, hv, hb, (hk g' (by rw [hv]; rfl)).trans hg, rest⟩
/-- a row that has grown in its place -/
theorem owns_prefix {m : Nat} (h : w.ownsRow B e 1 (.slice (some ⟨g, 0, none⟩) (n + m) c) (n + m) xs) : w.ownsRow B e 1 (.slice (some ⟨g, 0, none⟩) n c) n (xs.take n) := by
  have hl := h.1
  refine ⟨by rw [List.length_take]; omega, ?_⟩
  rcases h.2 with ⟨h0, _⟩ | ⟨g', cap, cur, hv, hb, hg, hnc, hcm, hcs, htake⟩
  · cases h0
  obtain ⟨rfl, rfl⟩ : g = g' ∧ c = cap := by simpa using hv
  refine .inr ⟨g, c, cur, rfl, hb, hg, by omega, hcm, hcs, ?_⟩
  have h3 := congrArg (List.take n) htake
  rw [List.take_take, Nat.min_eq_left (by omega)] at h3
  rw [← h3, Nat.mul_one]
end

/-! ### Many rows -/
/-- The rows are owned, hold at most 4096, and bear their marks up to a place. -/
def ApOk (W : World) (B e : Nat) (vs : List Value) (mk : Nat → Nat → Value) (i0 j0 : Nat) : Prop :=
  ∀ i v, vs[i]? = some v → ∃ a n c xs, v = .slice a n c ∧ n ≤ 4096 ∧ W.ownsRow B e 1 v n xs ∧ ∀ j, j < n → (i < i0 ∨ (i = i0 ∧ j < j0)) → xs[j]? = some (mk i j)
def ApSep (vs : List Value) : Prop := ∀ (i j : Nat) (v u : Value) (k : Nat), i ≠ j → vs[i]? = some v → vs[j]? = some u → v.ownBlock = some k → u.ownBlock ≠ some k
def ApList (W : World) (al : Option Addr) (vs : List Value) : Prop :=
  ∀ (i : Nat) (v : Value), vs[i]? = some v → ∃ g o, al = some ⟨g, o, none⟩ ∧ W.cell? ⟨g, o + i, none⟩ = some v ∧ ∀ (j : Nat) (u : Value), vs[j]? = some u → u.ownBlock ≠ some g
def ApH (vs : List Value) (k : Nat) : Prop := ∃ (i : Nat) (v : Value), vs[i]? = some v ∧ v.ownBlock = some k
theorem ApList.turn {w W : World} {al : Option Addr} {vs : List Value} (h : ApList w al vs) (T : Turn (ApH vs) w W) : ApList W al vs := fun i v hv => by
  obtain ⟨g, o, h1, h2, h3⟩ := h i v hv
  have hlt := lt_of_cell h2
  exact ⟨g, o, h1, (World.cell?_of_block (T.block g hlt fun ⟨j, u, hu, hk⟩ => h3 j u hu hk)).trans h2, h3⟩
theorem ApOk.turn {w W : World} {B e : Nat} {vs : List Value} {mk : Nat → Nat → Value} {i0 j0 : Nat} (h : ApOk w B e vs mk i0 j0) (hk : ∀ (i : Nat) (v : Value) (k : Nat), vs[i]? = some v → v.ownBlock = some k → W.heap[k]? = w.heap[k]?) : ApOk W B e vs mk i0 j0 := fun i v hv => by
  obtain ⟨a, n, c, xs, h1, h2, h3, h4⟩ := h i v hv
  exact ⟨a, n, c, xs, h1, h2, owns_block h3 (fun k hb => hk i v k hv hb), h4⟩
theorem ApOk.lt {w : World} {B e : Nat} {vs : List Value} {mk : Nat → Nat → Value} {i0 j0 : Nat} (h : ApOk w B e vs mk i0 j0) {i k : Nat} {v : Value} (hv : vs[i]? = some v) (hk : v.ownBlock = some k) : B ≤ k ∧ k < w.heap.size := by
  obtain ⟨a, n, c, xs, h1, h2, h3, h4⟩ := h i v hv
  exact World.ownsRow.lt h3 k hk
/-- the row at a place, for the walk -/
theorem ApOk.at_ {w : World} {B e : Nat} {vs : List Value} {mk : Nat → Nat → Value} {i0 j0 i : Nat} {v : Value} (h : ApOk w B e vs mk i0 j0) (hv : vs[i]? = some v) : ∃ a n c, v = .slice a n c ∧ n ≤ 4096 ∧ ∀ j, j < n → ∃ g u, a = some ⟨g, 0, none⟩ ∧ w.cell? ⟨g, j, none⟩ = some u ∧ w.frozen? ⟨g, j, none⟩ = false ∧ ((i < i0 ∨ (i = i0 ∧ j < j0)) → u = mk i j) := by
  obtain ⟨a, n, c, xs, rfl, h2, h3, h4⟩ := h i v hv
  refine ⟨a, n, c, rfl, h2, fun j hj => ?_⟩
  have hx : xs.length = n := by have := h3.1; omega
  have h3' := h3
  rcases h3.2 with ⟨h0, h0'⟩ | ⟨g, cap, cur, hv', hb, hg, hnc, hcm, hcs, htake⟩
  · omega
  obtain ⟨rfl, rfl⟩ : a = some ⟨g, 0, none⟩ ∧ c = cap := by simpa using hv'
  have hc := own_cell h3' (j := j) (List.getElem?_eq_getElem (by omega))
  refine ⟨g, _, rfl, hc, Box.frozen ⟨_, hg⟩ j, fun hm => ?_⟩
  have := h4 j hj hm
  rw [List.getElem?_eq_getElem (by omega)] at this
  exact Option.some.inj this
theorem ApOk.set {w : World} {B e : Nat} {vs : List Value} {mk : Nat → Nat → Value} {i j g n c : Nat} (h : ApOk w B e vs mk i j) (hs : ApSep vs) (hv : vs[i]? = some (.slice (some ⟨g, 0, none⟩) n c)) (hj : j < n) : ApOk (w.setCell ⟨g, j, none⟩ (mk i j)) B e vs mk i (j + 1) := fun i' v' hv' => by
  obtain ⟨a, n', c', xs, h1, h2, h3, h4⟩ := h i' v' hv'
  by_cases hi : i' = i
  · subst hi
    rw [hv] at hv'
    obtain rfl := Option.some.inj hv'
    obtain ⟨rfl, rfl, rfl⟩ : some ⟨g, 0, none⟩ = a ∧ n = n' ∧ c = c' := by simpa using h1
    have hx : xs.length = n := by have := h3.1; omega
    refine ⟨_, n, c, _, rfl, h2, owns_set h3 j (mk i' j), fun k hk hm => ?_⟩
    rw [List.getElem?_set]
    by_cases hjk : j = k
    · subst hjk
      rw [if_pos rfl, if_pos (by omega)]
    · rw [if_neg hjk]
      exact h4 k hk (by omega)
  · refine ⟨a, n', c', xs, h1, h2, owns_block h3 fun k hk => ?_, fun k hk hm => h4 k hk (by omega)⟩
    refine Below.heap_setCell _ _ _ _ fun he => ?_
    exact hs i i' _ v' g (fun e => hi e.symm) hv hv' rfl (by rw [hk]; simp at he; rw [he])
theorem ApOk.next {w : World} {B e : Nat} {vs : List Value} {mk : Nat → Nat → Value} {i n c : Nat} {a : Option Addr} (h : ApOk w B e vs mk i n) (hv : vs[i]? = some (.slice a n c)) : ApOk w B e vs mk (i + 1) 0 := fun i' v' hv' => by
  obtain ⟨a', n', c', xs, h1, h2, h3, h4⟩ := h i' v' hv'
  refine ⟨a', n', c', xs, h1, h2, h3, fun k hk hm => h4 k hk ?_⟩
  by_cases hi : i' = i
  · subst hi
    rw [hv] at hv'
    obtain rfl := Option.some.inj hv'
    obtain ⟨_, rfl, _⟩ : a = a' ∧ n = n' ∧ c = c' := by simpa using h1
    exact .inr ⟨rfl, hk⟩
  · exact .inl (by omega)
/-- What grows, beside the rows: it lies behind S, or it is the i-th one itself. -/
def ApMore (W : World) (S B e : Nat) (vs : List Value) (mk : Nat → Nat → Value) (i : Nat) (more : Value) (k : Nat) : Prop :=
  ∃ a n c, vs[i]? = some (.slice a n c) ∧ n ≤ 4096 ∧ ∃ ys, W.ownsRow B e 1 more (n + k) ys ∧ (∀ j, j < n → ys[j]? = some (mk i j)) ∧
    ((∀ b, more.ownBlock = some b → S ≤ b) ∨ more = .slice a (n + k) c)
theorem ApOk.more {w : World} {S B e : Nat} {vs : List Value} {mk : Nat → Nat → Value} {i i0 : Nat} {v : Value} (h : ApOk w B e vs mk i0 0) (hi : i < i0) (hv : vs[i]? = some v) : ApMore w S B e vs mk i v 0 := by
  obtain ⟨a, n, c, xs, rfl, h2, h3, h4⟩ := h i v hv
  exact ⟨a, n, c, hv, h2, xs, h3, fun j hj => h4 j hj (.inl hi), .inr rfl⟩
theorem ApMore.step {w w' : World} {S B e : Nat} {vs : List Value} {mk : Nat → Nat → Value} {i i0 k n : Nat} {more v' : Value} {a : Option Addr} {c : Nat} {ys us : List Value} (hok : ApOk w B e vs mk i0 0) (hs : ApSep vs) (hS : S ≤ w.heap.size) (hlt : ∀ b, ApH vs b → b < S)
    (hv : vs[i]? = some (.slice a n c)) (h2 : n ≤ 4096) (h3 : w.ownsRow B e 1 more (n + k) ys) (h4 : ∀ j, j < n → ys[j]? = some (mk i j)) (h5 : (∀ b, more.ownBlock = some b → S ≤ b) ∨ more = .slice a (n + k) c)
    (hn : w'.ownsRow B e 1 v' (n + k + 1) (ys ++ us))
    (hg : (∃ g c, more = .slice (some ⟨g, 0, none⟩) (n + k) c ∧ v' = .slice (some ⟨g, 0, none⟩) (n + k + 1) c ∧ w.grownBy w' (some g)) ∨ (v'.ownBlock = some (w.heap.size + 1) ∧ w.grownBy w' none)) :
    ApMore w' S B e vs mk i v' (k + 1) ∧ ApOk w' B e vs mk i0 0 ∧ Turn (fun b => ApH vs b ∨ S ≤ b) w w' := by
  have hy : ys.length = n + k := by have := h3.1; omega
  have h4' : ∀ j, j < n → (ys ++ us)[j]? = some (mk i j) := fun j hj => by rw [List.getElem?_append_left (by omega)]; exact h4 j hj
  rcases hg with ⟨g, c', rfl, rfl, hg⟩ | ⟨hb, hg⟩
  · rcases h5 with h5 | h5
    · have hgS := h5 g rfl
      have hng : ¬ApH vs g := fun h => by have := hlt g h; omega
      refine ⟨⟨a, n, c, hv, h2, ys ++ us, hn, h4', .inl fun b hb => ?_⟩, hok.turn fun i' v' b hv' hb => hg.block b (hok.lt hv' hb).2 fun e => hng ⟨i', v', hv', by rw [hb]; exact e⟩, ⟨hg.os, hg.tape, hg.output, hg.size, fun b hb hn => hg.block b hb fun e => hn (.inr (Option.some.inj e ▸ hgS))⟩⟩
      obtain rfl : g = b := by simpa [Value.ownBlock] using hb
      exact hgS
    · obtain ⟨rfl, rfl⟩ : some ⟨g, 0, none⟩ = a ∧ c' = c := by simpa using h5
      refine ⟨⟨_, n, c', hv, h2, ys ++ us, hn, h4', .inr (by rw [Nat.add_assoc])⟩, fun i' v hv' => ?_, ⟨hg.os, hg.tape, hg.output, hg.size, fun b hb hn => hg.block b hb fun e => hn (.inl ⟨i, _, hv, e.symm⟩)⟩⟩
      by_cases hii : i' = i
      · subst hii
        rw [hv] at hv'
        obtain rfl := Option.some.inj hv'
        have hp := owns_prefix (n := n) (m := k + 1) (by rw [← Nat.add_assoc]; exact hn)
        refine ⟨_, n, c', _, rfl, h2, hp, fun j hj _ => ?_⟩
        rw [List.getElem?_take, if_pos hj]
        exact h4' j hj
      · obtain ⟨a', n', c'', xs, e1, e2, e3, e4⟩ := hok i' v hv'
        exact ⟨a', n', c'', xs, e1, e2, owns_block e3 fun b hb => hg.block b (World.ownsRow.lt e3 b hb).2 fun e => hs i i' _ v g (fun e => hii e.symm) hv hv' rfl (by rw [hb]; exact e), e4⟩
  · refine ⟨⟨a, n, c, hv, h2, ys ++ us, hn, h4', .inl fun b hb' => ?_⟩, hok.turn fun i' v' b hv' hb => hg.block b (hok.lt hv' hb).2 (by simp), ⟨hg.os, hg.tape, hg.output, hg.size, fun b hb hn => hg.block b hb (by simp)⟩⟩
    obtain rfl : w.heap.size + 1 = b := by rw [hb] at hb'; exact Option.some.inj hb'
    omega
theorem Turn.apart {w W W' : World} {vs : List Value} (h : Turn (ApH vs) w W) (h' : Turn (fun b => ApH vs b ∨ w.heap.size ≤ b) W W') : Turn (ApH vs) w W' :=
  ((h.mono fun _ _ hk => .inl hk).trans h').mono fun k hk hx => by
    rcases hx with hx | hx
    · exact hx
    · omega
/-- What a check that rows lie apart answers. -/
def ApAns (vs : List Value) (w : World) (e : Ending) (w' : World) : Prop := e = .returned (.bool true) ∧ Turn (ApH vs) w w'
theorem ap_lt {c m : Nat} (h : c < m) : decide ((c : Int) < (m : Int)) = true ∧ (c : Int) < (m : Int) := by constructor; (simp; omega); omega
theorem ap_succ {c : Nat} (h : (c : Int) + 1 ≤ 9223372036854775807) : wrap64 ((c : Int) + 1) = ((c + 1 : Nat) : Int) := by unfold wrap64; omega
theorem ap_meas {c m : Nat} (h : c < m) (h2 : (c : Int) + 1 ≤ 9223372036854775807) : m - (intOf (.int .i64 (wrap64 ((c : Int) + 1)))).toNat < m - (intOf (.int .i64 (c : Int))).toNat := by rw [ap_succ h2]; simp only [intOf]; omega
theorem ap_meas' {c m : Nat} (h : c < m) : m - (intOf (.int .i64 ((c : Int) + 1))).toNat < m - (intOf (.int .i64 (c : Int))).toNat := by simp only [intOf]; omega
theorem ap_end {c m : Nat} (h : ¬ c < m) (h2 : c ≤ m) : c = m := by omega
theorem ap_bd {c m : Nat} (h : c < m) (h2 : (m : Int) ≤ 9223372036854775807) : (c : Int) + 1 ≤ 9223372036854775807 := by omega

end Go.Proofs.Ytkjnmjilkhigaaa

/- Rows of structs of many cells; how a machine's way lies in memory. No walk. -/
namespace Go.Proofs.Ytkjnmjilkhigaaa
open Go.RowKit

section
variable {w w' : World} {B : Nat} {e sz n c g : Nat} {v : Value} {xs : List Value}
theorem ownsN_set (h : w.ownsRow B e sz (.slice (some ⟨g, 0, none⟩) n c) n xs) (j : Nat) (u : Value) : (w.setCell ⟨g, j, none⟩ u).ownsRow B e sz (.slice (some ⟨g, 0, none⟩) n c) n (xs.set j u) := by
  refine ⟨by rw [List.length_set]; exact h.1, ?_⟩
  rcases h.2 with ⟨h, _⟩ | ⟨g', cap, cur, hv, hb, hg, hnc, hcm, hcs, htake⟩
  · cases h
  · obtain ⟨rfl, rfl⟩ : g = g' ∧ c = cap := by simpa using hv
    refine .inr ⟨g, c, cur.setIfInBounds j u, rfl, hb, ?_, hnc, hcm, by simpa using hcs, ?_⟩
    · exact setCell_block w g j u cur e _ hg
    · rw [Array.toList_setIfInBounds, List.take_set, htake]
theorem ownsN_block (h : w.ownsRow B e sz v n xs) (hk : ∀ k, v.ownBlock = some k → w'.heap[k]? = w.heap[k]?) : w'.ownsRow B e sz v n xs := by
  refine ⟨h.1, ?_⟩
  rcases h.2 with h | ⟨g', cap, cur, hv, hb, hg, rest⟩
  · exact .inl h
  · exact .inr ⟨g', cap, cur, hv, hb, (hk g' (by rw [hv]; rfl)).trans hg, rest⟩
theorem ownsN_prefix {m : Nat} (h : w.ownsRow B e sz (.slice (some ⟨g, 0, none⟩) (n + m) c) (n + m) xs) : w.ownsRow B e sz (.slice (some ⟨g, 0, none⟩) n c) n (xs.take (n * sz)) := by
  have hl := h.1
  rw [Nat.add_mul] at hl
  refine ⟨by rw [List.length_take]; omega, ?_⟩
  rcases h.2 with ⟨h0, _⟩ | ⟨g', cap, cur, hv, hb, hg, hnc, hcm, hcs, htake⟩
  · cases h0
  obtain ⟨rfl, rfl⟩ : g = g' ∧ c = cap := by simpa using hv
  refine .inr ⟨g, c, cur, rfl, hb, hg, by omega, hcm, hcs, ?_⟩
  rw [← htake, List.take_take, Nat.min_eq_left (by rw [Nat.add_mul]; omega)]
theorem ownsN_cell (h : w.ownsRow B e sz (.slice (some ⟨g, 0, none⟩) n c) n xs) {j : Nat} {u : Value} (hj : xs[j]? = some u) : w.cell? ⟨g, j, none⟩ = some u := by
  have hlt : j < xs.length := by
    rcases Nat.lt_or_ge j xs.length with h | h
    · exact h
    · rw [List.getElem?_eq_none h] at hj; cases hj
  rw [h.cellAt j (by have := h.1; omega)]
  exact hj
theorem ownsN_lt (h : w.ownsRow B e sz (.slice (some ⟨g, 0, none⟩) n c) n xs) : g < w.heap.size := (World.ownsRow.lt h g rfl).2
theorem ownsN_cap (h : w.ownsRow B e sz (.slice (some ⟨g, 0, none⟩) n c) n xs) : n ≤ c := by
  rcases h.2 with ⟨h0, _⟩ | ⟨g', cap, cur, hv, hb, hg, hnc, hcm, hcs, htake⟩
  · cases h0
  obtain ⟨rfl, rfl⟩ : g = g' ∧ c = cap := by simpa using hv
  exact hnc
/-- A struct of three cells within the row. -/
theorem ownsN_load3 (h : w.ownsRow B e sz (.slice (some ⟨g, 0, none⟩) n c) n xs) {j : Nat} {u0 u1 u2 : Value} (h0 : xs[j]? = some u0) (h1 : xs[j + 1]? = some u1) (h2 : xs[j + 2]? = some u2) : loadAgg w g j 3 = .ok (.agg #[u0, u1, u2]) w := by
  have hl := h.1
  have hlt : j + 2 < xs.length := by
    rcases Nat.lt_or_ge (j + 2) xs.length with h | h
    · exact h
    · rw [List.getElem?_eq_none h] at h2; cases h2
  rcases h.2 with ⟨h', _⟩ | ⟨g', cap, cur, hv, hb, hg, hnc, hcm, hcs, htake⟩
  · cases h'
  obtain ⟨rfl, rfl⟩ : g = g' ∧ c = cap := by simpa using hv
  have hle : n * sz ≤ c * sz := Nat.mul_le_mul_right _ hnc
  rw [loadAgg_block hg (by omega)]
  congr 2
  have key : ∀ i u, xs[j + i]? = some u → j + i < xs.length → cur[j + i]? = some u := fun i u hi hlt => by
    rw [← htake, List.getElem?_take, if_pos (by omega)] at hi
    simpa using hi
  have e0 := key 0 u0 h0 (by omega)
  have e1 := key 1 u1 h1 (by omega)
  have e2 := key 2 u2 h2 (by omega)
  apply Array.ext
  · simp; omega
  · intro i hi hi'
    simp at hi'
    have hs : i < 3 := hi'
    rw [Array.getElem_extract]
    match i, hs with
    | 0, _ => rw [Array.getElem?_eq_getElem (show j + 0 < cur.size by omega)] at e0; exact Option.some.inj e0
    | 1, _ => rw [Array.getElem?_eq_getElem (show j + 1 < cur.size by omega)] at e1; exact Option.some.inj e1
    | 2, _ => rw [Array.getElem?_eq_getElem (show j + 2 < cur.size by omega)] at e2; exact Option.some.inj e2
end
/-- THE ARM, in a region that draws, for the head of a slice of structs. -/
theorem q_slHi {P : Program} {ops : Array Oper} {rest : List Oper} {l l' : List Value} {ds : List Deferred} {w : World} {Q : Act → Prop} {t e d g o n cap j sz : Nat} {x hi : Operand} {k' : IntKind} {ty : TypeId} {ps : String} {af : Array Edge}
    [S : SlTy P t e] [T : AggTy P e sz] (hx : (Act.mk l.toArray ds).eval x = .slice (some ⟨g, o, none⟩) n cap) (hhi : (Act.mk l.toArray ds).eval hi = .int k' (j : Int)) (h2 : j ≤ cap) (hs : l.set d (.slice (some ⟨g, o, none⟩) j cap) = l')
    (h : wpQuiet P ops (fun w' => ∃ s : KeptW w, w' = s.val) Q rest ⟨l'.toArray, ds⟩) : wpQuiet P ops (fun w' => ∃ s : KeptW w, w' = s.val) Q (⟨some d, .slice t x none (some hi) none, ty, ps, af, none⟩ :: rest) ⟨l.toArray, ds⟩ := by
  refine BigFrame.wpQuiet_want rfl fun K hK => ⟨.slice (some ⟨g, o, none⟩) j cap, fun w' ⟨s, hw⟩ => ?_, hK _ (by rw [put_list, hs]; exact h)⟩
  have hr : (Instr.sliceAt t (.slice (some ⟨g, o, none⟩) n cap) none (some (.int k' (j : Int))) none).run P w' = .ok (.slice (some ⟨g, o, none⟩) j cap) w' := by
    have hi1 : ¬ cap < j := by omega
    simp [Instr.sliceAt, Instr.slice, Sem.run_bind, run_underlying S.out, Instr.sliceBounds, Instr.sliceBound, asIntOf, Sem.run_pure, hi1, run_sizeOf (T := T), Addr.add, show j ≤ cap from h2]
  unfold Oper.quietAt execOp
  simp [hx, hhi, Sem.run_bind, hr, Oper.quietUpon]
/-- THE ARM for 'append' of what lies in a block of its own. -/
theorem apQ {P : Program} {ops : Array Oper} {rest : List Oper} {l : List Value} {ds : List Deferred} {w : World} {Q : Exit → Act → World → Prop} {t e d n m c b size bytes base : Nat} {s x : Operand} {z v : Value} {xs us : List Value} {ty : TypeId} {ps : String} {af : Array Edge}
    [S : SlTy P t e] [E : ElTy P e z size bytes] (hown : w.ownsRow base e size v n xs) (hsz : 0 < size) (hm : 0 < m) (hs : (Act.mk l.toArray ds).eval s = v) (hx : (Act.mk l.toArray ds).eval x = .slice (some ⟨b, 0, none⟩) m c) (hb : Box w b us.toArray)
    (hl : us.length = m * size) (h1 : ∀ u ∈ us, u.oneCell' = true) (h63 : n + m ≤ 9223372036854775807 / 65536) (hbytes : (n + m) * bytes ≤ 140737488355328) (hbase : base ≤ w.heap.size)
    (h : ∀ v' w', w'.ownsRow base e size v' (n + m) (xs ++ us) → ((∃ g c, v = .slice (some ⟨g, 0, none⟩) n c ∧ v' = .slice (some ⟨g, 0, none⟩) (n + m) c ∧ w.grownBy w' (some g)) ∨ (v'.ownBlock = some w.heap.size ∧ w.grownBy w' none)) → wpList P ops Q rest ⟨(l.set d v').toArray, ds⟩ w') :
    wpList P ops Q (⟨some d, .call { callee := .builtin .append, args := #[s, x], argTypes := #[t, t] }, ty, ps, af, none⟩ :: rest) ⟨l.toArray, ds⟩ w := by
  obtain ⟨i, hi, hz0, hz1, hz2, hz3⟩ := E.out
  obtain ⟨v', w', hr, h2, h3⟩ := run_append_apart (P := P) w base t ty e i z size bytes S.out hi hz0 hz1 hz2 hz3 hsz v n xs hown ⟨b, 0, none⟩ m c hm us hl (fun j u hj => by
    have hadd : (⟨b, 0, none⟩ : Addr).add j = ⟨b, j, none⟩ := by unfold Addr.add; split <;> simp_all
    rw [hadd, hb.cell]
    simpa using hj) h1 (by unfold maxLen; omega) hbytes hbase
  refine wpList_plain rfl fun K hK => ?_
  unfold Oper.wp execOp
  simp only [resolve, invoke, builtin, Sem.run_bind, Sem.run_pure, Result.andThen_ok, List.map_toArray, List.map_cons, List.map_nil, hs, hx, hr]
  rw [Oper.upon_value, put_list]
  exact hK _ _ (h v' w' h2 h3)
/-! ### A row of spots -/
def Spot.row (x : Spot) : List Value := [.int .u32 x.n.s, .int .i64 x.n.d, .int .i64 x.n.m, .int .u8 x.b, .int .i64 x.t]
def spotRows (l : List Spot) : List Value := l.flatMap Spot.row
def wayRow (x : Spot) (up : List Spot) : List Value := spotRows ((x :: up).reverse)
theorem spotRows_len (l : List Spot) : (spotRows l).length = l.length * 5 := by
  unfold spotRows
  induction l with
  | nil => rfl
  | cons x l ih => rw [List.flatMap_cons, List.length_append, ih, List.length_cons, Nat.add_mul]; show 5 + _ = _; omega
theorem spotRows_get : ∀ (l : List Spot) (i j : Nat) (x : Spot), j < 5 → l[i]? = some x → (spotRows l)[i * 5 + j]? = x.row[j]?
  | [], _, _, _, _, h => by simp at h
  | y :: l, 0, j, x, hj, h => by
    obtain rfl : y = x := by simpa using h
    unfold spotRows
    rw [List.flatMap_cons, List.getElem?_append_left (by show 0 * 5 + j < 5; omega)]
    simp
  | y :: l, i + 1, j, x, hj, h => by
    have ih := spotRows_get l i j x hj (by simpa using h)
    unfold spotRows at ih ⊢
    rw [List.flatMap_cons, List.getElem?_append_right (by show 5 ≤ _; omega)]
    show (List.flatMap Spot.row l)[(i + 1) * 5 + j - 5]? = _
    rw [← ih]
    congr 1; omega
theorem spotRows_app (l m : List Spot) : spotRows (l ++ m) = spotRows l ++ spotRows m := by simp [spotRows]
theorem wayRow_len (x : Spot) (up : List Spot) : (wayRow x up).length = (up.length + 1) * 5 := by rw [wayRow, spotRows_len]; simp
theorem wayRow_top (x : Spot) (up : List Spot) {j : Nat} (hj : j < 5) : (wayRow x up)[up.length * 5 + j]? = x.row[j]? :=
  spotRows_get _ _ _ _ hj (by simp [List.reverse_cons])
theorem wayRow_up (x y : Spot) (ys : List Spot) {j : Nat} (hj : j < 5) : (wayRow x (y :: ys))[ys.length * 5 + j]? = y.row[j]? :=
  spotRows_get _ _ _ _ hj (by simp [List.reverse_cons, List.append_assoc])
theorem wayRow_pop (x y : Spot) (ys : List Spot) : (wayRow x (y :: ys)).take ((ys.length + 1) * 5) = wayRow y ys := by
  unfold wayRow
  rw [List.reverse_cons (a := x), spotRows_app, List.take_append_of_le_length (by rw [spotRows_len]; simp), List.take_of_length_le (by rw [spotRows_len]; simp)]
theorem wayRow_push (x : Spot) (up : List Spot) (z : Spot) : wayRow x up ++ z.row = wayRow z (x :: up) := by
  unfold wayRow
  rw [List.reverse_cons (a := z), spotRows_app]
  simp [spotRows]
theorem wayRow_tried (x : Spot) (up : List Spot) (t : Nat) : (wayRow x up).set (up.length * 5 + 4) (.int .i64 (t : Int)) = wayRow ⟨x.n, x.b, t⟩ up := by
  unfold wayRow
  rw [List.reverse_cons, List.reverse_cons, spotRows_app, spotRows_app, List.set_append_right _ _ (by rw [spotRows_len]; simp)]
  congr 1
  rw [spotRows_len, List.length_reverse, Nat.add_sub_cancel_left]
  simp [spotRows, Spot.row]
theorem wayRow_nodes (x : Spot) (up : List Spot) {i : Nat} {y : Spot} (h : (x :: up).reverse[i]? = some y) {j : Nat} (hj : j < 5) : (wayRow x up)[i * 5 + j]? = y.row[j]? := spotRows_get _ _ _ _ hj h
end Go.Proofs.Ytkjnmjilkhigaaa
