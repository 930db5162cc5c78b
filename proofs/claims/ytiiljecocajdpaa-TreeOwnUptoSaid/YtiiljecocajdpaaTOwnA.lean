/- Laws for rows of rows that grow by two; a store of a struct into the midst of a block. No walk. -/
import Derived.Test.YtiiljecocajdpaaKidsT
import Derived.Test.YtiiljecocajdpaaApartB
namespace Go.Proofs.Ytiiljecocajdpaa
open Go.RowKit

/-- THE ARM for a store of a whole struct into some cells of a block. -/
theorem stMid {P : Program} {ops : Array Oper} {rest : List Oper} {l : List Value} {ds : List Deferred} {w : World} {Q : Exit → Act → World → Prop} {t n b o : Nat} {x y : Operand} {cs old : Array Value} {ty : TypeId} {ps : String} {af : Array Edge}
    (hx : (Act.mk l.toArray ds).eval x = .pointer (some ⟨b, o, none⟩)) [T : AggTy P t n] (hy : (Act.mk l.toArray ds).eval y = .agg cs) (hb : Box w b old) (ho : o + n ≤ old.size) (hn : cs.size = n) (hf : cs.all (·.oneCell') = true)
    (h : ∀ w', (∃ new, new.size = old.size ∧ Box w' b new) → But b w w' → w'.heap.size = w.heap.size → wpList P ops Q rest ⟨l.toArray, ds⟩ w') : wpList P ops Q (⟨none, .store t x y, ty, ps, af, none⟩ :: rest) ⟨l.toArray, ds⟩ w := by
  obtain ⟨d, h1, h2, h3⟩ := T.out
  obtain ⟨tb, hb⟩ := hb
  have hr := run_storeCells_at P b o tb cs.toList 0 old w hb (by simp; omega) (fun v hv => (Array.all_eq_true_iff_forall_mem.1 hf) v (by simpa using hv))
  refine wpList_plain rfl fun K hK => ?_
  unfold Oper.wp execOp
  cases hq : P.info? t with
  | none => simp [hq] at h3
  | some i =>
    have hsz : i.size = n := by simpa [hq] using h3
    simp only [hx, hy, Instr.storeAt, Instr.sureAddr, Sem.run_bind, Sem.run_pure, Result.andThen_ok, storeVar, sizeOf, typeInfo, program, Sem.run, hq, hsz, Value.cells, hn, ne_eq, not_true_eq_false, if_false, hr]
    refine hK _ _ (h _ ⟨_, ?_, tb, setRow_heap w b old _ tb _ hb⟩ ⟨rfl, rfl, rfl, by simp, fun k _ hk => setRow_other w b k _ hk⟩ (by simp))
    simp
    omega
theorem Nodes.depth {w : World} {b o k : Nat} {n : Nd} (h : loadAgg w b (o + k * 3) 3 = .ok (.agg n.cells) w) : w.cell? ⟨b, o + k * 3 + 1, none⟩ = some (.int .i64 n.d) := by
  unfold loadAgg at h
  split at h
  · rename_i cs t fr hb
    split at h
    · rename_i hn
      rw [block_cell hb]
      have h1 : cs.extract (o + k * 3) (o + k * 3 + 3) = n.cells := by simpa using h
      have h2 := congrArg (·[1]?) h1
      simp only [Array.getElem?_extract, Nd.cells, nodeCells] at h2
      simp at h2
      exact h2.2
    · cases h
  · cases h
theorem tmod_in0 {N : Int} (h3 : 3 ≤ N) (h4 : N ≤ 1055) (d : Int) : 0 ≤ (wrap64 (d.tmod N + N)).tmod N ∧ (wrap64 (d.tmod N + N)).tmod N < N := by
  have h1 : -N < d.tmod N ∧ d.tmod N < N := by
    refine ⟨?_, Int.tmod_lt_of_pos _ (by omega)⟩
    have := Int.tmod_lt_of_pos (-d) (b := N) (by omega)
    rw [Int.neg_tmod] at this
    omega
  have h2 : wrap64 (d.tmod N + N) = d.tmod N + N := by unfold wrap64; omega
  rw [h2, Int.tmod_eq_emod_of_nonneg (by omega)]
  have := Int.emod_nonneg (d.tmod N + N) (b := N) (by omega)
  have := Int.emod_lt_of_pos (d.tmod N + N) (b := N) (by omega)
  omega
theorem Pb.kids_form (p : Pb) (n : Nd) : (∃ x, p.kids n = [x]) ∨ ∃ x y, p.kids n = [x, y] := by
  unfold Pb.kids Pb.twoK
  split
  · exact .inl ⟨_, rfl⟩
  · split <;> exact .inr ⟨_, _, rfl⟩
theorem Pb.kidBits_form (p : Pb) (n : Nd) : (p.kidBits n).length ≤ 2 := by
  unfold Pb.kidBits Pb.twoB
  split
  · simp
  · split <;> simp
theorem Pb.kids_root {p : Pb} (h : probChk p = 0) : (p.kids ⟨0, 0, 0⟩).length = 2 := by
  obtain ⟨⟨k1, k2⟩, l1, l2, _⟩ := probChk_ok h
  unfold Pb.kids Pb.twoK
  rw [if_neg (by show ¬ p.L ≤ 0; omega)]
  split <;> rfl
/-- Rows of bytes, and two more behind them, in blocks of their own. -/
theorem ap_more {w w' : World} {B e b1 b2 k1 k2 : Nat} {vs : List Value} {mk : Nat → Nat → Value} {c1 c2 : Array Value} (hok : ApOk w B e vs mk 0 0) (hs : ApSep vs)
    (hold : ∀ k, ApH vs k → w'.heap[k]? = w.heap[k]? ∧ k ≠ b1 ∧ k ≠ b2) (h1 : BoxT w' b1 c1 e) (h2 : BoxT w' b2 c2 e) (hne : b1 ≠ b2) (hb1 : B ≤ b1) (hb2 : B ≤ b2) (s1 : c1.size = k1) (s2 : c2.size = k2) (q1 : k1 ≤ 4096) (q2 : k2 ≤ 4096) :
    ApOk w' B e (vs ++ [.slice (some ⟨b1, 0, none⟩) k1 k1, .slice (some ⟨b2, 0, none⟩) k2 k2]) mk 0 0 ∧ ApSep (vs ++ [.slice (some ⟨b1, 0, none⟩) k1 k1, .slice (some ⟨b2, 0, none⟩) k2 k2]) := by
  have at_ : ∀ (i : Nat) (v : Value), (vs ++ [Value.slice (some ⟨b1, 0, none⟩) k1 k1, .slice (some ⟨b2, 0, none⟩) k2 k2])[i]? = some v → (vs[i]? = some v ∧ i < vs.length) ∨ (i = vs.length ∧ v = .slice (some ⟨b1, 0, none⟩) k1 k1) ∨ (i = vs.length + 1 ∧ v = .slice (some ⟨b2, 0, none⟩) k2 k2) := fun i v hv => by
    by_cases hi : i < vs.length
    · rw [List.getElem?_append_left hi] at hv
      exact .inl ⟨hv, hi⟩
    · rw [List.getElem?_append_right (by omega)] at hv
      obtain ⟨d, hd⟩ : ∃ d, d = i - vs.length := ⟨_, rfl⟩
      rw [← hd] at hv
      match d, hv with
      | 0, hv => exact .inr (.inl ⟨by omega, (Option.some.inj hv).symm⟩)
      | 1, hv => exact .inr (.inr ⟨by omega, (Option.some.inj hv).symm⟩)
      | d + 2, hv => simp at hv
  have new : ∀ (b k : Nat) (c : Array Value), BoxT w' b c e → B ≤ b → c.size = k → k ≤ 4096 → w'.ownsRow B e 1 (.slice (some ⟨b, 0, none⟩) k k) k c.toList := fun b k c h hb s q =>
    ⟨by rw [Array.length_toList, s, Nat.mul_one], .inr ⟨b, k, c, rfl, hb, h, Nat.le_refl _, by unfold maxLen; omega, by rw [s, Nat.mul_one], by rw [Nat.mul_one, ← s, ← Array.length_toList, List.take_length]⟩⟩
  refine ⟨fun i v hv => ?_, fun i j v u k hij hv hu hk hk' => ?_⟩
  · rcases at_ i v hv with ⟨hv, _⟩ | ⟨_, rfl⟩ | ⟨_, rfl⟩
    · exact hok.turn (fun i v k hv hk => (hold k ⟨i, v, hv, hk⟩).1) i v hv
    · exact ⟨_, _, _, _, rfl, q1, new b1 k1 c1 h1 hb1 s1 q1, fun j _ h => by omega⟩
    · exact ⟨_, _, _, _, rfl, q2, new b2 k2 c2 h2 hb2 s2 q2, fun j _ h => by omega⟩
  · have e1 : ∀ x b n c, (Value.slice (some ⟨b, 0, none⟩) n c).ownBlock = some x → b = x := fun x b n c h => by simpa [Value.ownBlock] using h
    rcases at_ i v hv with ⟨hv, _⟩ | ⟨h3, rfl⟩ | ⟨h3, rfl⟩ <;> rcases at_ j u hu with ⟨hu, _⟩ | ⟨h4, rfl⟩ | ⟨h4, rfl⟩
    · exact hs i j v u k hij hv hu hk hk'
    · exact (hold k ⟨i, v, hv, hk⟩).2.1 (e1 _ _ _ _ hk').symm
    · exact (hold k ⟨i, v, hv, hk⟩).2.2 (e1 _ _ _ _ hk').symm
    · exact (hold k ⟨j, u, hu, hk'⟩).2.1 (e1 _ _ _ _ hk).symm
    · omega
    · exact hne ((e1 _ _ _ _ hk).trans (e1 _ _ _ _ hk').symm)
    · exact (hold k ⟨j, u, hu, hk'⟩).2.2 (e1 _ _ _ _ hk).symm
    · exact hne ((e1 _ _ _ _ hk').trans (e1 _ _ _ _ hk).symm)
    · omega
/-- Rows lie in blocks of one type, the row of them in another's. -/
theorem ap_apart {w : World} {B B' e e' n i0 j0 k : Nat} {v : Value} {vs us : List Value} {mk : Nat → Nat → Value} (hO : w.ownsRow B' e' 1 v n us) (hok : ApOk w B e vs mk i0 j0) (hne : e ≠ e') (hk : ApH vs k) : v.ownBlock ≠ some k := by
  obtain ⟨i, u, hu, huk⟩ := hk
  obtain ⟨a, m, c, xs, rfl, _, h3, _⟩ := hok i u hu
  intro hv
  rcases hO.2 with ⟨rfl, _⟩ | ⟨g, cap, cur, rfl, _, hg, _⟩
  · cases hv
  rcases h3.2 with ⟨h0, _⟩ | ⟨g', cap', cur', hu', _, hg', _⟩
  · cases h0; cases huk
  obtain ⟨rfl, _⟩ : a = some ⟨g', 0, none⟩ ∧ c = cap' := by simpa using hu'
  obtain rfl : g = k := by simpa [Value.ownBlock] using hv
  obtain rfl : g' = g := by simpa [Value.ownBlock] using huk
  rw [hg] at hg'
  simp at hg'
  exact hne hg'.2.symm
theorem ap_list_own {w : World} {B B' e e' n i0 j0 c : Nat} {a : Option Addr} {vs : List Value} {mk : Nat → Nat → Value} (hO : w.ownsRow B' e' 1 (.slice a n c) n vs) (hok : ApOk w B e vs mk i0 j0) (hne : e ≠ e') : ApList w a vs := fun i v hv => by
  have hO' := hO
  rcases hO.2 with ⟨_, rfl⟩ | ⟨g, cap, cur, h1, _, hg, _⟩
  · have := hO.1
    have : vs = [] := List.eq_nil_of_length_eq_zero (by omega)
    subst this
    simp at hv
  obtain ⟨rfl, rfl⟩ : a = some ⟨g, 0, none⟩ ∧ c = cap := by simpa using h1
  refine ⟨g, 0, rfl, by rw [Nat.zero_add]; exact own_cell hO' hv, fun j u hu h => ap_apart hO' hok hne ⟨j, u, hu, h⟩ rfl⟩
theorem ap_H_ge {w : World} {B e i0 j0 k : Nat} {vs : List Value} {mk : Nat → Nat → Value} (hok : ApOk w B e vs mk i0 j0) (h : ApH vs k) : B ≤ k ∧ k < w.heap.size := by
  obtain ⟨i, v, hv, hk⟩ := h
  exact hok.lt hv hk
theorem to_grow {W w w' : World} {B e e' n m : Nat} {v v' : Value} {vs : List Value} {mk : Nat → Nat → Value} (hO : W.ownsRow B e' 1 v n vs) (hok : ApOk W B e vs mk 0 0) (hne : e ≠ e') (hx : Below W.heap.size W w)
    (hgr : (∃ g c, v = .slice (some ⟨g, 0, none⟩) n c ∧ v' = .slice (some ⟨g, 0, none⟩) m c ∧ w.grownBy w' (some g)) ∨ (v'.ownBlock = some (w.heap.size + 1) ∧ w.grownBy w' none)) (hB : B ≤ w.heap.size) :
    Below B w w' ∧ (∀ q, ApH vs q → w'.heap[q]? = w.heap[q]? ∧ q < W.heap.size) ∧ ∀ q, W.heap.size ≤ q → q < w.heap.size → w'.heap[q]? = w.heap[q]? := by
  have hs := hx.size
  rcases hgr with ⟨g, c, rfl, _, hg⟩ | ⟨_, hg⟩
  · obtain ⟨h1, h2⟩ := World.ownsRow.lt hO g rfl
    refine ⟨⟨hg.os, hg.tape, hg.output, hg.size, fun k hk => hg.block k (by omega) fun e => by have := Option.some.inj e; omega⟩, fun q hq => ⟨?_, (ap_H_ge hok hq).2⟩, fun q h3 h4 => hg.block q h4 fun e => by have := Option.some.inj e; omega⟩
    have := (ap_H_ge hok hq).2
    refine hg.block q (by omega) fun e => ap_apart hO hok hne hq ?_
    obtain rfl := Option.some.inj e
    rfl
  · refine ⟨⟨hg.os, hg.tape, hg.output, hg.size, fun k hk => hg.block k (by omega) (by simp)⟩, fun q hq => ⟨?_, (ap_H_ge hok hq).2⟩, fun q _ h4 => hg.block q h4 (by simp)⟩
    have := (ap_H_ge hok hq).2
    exact hg.block q (by omega) (by simp)
theorem own_formV {w : World} {B e n : Nat} {v : Value} {vs : List Value} (hO : w.ownsRow B e 1 v n vs) : ∃ a c, v = .slice a vs.length c := by
  have h1 : vs.length = n := by have := hO.1; omega
  rw [h1]
  rcases hO.2 with ⟨rfl, rfl⟩ | ⟨g, cap, cur, rfl, _⟩
  · exact ⟨none, 0, rfl⟩
  · exact ⟨_, _, rfl⟩
end Go.Proofs.Ytiiljecocajdpaa
