import Derived.Test.YtnjmplapjnnjdaaLExact17b
import Derived.Test.YtnjmplapjnnjdaaDocLook
import Derived.Test.YtnjmplapjnnjdaaLClean17
set_option linter.unusedSimpArgs false
set_option linter.unusedVariables false
set_option linter.unnecessarySimpa false
/- The search of layer 17, plain: where there is room for the budget nothing is dropped, and what is erased leaves many nodes above the line. -/
namespace Go.Proofs.Ytnjmplapjnnjdaa
open Go.RowKit

/-! ### Nodes above a line, by their bits -/
def Pb.Stay (p : Pb) (line : Int) : Nat → Nd → List Nat → Prop
  | _, x, [] => line ≤ x.m
  | 0, _, _ :: _ => False
  | f + 1, x, b :: t => line ≤ x.m ∧ b ∈ p.kidBits x ∧ Pb.Stay p line f (p.kid x b) t
theorem Pb.Stay.ge {p : Pb} {line : Int} {f : Nat} {x : Nd} {t : List Nat} (h : p.Stay line f x t) : line ≤ x.m := by
  cases t with
  | nil => cases f <;> exact h
  | cons b t =>
    cases f with
    | zero => exact h.elim
    | succ f => exact h.1
def tailsOf (b : Nat) (Ls : List (List Nat)) : List (List Nat) := Ls.filterMap fun t => match t with
  | c :: r => if c = b then some r else none
  | [] => none
theorem mem_tailsOf {b : Nat} {Ls : List (List Nat)} {r : List Nat} : r ∈ tailsOf b Ls ↔ b :: r ∈ Ls := by
  unfold tailsOf
  rw [List.mem_filterMap]
  constructor
  · rintro ⟨t, ht, h⟩
    cases t with
    | nil => cases h
    | cons c s =>
      simp only at h
      split at h
      · rename_i hc
        obtain rfl := Option.some.inj h
        rw [← hc]
        exact ht
      · cases h
  · intro h
    exact ⟨_, h, by simp⟩
theorem nodup_tailsOf {b : Nat} : ∀ {Ls : List (List Nat)}, Ls.Nodup → (tailsOf b Ls).Nodup
  | [], _ => List.nodup_nil
  | t :: Ls, h => by
    obtain ⟨h1, h2⟩ := List.nodup_cons.1 h
    have ih := nodup_tailsOf (b := b) h2
    cases t with
    | nil => exact ih
    | cons c s =>
      by_cases hc : c = b
      · have e : tailsOf b ((c :: s) :: Ls) = s :: tailsOf b Ls := by unfold tailsOf; simp [hc]
        rw [e, List.nodup_cons]
        exact ⟨fun hm => h1 (by rw [hc]; exact mem_tailsOf.1 hm), ih⟩
      · have e : tailsOf b ((c :: s) :: Ls) = tailsOf b Ls := by unfold tailsOf; simp [hc]
        rw [e]
        exact ih
theorem len_tailsOf : ∀ {Ls : List (List Nat)}, (∀ t ∈ Ls, ∀ c r, t = c :: r → c = 0 ∨ c = 1) → Ls.length = (Ls.filter fun t => t.isEmpty).length + (tailsOf 0 Ls).length + (tailsOf 1 Ls).length
  | [], _ => rfl
  | t :: Ls, h => by
    have ih := len_tailsOf (Ls := Ls) fun t ht => h t (List.mem_cons_of_mem _ ht)
    cases t with
    | nil =>
      have e0 : ∀ b, tailsOf b ([] :: Ls) = tailsOf b Ls := fun b => rfl
      rw [e0, e0]
      simp
      omega
    | cons c s =>
      have hc := h (c :: s) (by simp) c s rfl
      rcases hc with rfl | rfl
      · have e0 : tailsOf 0 ((0 :: s) :: Ls) = s :: tailsOf 0 Ls := by unfold tailsOf; simp
        have e1 : tailsOf 1 ((0 :: s) :: Ls) = tailsOf 1 Ls := by unfold tailsOf; simp
        rw [e0, e1]
        simp
        omega
      · have e0 : tailsOf 0 ((1 :: s) :: Ls) = tailsOf 0 Ls := by unfold tailsOf; simp
        have e1 : tailsOf 1 ((1 :: s) :: Ls) = s :: tailsOf 1 Ls := by unfold tailsOf; simp
        rw [e0, e1]
        simp
        omega
theorem len_empties {Ls : List (List Nat)} (h : Ls.Nodup) : (Ls.filter fun t => t.isEmpty).length ≤ 1 := by
  have h1 : (Ls.filter fun t => t.isEmpty).Nodup := h.filter _
  have h2 : ∀ t ∈ Ls.filter fun t => t.isEmpty, t = [] := fun t ht => by
    have := (List.mem_filter.1 ht).2
    simpa using this
  match hl : Ls.filter fun t => t.isEmpty with
  | [] => rw [hl]; simp
  | [_] => rw [hl]; simp
  | a :: b :: r =>
    rw [hl] at h1 h2
    have ha := h2 a (by simp)
    have hb := h2 b (by simp)
    rw [ha, hb] at h1
    simp at h1
theorem Pb.ways_list (p : Pb) (line : Int) : ∀ (f : Nat) (x : Nd) (Ls : List (List Nat)), Ls.Nodup → (∀ t ∈ Ls, p.Stay line f x t) → (Ls.length : Int) ≤ p.ways line f x
  | 0, x, Ls, hn, hs => by
    have he := len_empties hn
    have hall : Ls.filter (fun t => t.isEmpty) = Ls := by
      rw [List.filter_eq_self]
      intro t ht
      have := hs t ht
      cases t with
      | nil => rfl
      | cons b t => exact this.elim
    rw [hall] at he
    unfold Pb.ways
    split
    · rename_i hlt
      cases Ls with
      | nil => simp
      | cons t Ls => have := (hs t (by simp)).ge; omega
    · omega
  | f + 1, x, Ls, hn, hs => by
    unfold Pb.ways
    split
    · rename_i hlt
      cases Ls with
      | nil => simp
      | cons t Ls => have := (hs t (by simp)).ge; omega
    · have hkb : ∀ b, b ∈ p.kidBits x → b = 0 ∨ b = 1 := fun b hb => by
        unfold Pb.kidBits Pb.twoB at hb
        split at hb
        · simp at hb; exact .inl hb
        · split at hb <;> simp at hb <;> omega
      have hlen := len_tailsOf (Ls := Ls) fun t ht c r e => by
        have := hs t ht
        rw [e] at this
        exact hkb c this.2.1
      have he := len_empties hn
      have i0 := p.ways_list line f (p.kid x (0 : Nat)) (tailsOf 0 Ls) (nodup_tailsOf hn) fun r hr => (hs _ (mem_tailsOf.1 hr)).2.2
      have i1 := p.ways_list line f (p.kid x (1 : Nat)) (tailsOf 1 Ls) (nodup_tailsOf hn) fun r hr => (hs _ (mem_tailsOf.1 hr)).2.2
      have i0' : ((tailsOf 0 Ls).length : Int) ≤ p.ways line f (p.kid x 0) := i0
      have i1' : ((tailsOf 1 Ls).length : Int) ≤ p.ways line f (p.kid x 1) := i1
      unfold Pb.kids
      split
      · rename_i hL
        have hno : tailsOf 1 Ls = [] := by
          rw [List.eq_nil_iff_forall_not_mem]
          intro r hr
          have := (hs _ (mem_tailsOf.1 hr)).2.1
          unfold Pb.kidBits at this
          rw [if_pos hL] at this
          simp at this
        rw [hno] at hlen
        simp only [List.foldl_cons, List.foldl_nil]
        simp at hlen
        omega
      · unfold Pb.twoK
        split <;> simp only [List.foldl_cons, List.foldl_nil] <;> omega
/-! ### Nothing is dropped -/
theorem Bq.put_fits {D : Int} {most : Nat} {s : Bq} {x : Ent} (h : s.L.length + 1 ≤ most) : s.put D most x = { s with L := s.L ++ [x] } := by
  unfold Bq.put
  rw [if_pos (by simpa using h)]
theorem Bq.puts_fit {D : Int} {most : Nat} : ∀ (l : List Ent) {s : Bq}, s.L.length + l.length ≤ most → l.foldl (Bq.put D most) s = { s with L := s.L ++ l }
  | [], s, _ => by simp
  | x :: l, s, h => by
    simp only [List.length_cons] at h
    rw [List.foldl_cons, Bq.put_fits (by omega), Bq.puts_fit l (by simp; omega)]
    simp
/-- An entry whose bits are those of the tree. -/
def Pb.Tail (p : Pb) (e : Ent) : Prop := ∀ i b, e.bs[i]? = some b → b = p.bit e.bs i
structure Bq.Room (p : Pb) (D K : Int) (s : Bq) (V : List Ent) (k : Nat) : Prop where
  len : s.L.length ≤ k + 1
  no : s.some_ = false ∧ s.drops = 0
  vlen : V.length = k
  nd : ((V ++ s.L).map fun e => e.bs).Nodup
  up : ∀ y ∈ V ++ s.L, y.bs = [] ∨ ∃ x ∈ V, ∃ b, y.bs = x.bs ++ [b]
  ok : ∀ y ∈ V ++ s.L, y.Ok p ∧ p.Tail y
  hi : ∀ x ∈ V, K ≤ x.dip / D
theorem Pb.twoB_nodup (p : Pb) (n : Nd) : (p.kidBits n).Nodup := by
  unfold Pb.kidBits Pb.twoB
  split
  · simp
  · split <;> simp
theorem Pb.kidEnts_bs (p : Pb) (x : Ent) : (p.kidEnts x).map (fun e => e.bs) = (p.kidBits x.n).map fun b => x.bs ++ [b] := by
  unfold Pb.kidEnts
  rw [List.map_map]
  have e : ((fun e : Ent => e.bs) ∘ fun y : Nd × Nat => (⟨y.1, x.bs ++ [y.2], min x.dip y.1.m⟩ : Ent)) = (fun b => x.bs ++ [b]) ∘ Prod.snd := rfl
  rw [e, ← List.map_map, List.map_snd_zip (by rw [p.kbits_len]; exact Nat.le_refl _)]
theorem erase_perm {α : Type} {l : List α} {j : Nat} {x : α} (h : l[j]? = some x) : l.Perm (x :: l.eraseIdx j) := by
  obtain ⟨p1, p2⟩ := parts_at h
  rw [p2]
  conv => lhs; rw [p1]
  exact List.perm_middle
theorem Bq.Room.step {p : Pb} (h : probChk p = 0) {D K : Int} {most : Nat} {s : Bq} (hs : s.Ok p D most) (hf : s.found = none) {V : List Ent} {k : Nat} (hr : s.Room p D K V k) (hm : k + 2 ≤ most) (hb : K ≤ (s.best D).dip / D) :
    ((p.bstep D most s).found = some (s.best D) ∧ (p.bstep D most s).some_ = false ∧ (p.bstep D most s).drops = 0) ∨ ∃ V', (p.bstep D most s).Room p D K V' (k + 1) := by
  have hne := hs.ne hf
  have hg := Bq.best_get (D := D) hne
  have hbo := hs.ents _ (List.mem_of_getElem? hg)
  unfold Pb.bstep
  split
  · exact .inl ⟨rfl, hr.no⟩
  · rename_i hd
    right
    obtain ⟨x, hx⟩ : ∃ x, x = s.best D := ⟨_, rfl⟩
    rw [← hx] at hg hbo hd hb ⊢
    have hkl : (p.kidEnts x).length ≤ 2 := by
      unfold Pb.kidEnts
      rw [List.length_map, List.length_zip, p.kbits_len, Nat.min_self]
      exact p.kids_len x.n
    have hel : (s.L.eraseIdx (nextIx D s.L)).length = s.L.length - 1 := List.length_eraseIdx_of_lt (nextIx_lt hne)
    have hlen := hr.len
    have hfit := Bq.puts_fit (D := D) (most := most) (p.kidEnts x) (s := { s with L := s.L.eraseIdx (nextIx D s.L), work := wrap64 (s.work + 1) }) (by show (s.L.eraseIdx _).length + _ ≤ most; omega)
    rw [hfit]
    have hperm := erase_perm hg
    have hP : (V ++ s.L).Perm ((V ++ [x]) ++ s.L.eraseIdx (nextIx D s.L)) := by
      rw [List.append_assoc]
      exact List.Perm.append_left _ hperm
    have hnd1 : (((V ++ [x]) ++ s.L.eraseIdx (nextIx D s.L)).map fun e => e.bs).Nodup := (hP.map _).nodup_iff.1 hr.nd
    have hxm : x ∈ V ++ s.L := List.mem_append_right _ (List.mem_of_getElem? hg)
    have hold : ∀ y ∈ (V ++ [x]) ++ s.L.eraseIdx (nextIx D s.L), y ∈ V ++ s.L := fun y hy => hP.mem_iff.2 hy
    have hnew : ∀ b, ∀ y ∈ V ++ s.L, y.bs ≠ x.bs ++ [b] := fun b y hy e => by
      rcases hr.up y hy with h0 | ⟨z, hz, c, hc⟩
      · rw [h0] at e; simp at e
      · rw [hc] at e
        have ezx : z.bs = x.bs := (List.append_inj' e rfl).1
        have hdis := (List.nodup_append.1 (by rw [← List.map_append]; exact hr.nd : (V.map (fun e => e.bs) ++ s.L.map fun e => e.bs).Nodup)).2.2
        exact hdis _ (List.mem_map.2 ⟨z, hz, rfl⟩) _ (List.mem_map.2 ⟨x, List.mem_of_getElem? hg, rfl⟩) ezx
    refine ⟨V ++ [x], ⟨?_, hr.no, by rw [List.length_append, hr.vlen]; rfl, ?_, fun y hy => ?_, fun y hy => ?_, fun y hy => ?_⟩⟩
    · show (s.L.eraseIdx _ ++ p.kidEnts x).length ≤ k + 1 + 1
      rw [List.length_append]
      omega
    · show ((V ++ [x] ++ (s.L.eraseIdx (nextIx D s.L) ++ p.kidEnts x)).map fun e => e.bs).Nodup
      rw [← List.append_assoc, List.map_append, p.kidEnts_bs, List.nodup_append]
      refine ⟨hnd1, ?_, ?_⟩
      · rw [List.nodup_iff_pairwise_ne, List.pairwise_map]
        exact (p.twoB_nodup x.n).imp fun hne e => hne (by simpa using e)
      · intro u hu v hv e
        obtain ⟨y, hy, rfl⟩ := List.mem_map.1 hu
        obtain ⟨b, _, rfl⟩ := List.mem_map.1 hv
        exact hnew b y (hold y hy) e
    · have hy' : y ∈ (V ++ [x] ++ s.L.eraseIdx (nextIx D s.L)) ++ p.kidEnts x := by rw [List.append_assoc]; exact hy
      rcases List.mem_append.1 hy' with hy' | hy'
      · rcases hr.up y (hold y hy') with h0 | ⟨z, hz, c, hc⟩
        · exact .inl h0
        · exact .inr ⟨z, List.mem_append_left _ hz, c, hc⟩
      · obtain ⟨z, _, rfl⟩ := List.mem_map.1 hy'
        exact .inr ⟨x, by simp, z.2, rfl⟩
    · have hy' : y ∈ (V ++ [x] ++ s.L.eraseIdx (nextIx D s.L)) ++ p.kidEnts x := by rw [List.append_assoc]; exact hy
      rcases List.mem_append.1 hy' with hy' | hy'
      · exact hr.ok y (hold y hy')
      · refine ⟨(hbo.kids h hd y hy').1, ?_⟩
        obtain ⟨⟨kn, b⟩, hz, rfl⟩ := List.mem_map.1 hy'
        obtain ⟨i, hi⟩ := List.getElem?_of_mem hz
        rw [List.getElem?_zip_eq_some] at hi
        obtain ⟨_, e2, e3⟩ : kn = p.kid x.n b ∧ b < 2 ∧ (p.L ≤ x.n.d → b = 0) := p.kids_get x.n hi.1 hi.2
        have hxd : x.n.d = (x.bs.length : Int) := by rw [hbo.nd]; rfl
        intro j c hc
        have hc' : (x.bs ++ [b])[j]? = some c := hc
        show c = p.bit (x.bs ++ [b]) j
        rcases Nat.lt_or_ge j x.bs.length with hj | hj
        · rw [List.getElem?_append_left hj] at hc'
          rw [p.bit_app _ _ hj]
          exact (hr.ok x hxm).2 j c hc'
        · rw [List.getElem?_append_right hj] at hc'
          have hj0 : j - x.bs.length = 0 := by
            rcases Nat.eq_zero_or_pos (j - x.bs.length) with h0 | h0
            · exact h0
            · rw [List.getElem?_eq_none (by simp; omega)] at hc'; cases hc'
          rw [hj0] at hc'
          obtain rfl := Option.some.inj hc'
          obtain rfl : j = x.bs.length := by omega
          unfold Pb.bit
          split
          · simp [List.getD_eq_getElem?_getD]
          · rw [e3 (by omega)]
    · rcases List.mem_append.1 hy with hy | hy
      · exact hr.hi y hy
      · rw [List.mem_singleton.1 hy]
        exact hb
theorem Bq.Room.start {p : Pb} {D K : Int} {most : Nat} (hm : 1 ≤ most) : (Bq.start D most).Room p D K [] 0 := by
  have e1 : Bq.start D most = ⟨[ent0], 0, 0, 0, false, none⟩ := by
    unfold Bq.start Bq.put
    rw [if_pos (by simpa using hm)]
    rfl
  rw [e1]
  refine ⟨by simp, ⟨rfl, rfl⟩, rfl, by simp, fun y hy => ?_, fun y hy => ?_, fun y hy => by cases hy⟩
  · have : y = ent0 := by simpa using hy
    rw [this]
    exact .inl rfl
  · have : y = ent0 := by simpa using hy
    rw [this]
    exact ⟨Ent.Ok.zero, fun i b hb => by simp [ent0] at hb⟩
/-- A search that has room for its budget. -/
theorem Bq.roomy {p : Pb} (h : probChk p = 0) {D K : Int} (hD : 1 ≤ D) {most : Nat} (hm : 1 ≤ most) {q : List Nat} (hq : ∀ b ∈ q, b < 2) (hK : K = dipOf (p.pm q) / D) : ∀ k, k + 1 ≤ most →
    ((∃ e, (p.brun D most k (Bq.start D most)).found = some e) ∧ (p.brun D most k (Bq.start D most)).some_ = false ∧ (p.brun D most k (Bq.start D most)).drops = 0) ∨
    ((p.brun D most k (Bq.start D most)).found = none ∧ ∃ V, (p.brun D most k (Bq.start D most)).Room p D K V k)
  | 0, _ => .inr ⟨by
      have e1 : Bq.start D most = ⟨[ent0], 0, 0, 0, false, none⟩ := by
        unfold Bq.start Bq.put
        rw [if_pos (by simpa using hm)]
        rfl
      show (Bq.start D most).found = none
      rw [e1], [], Bq.Room.start hm⟩
  | k + 1, hk => by
    have hs0 : (Bq.start D most).Ok p D most := Bq.Ok.start hm
    have hok := hs0.run h hm k
    have hex := Bq.Ex.run h hD hm hq hK k hs0 (Bq.Ex.start hm hK hD)
    rcases Bq.roomy h hD hm hq hK k (by omega) with ⟨⟨e, h1⟩, h2, h3⟩ | ⟨h1, V, hV⟩
    · left
      have e1 : p.brun D most (k + 1) (Bq.start D most) = p.brun D most k (Bq.start D most) := by rw [p.brun_snoc, if_pos (by rw [h1]; rfl)]
      rw [e1]
      exact ⟨⟨e, h1⟩, h2, h3⟩
    · have e1 : p.brun D most (k + 1) (Bq.start D most) = p.bstep D most (p.brun D most k (Bq.start D most)) := by rw [p.brun_snoc, if_neg (by rw [h1]; simp)]
      rw [e1]
      have hbest : K ≤ ((p.brun D most k (Bq.start D most)).best D).dip / D := by
        have hstep := hex.step h hD hm hq hK hok h1
        -- the next entry is in no lower bucket
        have hne := hok.ne h1
        have hg := Bq.best_get (D := D) hne
        have hbo := hok.ents _ (List.mem_of_getElem? hg)
        unfold Bq.Ex at hex
        rw [h1] at hex
        rcases hex with ⟨hl, _⟩ | ⟨⟨e, he, ho⟩, hp⟩
        · rw [hV.no.1] at hl; cases hl
        · rw [hbo.dip_par]
          refine min_ediv (hp _ (List.mem_of_getElem? hg)) ?_
          obtain ⟨i, hi⟩ := List.getElem?_of_mem he
          have hil := (List.getElem?_eq_some_iff.1 hi).1
          have hmax := (lastMax_facts (keysOf D (p.brun D most k (Bq.start D most)).L) _ hne).2.1 i hil
          have k1 : (keysOf D (p.brun D most k (Bq.start D most)).L).getD i 0 = e.n.m / D := by
            unfold keysOf
            rw [List.getD_eq_getElem?_getD, List.getElem?_map, hi]
            rfl
          have k2 : (keysOf D (p.brun D most k (Bq.start D most)).L).getD (lastMax (keysOf D (p.brun D most k (Bq.start D most)).L) (p.brun D most k (Bq.start D most)).L.length) 0 = ((p.brun D most k (Bq.start D most)).best D).n.m / D := by
            unfold keysOf
            rw [List.getD_eq_getElem?_getD, List.getElem?_map]
            show (((p.brun D most k (Bq.start D most)).L[nextIx D (p.brun D most k (Bq.start D most)).L]?).map _).getD 0 = _
            rw [hg]
            rfl
          rw [k1, k2] at hmax
          have := ediv_mono hD (ho.ge h (hok.ents e he))
          omega
      rcases hV.step h hok h1 (by omega) hbest with ⟨a1, a2, a3⟩ | ⟨V', hV'⟩
      · exact .inl ⟨⟨_, a1⟩, a2, a3⟩
      · cases hfd : (p.bstep D most (p.brun D most k (Bq.start D most))).found with
        | none => exact .inr ⟨rfl, V', hV'⟩
        | some e => exact .inl ⟨⟨e, rfl⟩, hV'.no⟩
theorem Ent.Ok.stay {p : Pb} (h : probChk p = 0) {line : Int} {e : Ent} (he : e.Ok p) (ht : p.Tail e) (hm : ∀ i, i ≤ e.bs.length → line ≤ (p.nd e.bs i).m) : p.Stay line p.N.toNat ⟨0, 0, 0⟩ e.bs := by
  have hN := Pb.N_le h
  have hlen := he.len
  have key : ∀ j i, i + j = e.bs.length → p.Stay line (p.N.toNat - i) (p.nd e.bs i) (e.bs.drop i) := by
    intro j
    induction j with
    | zero =>
      intro i hi
      rw [List.drop_of_length_le (by omega)]
      have := hm i (by omega)
      cases (p.N.toNat - i) <;> exact this
    | succ j ih =>
      intro i hi
      have hil : i < e.bs.length := by omega
      have hiN : i < p.N.toNat := by omega
      rw [List.drop_eq_getElem_cons hil, show p.N.toNat - i = (p.N.toNat - (i + 1)) + 1 by omega]
      have hbit : e.bs[i] = p.bit e.bs i := ht i _ (List.getElem?_eq_getElem hil)
      refine ⟨hm i (by omega), ?_, ?_⟩
      · refine p.kidBits_mem _ (he.lt _ (List.getElem_mem hil)) fun hL => ?_
        rw [hbit]
        unfold Pb.bit
        rw [if_neg (by have : ((i : Nat) : Int) = (p.nd e.bs i).d := rfl; omega)]
      · rw [hbit, Pb.nd_succ h e.bs hiN]
        exact ih (i + 1) (by omega)
  have := key e.bs.length 0 (by omega)
  rw [p.nd_zero] at this
  simpa using this
/-- THE LAW: what is erased leaves more nodes than the budget in the bucket or above. -/
theorem Bq.erased {p : Pb} (h : probChk p = 0) {D K : Int} (hD : 1 ≤ D) {most : Nat} (hm : 1 ≤ most) {q : List Nat} (hq : ∀ b ∈ q, b < 2) (hK : K = dipOf (p.pm q) / D) {k : Nat} (hk : k + 1 ≤ most) (hf : (p.brun D most k (Bq.start D most)).found = none) : ((k + 1 : Nat) : Int) ≤ p.ways (K * D) p.N.toNat ⟨0, 0, 0⟩ := by
  obtain ⟨s, hs⟩ : ∃ s, s = p.brun D most k (Bq.start D most) := ⟨_, rfl⟩
  have hs0 : (Bq.start D most).Ok p D most := Bq.Ok.start hm
  have hok := hs0.run h hm k
  have hex := Bq.Ex.run h hD hm hq hK k hs0 (Bq.Ex.start hm hK hD)
  rcases Bq.roomy h hD hm hq hK k hk with ⟨⟨e, h1⟩, _⟩ | ⟨_, V, hV⟩
  · rw [hf] at h1; cases h1
  rw [← hs] at hV hok hex hf
  unfold Bq.Ex at hex
  rw [hf] at hex
  rcases hex with ⟨hl, _⟩ | ⟨⟨e, he, ho⟩, _⟩
  · rw [hV.no.1] at hl; cases hl
  have hline : ∀ m : Int, K ≤ m / D → K * D ≤ m := fun m hm => (Int.le_ediv_iff_mul_le (by omega)).1 hm
  have hem : e ∈ V ++ s.L := List.mem_append_right _ he
  have hnd : ((V ++ [e]).map fun e => e.bs).Nodup := by
    have h1 := hV.nd
    rw [List.map_append, List.nodup_append] at h1 ⊢
    refine ⟨h1.1, by simp, fun u hu v hv => h1.2.2 u hu v ?_⟩
    simp at hv
    rw [hv]
    exact List.mem_map.2 ⟨e, he, rfl⟩
  have hstay : ∀ t ∈ (V ++ [e]).map (fun e => e.bs), p.Stay (K * D) p.N.toNat ⟨0, 0, 0⟩ t := by
    intro t ht
    obtain ⟨y, hy, rfl⟩ := List.mem_map.1 ht
    rcases List.mem_append.1 hy with hy | hy
    · obtain ⟨yo, yt⟩ := hV.ok y (List.mem_append_left _ hy)
      refine yo.stay h yt fun i hi => ?_
      have h1 := hline _ (hV.hi y hy)
      have h2 : y.dip ≤ (p.nd y.bs i).m := by
        rw [yo.dip]
        exact dipOf_le (List.mem_map.2 ⟨i, List.mem_range.2 (by omega), rfl⟩)
      omega
    · rw [List.mem_singleton.1 hy]
      obtain ⟨yo, yt⟩ := hV.ok e hem
      refine yo.stay h yt fun i hi => ?_
      have hlen := yo.len
      have e1 : p.nd e.bs i = p.nd q i := by
        refine Pb.nd_congr h (by omega) fun j hj => ?_
        have e2 : e.bs[j]? = some (p.bit q j) := by rw [ho, List.getElem?_take, if_pos (by omega), p.full_get q (by omega)]
        exact (yt j _ e2).symm
      rw [e1]
      have h3 : dipOf (p.pm q) ≤ (p.nd q i).m := by
        have e2 : p.pm q = (List.range (p.N.toNat + 1)).map fun i => (p.nd q i).m := by
          unfold Pb.pm Pb.psums
          rw [p.pathL_len]
          rfl
        rw [e2]
        exact dipOf_le (List.mem_map.2 ⟨i, List.mem_range.2 (by omega), rfl⟩)
      have h4 := hline (dipOf (p.pm q)) (by rw [hK]; exact Int.le_refl _)
      omega
  have := p.ways_list (K * D) p.N.toNat ⟨0, 0, 0⟩ _ hnd hstay
  rw [List.length_map, List.length_append, List.length_singleton, hV.vlen] at this
  exact this
end Go.Proofs.Ytnjmplapjnnjdaa

/- outpostlaw17.BucketdecErased: a search that has room for its budget drops nothing, and erases only where many nodes stay above. -/
namespace Go.Proofs.Ytnjmplapjnnjdaa
open Go.RowKit

theorem min_full {W : Int} {n : Nat} (h : ((n + 1 : Nat) : Int) ≤ W) (hn : n ≤ 65535) : min (min ((n : Int) + 1) 1048577) W = (n : Int) + 1 := by
  have h1 : min ((n : Int) + 1) 1048577 = (n : Int) + 1 := Int.min_eq_left (by omega)
  rw [h1]
  exact Int.min_eq_left h
theorem Pb.count_full (p : Pb) {dip : Int} {n : Nat} (h : ((n + 1 : Nat) : Int) ≤ p.ways dip p.N.toNat ⟨0, 0, 0⟩) (hn : n ≤ 65535) : p.count dip ((n : Int) + 1) = (n : Int) + 1 := by
  rw [p.count_eq, if_neg (show ¬((n : Int) + 1 < 1) by omega)]
  exact min_full h hn
/-- What comes of a search with room for its budget. -/
structure Pb.Roomy (p : Pb) (bn : Nat) (D : Int) (r : Rs) (c : Int) : Prop where
  prob : probChk p = 0
  d1 : 1 ≤ D
  d2 : D ≤ 65536
  drops : r.drops = 0
  exact_ : r.exact_ = r.dec
  work : r.work ≤ bn
  erased : r.dec = false → r.work = bn ∧ p.count (c / D * D) (bn + 1) = bn + 1
theorem Pb.roomy17 {p : Pb} {bn : Nat} (hbn : bn ≤ 65535) {D : Int} (h : p.seE ((bn : Int) + 1) bn D = 0) {q : List Nat} (hq : p.Path q) : p.Roomy bn D (p.seR ((bn : Int) + 1) bn D) (p.dip q) := by
  have hz : newE p ((bn : Int) + 1) D = 0 := by
    unfold Pb.seE at h
    split at h
    · rename_i hz; exact absurd h hz
    · rename_i hz; simpa using hz
  obtain ⟨hc, c1, c2, D1, D2, _⟩ := newE_zero hz
  have e1 : p.seR ((bn : Int) + 1) bn D = p.bres D (p.brun D (bn + 1) bn (Bq.start D (bn + 1))) := by
    unfold Pb.seR
    rw [if_neg (by simp [hz]), if_neg (by omega)]
    rfl
  rw [e1]
  have hm : 1 ≤ bn + 1 := by omega
  have hs0 : (Bq.start D (bn + 1)).Ok p D (bn + 1) := Bq.Ok.start hm
  obtain ⟨i, hi, hw, hin⟩ := Bq.Wk.run hc hm bn hs0 (Bq.Wk.start (D := D) hm)
  have hqd : p.dip q = dipOf (p.pm q) := by
    have hck : p.pathChk q = 0 := Pb.path_chk hc hq.len hq.lt
    unfold Pb.dip
    rw [if_neg (by simp [hck])]
  have hr := Bq.roomy hc D1 hm hq.lt (K := dipOf (p.pm q) / D) rfl bn (Nat.le_refl _)
  have her := fun hf => Bq.erased hc D1 hm hq.lt (K := dipOf (p.pm q) / D) rfl (k := bn) (Nat.le_refl _) hf
  obtain ⟨s, hs⟩ : ∃ s, s = p.brun D (bn + 1) bn (Bq.start D (bn + 1)) := ⟨_, rfl⟩
  rw [← hs] at hr hw hin her ⊢
  have hwk : s.work = (i : Int) := work_fact hw.work hi (by omega)
  rcases hr with ⟨⟨e, h1⟩, h2, h3⟩ | ⟨h1, V, hV⟩
  · have hb2 : p.bres D s = ⟨true, !s.some_ || decide (s.gone ≤ e.dip / D), e.bs.take p.L.toNat, e.n.m, e.dip, s.work, s.drops⟩ := by unfold Pb.bres; rw [h1]
    rw [hb2]
    refine ⟨hc, D1, D2, h3, ?_, ?_, fun hd => by cases hd⟩
    · show (!s.some_ || _) = true
      rw [h2]
      rfl
    · show s.work ≤ bn
      rw [hwk]
      exact Int.ofNat_le.2 hi
  · have hb2 : p.bres D s = ⟨false, false, [], 0, 0, s.work, s.drops⟩ := by unfold Pb.bres; rw [h1]
    rw [hb2]
    have hib := hin h1
    refine ⟨hc, D1, D2, hV.no.2, rfl, ?_, fun _ => ⟨?_, ?_⟩⟩
    · show s.work ≤ bn
      rw [hwk]
      exact Int.ofNat_le.2 hi
    · show s.work = bn
      rw [hwk, hib]
    · have hw2 := her h1
      rw [hqd]
      exact p.count_full hw2 hbn
/-- What Decode says where it says no. -/
theorem Pb.seE_bad {p : Pb} {bn : Nat} (hbn : bn ≤ 65535) {D : Int} (h : p.seE ((bn : Int) + 1) bn D ≠ 0) :
    (probChk p ≠ 0 ∧ p.seE ((bn : Int) + 1) bn D = probChk p) ∨ (probChk p = 0 ∧ p.seE ((bn : Int) + 1) bn D = 140 ∧ decide (D < 1) = true) ∨ (probChk p = 0 ∧ p.seE ((bn : Int) + 1) bn D = 140 ∧ decide (D < 1) = false ∧ decide (65536 < D) = true) ∨
    (probChk p = 0 ∧ p.seE ((bn : Int) + 1) bn D = 6 ∧ decide (D < 1) = false ∧ decide (65536 < D) = false) := by
  unfold Pb.seE at h ⊢
  split at h
  · rename_i hz
    rw [if_pos hz]
    unfold newE at hz ⊢
    by_cases hc : probChk p = 0
    · rw [if_neg (by simp [hc]), if_neg (by omega)] at hz ⊢
      by_cases h1 : D < 1
      · exact .inr (.inl ⟨hc, by rw [if_pos (.inl h1)], by simpa using h1⟩)
      · by_cases h2 : 65536 < D
        · exact .inr (.inr (.inl ⟨hc, by rw [if_pos (.inr h2)], by simpa using h1, by simpa using h2⟩))
        · rw [if_neg (by omega)] at hz ⊢
          split at hz
          · exact absurd rfl hz
          · rename_i hk
            exact .inr (.inr (.inr ⟨hc, by rw [if_neg hk], by simpa using h1, by simpa using h2⟩))
    · exact .inl ⟨hc, by rw [if_pos hc]⟩
  · rename_i hz
    rw [if_neg (by omega)] at h
    exact absurd rfl h
set_option maxRecDepth 5000 in
set_option maxHeartbeats 1000000 in
theorem law17_Erased (p : Pb) (a : Option Addr) (ca : Nat) (hp : p.Ok) (hcap : p.B.length ≤ ca) (b : Int) (b0 : -9223372036854775808 ≤ b) (b1 : b ≤ 9223372036854775807) (D : Int) (D0 : -9223372036854775808 ≤ D) (D1 : D ≤ 9223372036854775807)
    (q : List Nat) (aq : Option Addr) (cq : Nat) (hq63 : (q.length : Int) ≤ 9223372036854775807) (w : World) (hw : Bytes w a p.B) (hq : Bytes w aq q) :
    Pure Try.prog 10 #[.agg (p.cells (.slice a p.B.length ca)), .int .i64 b, .int .i64 D, .slice aq q.length cq] w (.bool true) := by
  obtain ⟨t1, t2⟩ := tmod1 b b0 b1
  go_enter Try.func10, Try.ntmps10
  go_upto_region 1 with fail
  refine name1 ?_
  intro w0 bp B0
  have hw0 := hw.kept B0
  go_upto_region 2 with fail
  obtain ⟨bn, hbn⟩ : ∃ bn : Nat, (wrap64 (b.tmod 65536 + 65536)).tmod 65536 = (bn : Int) := ⟨((wrap64 (b.tmod 65536 + 65536)).tmod 65536).toNat, by omega⟩
  rw [hbn] at t1 t2 ⊢
  have hb5 : bn ≤ 65535 := by omega
  clear hbn t1 t2
  obtain ⟨fk, fr, flev, fl, fwin, fcode, ftable, fall⟩ := bp.prob hp
  clear fk fr flev fl fwin fcode ftable
  have hdec := se_Decode p a ca ((bn : Int) + 1) bn D hp w0 hw0
  have hbad := @Pb.seE_bad p bn hb5 D
  have hgood := fun h => @Pb.roomy17 p bn hb5 D h (bitsOf q p.L.toNat) (Pb.path_bitsOf (Pb.seE_prob h) q)
  obtain ⟨r, hr⟩ : ∃ r, r = p.seR ((bn : Int) + 1) bn D := ⟨_, rfl⟩
  obtain ⟨E, hE⟩ : ∃ E, E = p.seE ((bn : Int) + 1) bn D := ⟨_, rfl⟩
  rw [← hr, ← hE] at hdec
  rw [← hE] at hbad
  rw [← hr, ← hE] at hgood
  clear hr hE
  go_wp2_with ((with_reducible apply ld); rfl; (with_reducible assumption); (simp only [List.set_cons_zero, List.set_cons_succ]; rfl))
  refine hdec.mono ?_
  rintro e w1 ⟨⟨ar, cr, rfl, hO⟩, B1⟩
  clear hdec fall
  obtain ⟨R, hR⟩ : ∃ R, R = r.cells (.slice ar r.bits.length cr) := ⟨_, rfl⟩
  have hRs : R.size = 7 := by rw [hR]; rfl
  have hfl : Flat R := by rw [hR]; exact flatR
  rw [← hR]
  have HRS := Lib.hid hRs
  have HR := Lib.hid hR
  have bn1 := Box.new w1 #[.bool false, .bool false, .slice none 0 0, .int .i64 0, .int .i64 0, .int .i64 0, .int .i64 0] 35
  have bp1 := bp.kept B1
  clear hRs hR
  go_upto_region 3 with (first | ((with_reducible apply ld); rfl; (with_reducible assumption); (simp only [List.set_cons_zero, List.set_cons_succ]; rfl)) | ((with_reducible apply stO); rfl; rfl; exact bn1; rfl; exact HRS.out; exact hfl; intro w2 b2 B2 ho2 hs2))
  have B21 : Below w1.heap.size w1 w2 := ((Below.refl _ w1).alloc (Nat.le_refl _) _).trans B2
  have B20 := bOn (bOn B0 B1) B21
  have bp2 := bp1.kept B21
  obtain ⟨rb, hrb⟩ : ∃ rb, rb = w1.heap.size := ⟨_, rfl⟩
  rw [← hrb] at b2 ⊢
  rw [HR.out] at b2
  clear bn1 ho2 hs2 B2 HRS hrb bp1 bp hO hfl
  by_cases hne : E = 0
  · subst hne
    have F := hgood rfl
    obtain ⟨mL, hmL⟩ : ∃ m, m = p.L.toNat := ⟨_, rfl⟩
    rw [← hmL] at F
    have HML := Lib.hid hmL
    clear hmL hbad hgood
    go_wp2_with fail
    refine (law17_num 0 _).mono ?_
    rintro e w3 ⟨rfl, B3⟩
    go_wp2_with fail
    refine (law17_knows _).mono ?_
    rintro e w5' ⟨rfl, B4⟩
    obtain ⟨w5, hw5e⟩ : ∃ w5, w5 = w5' := ⟨_, rfl⟩
    rw [← hw5e] at B4 ⊢
    clear hw5e
    have B50 := bOn (bOn B20 B3) B4
    have b5 := (b2.kept B3).kept B4
    have bp5 := (bp2.kept B3).kept B4
    obtain ⟨fk, fr, flev, fl5, fwin, fcode, ftable, fall⟩ := bp5.prob hp
    clear fk fr flev fwin fcode ftable fall b2 bp2 B3 B4 B20
    go_upto_region 5 with fail
    (refine wp_region_treeE (.pure 0 (.pure 1 (.pure 2 (.pure 3 (.one 4 (.one 5 (.pure 6 (.pure 7 (.pure 8 (.one 9 (.one 10 .nil))))))))))) (by kernel_rfl) (by kernel_rfl) ?_; simp only [List.getD_cons_zero, List.getD_cons_succ, wpOTE])
    intro w6 B6
    have bp6 := bp5.kept B6
    have b6 := b5.kept B6
    have B60 := bOn B50 B6
    have hw6 := hw.kept B60
    have hq6 := hq.kept B60
    refine ⟨rfl, .agg (p.cells (.slice a p.B.length ca)), fun W hW => pure_ldS rfl ((bp6.kept hW).load (off := 0) (n := 40) (cs' := p.cells (.slice a p.B.length ca)) (by rw [hp.size]; decide) (by rw [Array.extract_eq_self_of_le (by rw [hp.size]; decide)])), ?_⟩
    try simp only [put_list, List.set_cons_zero, List.set_cons_succ]
    iterate 3
      refine ⟨rfl, _, fun W hW => by have fl := (hW.cell (Nat.lt_of_lt_of_le (lt_of_cell fl5) B6.size)).trans ((B6.cell (lt_of_cell fl5)).trans fl5); go_simp; first | done | rfl, ?_⟩
      try simp only [put_list, List.set_cons_zero, List.set_cons_succ]
    refine one_call rfl rfl inferInstance rfl ?_
    have hbits := law11_Bits q aq cq p.L (by have := (probChk_ok F.prob).2.2.1; omega) hq63 w6 hq6
    rw [← HML.out] at hbits
    refine hbits.mono ?_
    rintro e w7 ⟨rfl, bq, B7⟩
    refine ⟨_, rfl, rfl, B7, ?_⟩
    simp only [List.set_cons_zero, List.set_cons_succ]
    have bp7 := bp6.kept B7
    have b7 := b6.kept B7
    have B70 := bOn B60 B7
    have hw7 := hw.kept B70
    have hbl := bitsOf_len q mL
    have hby : Bytes w7 (some ⟨w6.heap.size, 0, none⟩) (bitsOf q mL) := Box.bytes bq fun x hx => by
      obtain ⟨i, _, rfl⟩ := List.mem_map.1 hx
      omega
    have hml : (mL : Int) ≤ 1024 := by have := (probChk_ok F.prob).2.2.1; have := HML.out; omega
    have hdp := score_Dip p a ca hp hcap (bitsOf q mL) (some ⟨w6.heap.size, 0, none⟩) mL (by rw [hbl]; omega) w7 hw7 hby
    have hck : p.pathChk (bitsOf q mL) = 0 := by rw [HML.out]; have := Pb.path_bitsOf F.prob q; exact Pb.path_chk F.prob this.len this.lt
    rw [hbl, hck] at hdp
    refine one_call rfl rfl inferInstance rfl ?_
    refine hdp.mono ?_
    rintro e w8 ⟨rfl, B8⟩
    refine ⟨_, rfl, rfl, B8, ?_⟩
    simp only [List.set_cons_zero, List.set_cons_succ]
    iterate 3
      refine ⟨rfl, _, fun W hW => by go_simp; first | done | rfl, ?_⟩
      try simp only [put_list, List.set_cons_zero, List.set_cons_succ]
    refine one_val rfl (v := .int .i64 (p.dip (bitsOf q mL))) (by go_simp) ⟨Below.refl _ _, ?_⟩
    try simp only [put_list, List.set_cons_zero, List.set_cons_succ]
    refine one_val rfl (v := .int .i64 0) (by go_simp) ⟨Below.refl _ _, ?_⟩
    try simp only [put_list, List.set_cons_zero, List.set_cons_succ]
    have b8 := b7.kept B8
    have bp8 := bp7.kept B8
    have B80 := bOn B70 B8
    have hcb := p.dip_bd17 (bitsOf q mL)
    obtain ⟨Fd1, Fd2⟩ : 1 ≤ D ∧ D ≤ 65536 := ⟨F.d1, F.d2⟩
    obtain ⟨fdr, fex, fwk, fer⟩ : r.drops = 0 ∧ r.exact_ = r.dec ∧ r.work ≤ bn ∧ (r.dec = false → r.work = bn ∧ p.count (p.dip (bitsOf q mL) / D * D) (bn + 1) = bn + 1) := ⟨F.drops, F.exact_, F.work, F.erased⟩
    have hc := F.prob
    obtain ⟨cc, hcc⟩ : ∃ c, c = p.dip (bitsOf q mL) := ⟨_, rfl⟩
    rw [← hcc] at hcb fer ⊢
    clear hdp hby bq hbits hcc F hck hbl
    go_wp2_with fail
    refine (law17_num 0 _).mono ?_
    rintro e w9 ⟨rfl, B9⟩
    have b9 := b8.kept B9
    have bp9 := bp8.kept B9
    have B90 := bOn B80 B9
    have d0 : w9.cell? ⟨rb, 0, none⟩ = some (.bool r.dec) := b9.cell 0
    have d1 : w9.cell? ⟨rb, 1, none⟩ = some (.bool r.dec) := by rw [← fex]; exact b9.cell 1
    have d5 : w9.cell? ⟨rb, 5, none⟩ = some (.int .i64 r.work) := b9.cell 5
    have d6 : w9.cell? ⟨rb, 6, none⟩ = some (.int .i64 0) := by rw [← fdr]; exact b9.cell 6
    have g1 : (r.dec != r.dec) = false := by simp
    clear fex fdr b8 bp8 B9
    cases hX : r.dec with
    | true =>
      rw [hX] at d0 d1
      have g2 : decide (r.work ≤ (bn : Int)) = true := by simpa using fwk
      clear hX g1 fer
      go_wp2
      go_ret
      exact ⟨rfl, B90⟩
    | false =>
      obtain ⟨h1, h2⟩ := fer hX
      rw [hX] at d0 d1
      rw [h1] at d5
      clear hX g1 fer fwk h1
      have hw9 := hw.kept B90
      obtain ⟨fk, fr, flev, fl, fwin, fcode, ftable, fall⟩ := bp9.prob hp
      clear fk fr flev fl fwin fcode ftable
      go_wp2_with ((with_reducible apply ld); rfl; (with_reducible assumption); (simp only [List.set_cons_zero, List.set_cons_succ]; rfl))
      refine (tree_New p a ca hp hc _ hw9).mono ?_
      rintro e w10 ⟨⟨tb, pb, rb', g, c, rfl, hT, _⟩, B10⟩
      have B100 := bOn B90 B10
      have d5' := (B10.cell (lt_of_cell d5)).trans d5
      clear fall d0 d1 d5 d6
      go_wp2_with fail
      refine (law17_num 0 _).mono ?_
      rintro e w11 ⟨rfl, B11⟩
      have hT11 := hT.kept B11
      have d5'' := (B11.cell (lt_of_cell d5')).trans d5'
      have f1 := fun W => law17_floor cc D (by omega) (by omega) W
      have e1 : flr17 cc D = cc / D := by unfold flr17; rw [if_neg (by omega)]
      rw [e1] at f1
      have hmod := Int.emod_add_mul_ediv cc D
      have hm0 := Int.emod_nonneg cc (b := D) (by omega)
      have hm1 := Int.emod_lt_of_pos cc (b := D) (by omega)
      rw [Int.mul_comm D] at hmod
      obtain ⟨X, hX⟩ : ∃ X, X = cc / D := ⟨_, rfl⟩
      rw [← hX] at f1 hmod h2
      have hx1 : -100000000 ≤ X * D ∧ X * D ≤ 100000000 := by omega
      have hcnt := fun W hW => tree_Count p hp hc (tb := tb) (pb := pb) (rb := rb') (g := g) (c := c) (X * D) ((bn : Int) + 1) W hW
      rw [h2] at hcnt
      clear hX e1 hmod hm0 hm1 d5' hT
      go_wp2_with fail
      refine (f1 _).mono ?_
      rintro e w12 ⟨rfl, B12⟩
      have hT12 := hT11.kept B12
      go_wp2_with fail
      refine (hcnt _ hT12).mono ?_
      rintro e w13 ⟨rfl, B13⟩
      go_wp2
      go_ret
      exact ⟨rfl, bOn (bOn (bOn B100 B11) B12) B13⟩
  · have hcases := hbad hne
    have hE1 : (E != 0) = true := by simp [hne]
    clear hgood hbad hne b2
    go_wp2_with fail
    refine (law17_num E _).mono ?_
    rintro e w3 ⟨rfl, B3⟩
    have bp3 := bp2.kept B3
    have B30 := bOn B20 B3
    have hw3 := hw.kept B30
    have gall : loadAgg w3 w.heap.size 0 40 = .ok (.agg (p.cells (.slice a p.B.length ca))) w3 := bp3.load (off := 0) (n := 40) (cs' := p.cells (.slice a p.B.length ca)) (by rw [hp.size]; decide) (by rw [Array.extract_eq_self_of_le (by rw [hp.size]; decide)])
    clear bp2
    have hchk := fun W (hW : Bytes W a p.B) => score_Check p a ca hp W hW
    rcases hcases with ⟨hc, rfl⟩ | ⟨hc, rfl, x1⟩ | ⟨hc, rfl, x1, x2⟩ | ⟨hc, rfl, x1, x2⟩
    case' inr.inl => rw [hc] at hchk
    case' inr.inr.inl => rw [hc] at hchk
    case' inr.inr.inr => rw [hc] at hchk
    all_goals
      clear hc
      go_upto_region 4 with fail
      refine wp_region_kept (by kernel_rfl) (by kernel_rfl) ?_
      iterate 34
        first
        | go_big_quiet_skip
        | ((with_reducible apply q_ld); rfl; (with_reducible assumption); (simp only [List.set_cons_zero, List.set_cons_succ]; rfl))
        | ((with_reducible apply q_ldG); rfl; rfl; (with_reducible assumption); (simp only [List.set_cons_zero, List.set_cons_succ]; rfl))
        | go_big_quiet_step (fail)
        | go_big_quiet_step (exact Calls.kept (law17_num _ _))
        | go_big_quiet_step (exact Calls.kept (hchk _ (hw3.kept (Subtype.property _))))
        | go_big_quiet_step (exact Calls.kept (law17_knows _))
      refine wpQuiet_nil ?_
      intro w4 B4
      go_wp2
      go_ret
      exact ⟨rfl, bOn B30 B4⟩
end Go.Proofs.Ytnjmplapjnnjdaa
