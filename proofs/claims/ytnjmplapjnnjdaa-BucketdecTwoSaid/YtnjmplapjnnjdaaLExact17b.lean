import Derived.Test.YtnjmplapjnnjdaaSeDec
import Derived.Test.YtnjmplapjnnjdaaKnow
import Derived.Test.YtnjmplapjnnjdaaBkNew
import Derived.Test.YtnjmplapjnnjdaaDocCount
import Derived.Test.YtnjmplapjnnjdaaFill
import Derived.Test.YtnjmplapjnnjdaaKid
import Derived.Test.YtnjmplapjnnjdaaLFloors
import Derived.Laws.CopyRow
set_option linter.unusedSimpArgs false
set_option linter.unusedVariables false
set_option linter.unnecessarySimpa false
/- outpostlaw17: num, floor, knows. -/
namespace Go.Proofs.Ytnjmplapjnnjdaa
open Go.RowKit

theorem law17_num (e : Int) (w : World) : Pure Try.prog 14 #[.int .i64 e] w (.int .i64 e) := by
  go_enter Try.func14, Try.ntmps14
  go_wp2
  go_ret
  exact ⟨rfl, Below.refl _ _⟩
theorem plain17 : plainPb.seE 10 10 4 = 0 ∧ plainPb.seR 10 10 4 = ⟨true, true, [1], 6, 0, 4, 0⟩ := ⟨by decide +kernel, by kernel_rfl⟩
set_option maxRecDepth 5000 in
theorem law17_knows (w : World) : Pure Try.prog 17 #[] w (.bool true) := by
  go_enter Try.func17, Try.ntmps17
  go_wp2_with fail
  refine (law11_Plain _).mono ?_
  rintro e w1 ⟨⟨g, rfl, hB, _⟩, B1⟩
  have hd := se_Decode plainPb (some ⟨g, 0, none⟩) 6 10 10 4 plainPb_ok _ hB
  rw [plain17.1, plain17.2] at hd
  go_wp2_with fail
  refine hd.mono ?_
  rintro e w2 ⟨⟨a, c, rfl, hO⟩, B2⟩
  have bn := Box.new w2 #[.bool false, .bool false, .slice none 0 0, .int .i64 0, .int .i64 0, .int .i64 0, .int .i64 0] 35
  go_upto_region 2 with (first | ((with_reducible apply ld); rfl; (with_reducible assumption); (simp only [List.set_cons_zero, List.set_cons_succ]; rfl)) | ((with_reducible apply stO); rfl; rfl; exact bn; rfl; rfl; exact flatR; intro w3 b3 B3 ho3 hs3))
  have b3' : Box w3 w2.heap.size #[.bool true, .bool true, .slice a 1 c, .int .i64 6, .int .i64 0, .int .i64 4, .int .i64 0] := b3
  have B32 : Below w2.heap.size w2 w3 := ((Below.refl _ w2).alloc (Nat.le_refl _) _).trans B3
  have hO3 := (hO.kept (w' := w3) fun k hk hl => B32.block k hl).bytes
  have B30 := bOn (bOn B1 B2) B32
  go_wp2_with fail
  refine (law17_num 0 _).mono ?_
  rintro e w4 ⟨rfl, B4⟩
  have b4 := b3'.kept B4
  have k0 := b4.cell 0
  have k1 := b4.cell 1
  have k2 := b4.cell 2
  have k3 := b4.cell 3
  have k5 := b4.cell 5
  simp only [List.getElem?_toArray, List.getElem?_cons_zero, List.getElem?_cons_succ] at k0 k1 k2 k3 k5
  have hbq : ((byteStr [1]).toList == [1]) = true := by decide +kernel
  have hcv := run_conv (P := Try.prog) (src := 30) (dst := 9) (cap := c) (hO3.kept B4) (n := 1) rfl
  go_wp2
  go_ret
  exact ⟨rfl, bOn B30 B4⟩
end Go.Proofs.Ytnjmplapjnnjdaa

/- The search of layer 17, plain: what an exact path is worth; how many steps there were. -/
namespace Go.Proofs.Ytnjmplapjnnjdaa
open Go.RowKit

/-- The bits of a path and of its tail. -/
def Pb.full (p : Pb) (q : List Nat) : List Nat := (List.range p.N.toNat).map (p.bit q)
theorem Pb.full_get (p : Pb) (q : List Nat) {k : Nat} (h : k < p.N.toNat) : (p.full q)[k]? = some (p.bit q k) := by simp [Pb.full, h]
/-- An entry on a path. -/
def Pb.On (p : Pb) (q : List Nat) (e : Ent) : Prop := e.bs = (p.full q).take e.bs.length
/-- The least metric ahead of the last node. -/
def Pb.par (p : Pb) (e : Ent) : Int := dipOf ((List.range e.bs.length).map fun i => (p.nd e.bs i).m)
theorem Ent.Ok.dip_par {p : Pb} {e : Ent} (he : e.Ok p) : e.dip = min (p.par e) e.n.m := by
  rw [he.dip, List.range_succ, List.map_append, List.map_singleton, dipOf_snoc, ← he.nd]
  rfl
theorem ediv_mono {a b d : Int} (hd : 1 ≤ d) (h : a ≤ b) : a / d ≤ b / d := Int.ediv_le_ediv (by omega) h
theorem dipOf_le {l : List Int} {m : Int} (h : m ∈ l) : dipOf l ≤ m := by
  have key : ∀ (l : List Int) (a : Int), l.foldl min a ≤ a ∧ ∀ m ∈ l, l.foldl min a ≤ m := by
    intro l
    induction l with
    | nil => intro a; exact ⟨Int.le_refl _, fun m hm => by cases hm⟩
    | cons x l ih =>
      intro a
      obtain ⟨h1, h2⟩ := ih (min a x)
      refine ⟨by simp only [List.foldl_cons]; omega, fun m hm => ?_⟩
      simp only [List.foldl_cons]
      rcases List.mem_cons.1 hm with rfl | hm
      · omega
      · exact h2 m hm
  exact (key l 0).2 m h
theorem Pb.On.metric {p : Pb} (h : probChk p = 0) {q : List Nat} {e : Ent} (he : e.Ok p) (ho : p.On q e) : e.n = p.nd q e.bs.length := by
  rw [he.nd]
  refine Pb.nd_congr h he.len fun j hj => ?_
  have e1 : e.bs[j]? = some (p.bit q j) := by
    rw [ho, List.getElem?_take, if_pos hj, p.full_get q (by have := he.len; omega)]
  unfold Pb.bit at e1 ⊢
  split
  · rename_i hL
    rw [if_pos hL] at e1
    rw [List.getD_eq_getElem?_getD, e1]
    rfl
  · rfl
theorem Pb.On.ge {p : Pb} (h : probChk p = 0) {q : List Nat} {e : Ent} (he : e.Ok p) (ho : p.On q e) : dipOf (p.pm q) ≤ e.n.m := by
  rw [ho.metric h he]
  refine dipOf_le ?_
  have e1 : p.pm q = (List.range (p.N.toNat + 1)).map fun i => (p.nd q i).m := by
    unfold Pb.pm Pb.psums
    rw [p.pathL_len]
    rfl
  rw [e1]
  exact List.mem_map.2 ⟨_, List.mem_range.2 (by have := he.len; omega), rfl⟩
theorem Ent.Ok.kid_par {p : Pb} (h : probChk p = 0) {x : Ent} (hx : x.Ok p) (hd : x.n.d ≠ p.N) : ∀ y ∈ p.kidEnts x, p.par y = x.dip := by
  intro y hy
  obtain ⟨⟨k, b⟩, hz, rfl⟩ := List.mem_map.1 hy
  have hxd : x.n.d = (x.bs.length : Int) := by rw [hx.nd]; rfl
  have hN := Pb.N_le h
  have hlen := hx.len
  unfold Pb.par
  show dipOf ((List.range (x.bs ++ [b]).length).map fun i => (p.nd (x.bs ++ [b]) i).m) = x.dip
  rw [List.length_append, List.length_singleton, hx.dip]
  congr 1
  refine List.map_congr_left fun i hi => ?_
  rw [List.mem_range] at hi
  rw [Pb.nd_congr h (by omega) fun j hj => p.bit_app _ _ (by omega)]
theorem Pb.kidBits_mem (p : Pb) (n : Nd) {b : Nat} (h1 : b < 2) (h2 : p.L ≤ n.d → b = 0) : b ∈ p.kidBits n := by
  unfold Pb.kidBits Pb.twoB
  split
  · rename_i h; simp [h2 h]
  · have : b = 0 ∨ b = 1 := by omega
    split <;> rcases this with rfl | rfl <;> simp
theorem Pb.bit_lt2 (p : Pb) {q : List Nat} (hq : ∀ b ∈ q, b < 2) (k : Nat) : p.bit q k < 2 := by
  unfold Pb.bit
  split
  · rw [List.getD_eq_getElem?_getD]
    cases h : q[k]? with
    | none => simp
    | some b => exact hq b (List.mem_of_getElem? h)
  · omega
theorem Pb.On.kid {p : Pb} (h : probChk p = 0) {q : List Nat} (hq : ∀ b ∈ q, b < 2) {x : Ent} (hx : x.Ok p) (hd : x.n.d ≠ p.N) (ho : p.On q x) : ∃ y ∈ p.kidEnts x, p.On q y := by
  have hxd : x.n.d = (x.bs.length : Int) := by rw [hx.nd]; rfl
  have hN := Pb.N_le h
  have hlen := hx.len
  have hlt : x.bs.length < p.N.toNat := by omega
  have hm := p.kidBits_mem x.n (p.bit_lt2 hq x.bs.length) (fun hL => by unfold Pb.bit; rw [if_neg (by omega)])
  obtain ⟨i, hi⟩ := List.getElem?_of_mem hm
  have hil : i < (p.kids x.n).length := by rw [← p.kbits_len]; exact (List.getElem?_eq_some_iff.1 hi).1
  obtain ⟨k, hk⟩ : ∃ k, (p.kids x.n)[i]? = some k := ⟨_, List.getElem?_eq_getElem hil⟩
  refine ⟨⟨k, x.bs ++ [p.bit q x.bs.length], min x.dip k.m⟩, ?_, ?_⟩
  · unfold Pb.kidEnts
    refine List.mem_map.2 ⟨(k, p.bit q x.bs.length), ?_, rfl⟩
    exact List.mem_of_getElem? (List.getElem?_zip_eq_some.2 ⟨hk, hi⟩)
  · show x.bs ++ [p.bit q x.bs.length] = (p.full q).take (x.bs ++ [p.bit q x.bs.length]).length
    rw [List.length_append, List.length_singleton, List.take_add_one, p.full_get q hlt, ← ho]
    rfl

/-! ### The word that stays true -/
def Bq.InvL (p : Pb) (D K : Int) (q : List Nat) (L : List Ent) : Prop := (∃ e ∈ L, p.On q e) ∧ ∀ e ∈ L, K ≤ p.par e / D
def Bq.Lost (K : Int) (s : Bq) : Prop := s.some_ = true ∧ K ≤ s.gone
theorem lowIx_lt {D : Int} {L : List Ent} (h : 1 ≤ L.length) : lowIx D L < L.length := (firstMin_facts _ _ h).1
theorem Bq.put_inv {p : Pb} (h : probChk p = 0) {D K : Int} (hD : 1 ≤ D) {most : Nat} {q : List Nat} (hK : K = dipOf (p.pm q) / D) {s : Bq} {y : Ent} {ys : List Ent} (hok : ∀ e ∈ s.L ++ y :: ys, e.Ok p)
    (hi : s.Lost K ∨ Bq.InvL p D K q (s.L ++ y :: ys)) : (s.put D most y).Lost K ∨ Bq.InvL p D K q ((s.put D most y).L ++ ys) := by
  unfold Bq.put
  split
  · rcases hi with hi | hi
    · exact .inl hi
    · right
      show Bq.InvL p D K q ((s.L ++ [y]) ++ ys)
      rwa [List.append_assoc]
  · have hlt : lowIx D (s.L ++ [y]) < (s.L ++ [y]).length := lowIx_lt (by simp)
    obtain ⟨z, hz⟩ : ∃ z, (s.L ++ [y])[lowIx D (s.L ++ [y])]? = some z := ⟨_, List.getElem?_eq_getElem hlt⟩
    have hkey : lowKey D (s.L ++ [y]) = z.n.m / D := by
      unfold lowKey keysOf
      rw [List.getD_eq_getElem?_getD, List.getElem?_map]
      show ((s.L ++ [y])[lowIx D (s.L ++ [y])]?.map _).getD 0 = _
      rw [hz]
      rfl
    have hzm : z ∈ s.L ++ y :: ys := by
      have := List.mem_of_getElem? hz
      rw [List.mem_append, List.mem_singleton] at this
      rw [List.mem_append, List.mem_cons]
      rcases this with h | h
      · exact .inl h
      · exact .inr (.inl h)
    rcases hi with ⟨h1, h2⟩ | ⟨⟨e, he, ho⟩, hp⟩
    · refine .inl ⟨rfl, ?_⟩
      show K ≤ if _ then _ else _
      split
      · rename_i hc
        rw [h1] at hc
        rcases hc with hc | hc
        · cases hc
        · omega
      · exact h2
    · by_cases hez : e = z
      · left
        refine ⟨rfl, ?_⟩
        have hKz : K ≤ lowKey D (s.L ++ [y]) := by
          rw [hkey, hK, ← hez]
          exact ediv_mono hD (ho.ge h (hok e he))
        show K ≤ if _ then _ else _
        split
        · exact hKz
        · rename_i hc
          have := not_or.1 hc
          omega
      · right
        refine ⟨⟨e, ?_, ho⟩, fun e' he' => hp e' ?_⟩
        · show e ∈ (s.L ++ [y]).eraseIdx _ ++ ys
          have he2 : e ∈ (s.L ++ [y]) ++ ys := by rw [List.append_assoc]; exact he
          rcases List.mem_append.1 he2 with h | h
          · refine List.mem_append_left _ ?_
            rw [List.mem_iff_getElem?] at h ⊢
            obtain ⟨i, hi⟩ := h
            have hne : i ≠ lowIx D (s.L ++ [y]) := fun e1 => by rw [e1, hz] at hi; exact hez (Option.some.inj hi).symm
            rcases Nat.lt_or_gt_of_ne hne with hl | hl
            · exact ⟨i, by rw [List.getElem?_eraseIdx, if_pos hl]; exact hi⟩
            · exact ⟨i - 1, by rw [List.getElem?_eraseIdx, if_neg (by omega), Nat.sub_add_cancel (by omega)]; exact hi⟩
          · exact List.mem_append_right _ h
        · have he2 : e' ∈ (s.L ++ [y]).eraseIdx (lowIx D (s.L ++ [y])) ++ ys := he'
          have he3 : e' ∈ (s.L ++ [y]) ++ ys := by
            rcases List.mem_append.1 he2 with h | h
            · exact List.mem_append_left _ (mem_erase h)
            · exact List.mem_append_right _ h
          rw [List.append_assoc] at he3
          exact he3
theorem Bq.puts_inv {p : Pb} (h : probChk p = 0) {D K : Int} (hD : 1 ≤ D) {most : Nat} (hm : 1 ≤ most) {q : List Nat} (hK : K = dipOf (p.pm q) / D) : ∀ (ys : List Ent) {s : Bq}, s.L.length ≤ most → (∀ e ∈ s.L ++ ys, e.Ok p) → (s.Lost K ∨ Bq.InvL p D K q (s.L ++ ys)) →
    (ys.foldl (Bq.put D most) s).Lost K ∨ Bq.InvL p D K q (ys.foldl (Bq.put D most) s).L
  | [], s, _, _, hi => by simpa using hi
  | y :: ys, s, hl, hok, hi => by
    obtain ⟨a1, a2, _⟩ := s.put_facts (D := D) hm hl y
    refine Bq.puts_inv h hD hm hK ys a2 (fun e he => hok e ?_) (Bq.put_inv h hD hK hok hi)
    rcases List.mem_append.1 he with h | h
    · rcases a1 e h with h | h
      · exact List.mem_append_left _ h
      · rw [h]; simp
    · simp [h]
/-- Each step keeps it. -/
def Bq.Ex (p : Pb) (D K : Int) (q : List Nat) (s : Bq) : Prop := s.Lost K ∨ match s.found with
  | none => Bq.InvL p D K q s.L
  | some e => K ≤ e.dip / D
theorem min_ediv {a b d K : Int} (h1 : K ≤ a / d) (h2 : K ≤ b / d) : K ≤ min a b / d := by
  rcases Int.le_total a b with h | h
  · rw [Int.min_eq_left h]; exact h1
  · rw [Int.min_eq_right h]; exact h2
theorem Bq.Ex.step {p : Pb} (h : probChk p = 0) {D K : Int} (hD : 1 ≤ D) {most : Nat} (hm : 1 ≤ most) {q : List Nat} (hq : ∀ b ∈ q, b < 2) (hK : K = dipOf (p.pm q) / D) {s : Bq} (hs : s.Ok p D most) (hf : s.found = none) (hi : s.Ex p D K q) : (p.bstep D most s).Ex p D K q := by
  have hne := hs.ne hf
  have hg := Bq.best_get (D := D) hne
  have hbo := hs.ents _ (List.mem_of_getElem? hg)
  unfold Bq.Ex at hi
  rw [hf] at hi
  have hL : s.Lost K ∨ (Bq.InvL p D K q s.L ∧ K ≤ (s.best D).dip / D) := by
    refine hi.imp_right fun hi => ⟨hi, ?_⟩
    obtain ⟨⟨e, he, ho⟩, hp⟩ := hi
    rw [hbo.dip_par]
    refine min_ediv (hp _ (List.mem_of_getElem? hg)) ?_
    obtain ⟨i, hi⟩ := List.getElem?_of_mem he
    have hil : i < s.L.length := (List.getElem?_eq_some_iff.1 hi).1
    have hmax := (lastMax_facts (keysOf D s.L) s.L.length hne).2.1 i hil
    have k1 : (keysOf D s.L).getD i 0 = e.n.m / D := by
      unfold keysOf
      rw [List.getD_eq_getElem?_getD, List.getElem?_map, hi]
      rfl
    have k2 : (keysOf D s.L).getD (lastMax (keysOf D s.L) s.L.length) 0 = (s.best D).n.m / D := by
      unfold keysOf
      rw [List.getD_eq_getElem?_getD, List.getElem?_map]
      show ((s.L[nextIx D s.L]?).map _).getD 0 = _
      rw [hg]
      rfl
    rw [k1, k2] at hmax
    have := ediv_mono hD (ho.ge h (hs.ents e he))
    omega
  unfold Pb.bstep
  split
  · unfold Bq.Ex
    exact hL.imp_right fun h => h.2
  · rename_i hd
    have hl : (s.L.eraseIdx (nextIx D s.L)).length ≤ most := Nat.le_trans (List.length_eraseIdx_le ..) hs.len
    have hfn : ((p.kidEnts (s.best D)).foldl (Bq.put D most) { s with L := s.L.eraseIdx (nextIx D s.L), work := wrap64 (s.work + 1) }).found = none :=
      ((Bq.puts_facts (D := D) hm (p.kidEnts (s.best D)) (s := { s with L := s.L.eraseIdx (nextIx D s.L), work := wrap64 (s.work + 1) }) hl (.inl (p.kidEnts_ne _))).2.2.2.1).trans hf
    unfold Bq.Ex
    rw [hfn]
    refine Bq.puts_inv h hD hm hK _ hl (fun e he => ?_) (hL.imp_right fun ⟨⟨⟨e, he, ho⟩, hp⟩, hx⟩ => ⟨?_, fun e' he' => ?_⟩)
    · rcases List.mem_append.1 he with he | he
      · exact hs.ents e (mem_erase he)
      · exact (hbo.kids h hd e he).1
    · by_cases hex : e = s.best D
      · obtain ⟨y, hy, hyo⟩ := Pb.On.kid h hq hbo hd (hex ▸ ho)
        exact ⟨y, List.mem_append_right _ hy, hyo⟩
      · refine ⟨e, List.mem_append_left _ ?_, ho⟩
        show e ∈ s.L.eraseIdx _
        rw [List.mem_iff_getElem?] at he ⊢
        obtain ⟨i, hi⟩ := he
        have hne2 : i ≠ nextIx D s.L := fun e1 => by rw [e1, hg] at hi; exact hex (Option.some.inj hi).symm
        rcases Nat.lt_or_gt_of_ne hne2 with hl | hl
        · exact ⟨i, by rw [List.getElem?_eraseIdx, if_pos hl]; exact hi⟩
        · exact ⟨i - 1, by rw [List.getElem?_eraseIdx, if_neg (by omega), Nat.sub_add_cancel (by omega)]; exact hi⟩
    · rcases List.mem_append.1 he' with he' | he'
      · exact hp e' (mem_erase he')
      · rw [hbo.kid_par h hd e' he']
        exact hx
theorem Bq.Ex.start {p : Pb} {D K : Int} {most : Nat} (hm : 1 ≤ most) {q : List Nat} (hK : K = dipOf (p.pm q) / D) (hD : 1 ≤ D) : (Bq.start D most).Ex p D K q := by
  have e1 : Bq.start D most = ⟨[ent0], 0, 0, 0, false, none⟩ := by
    unfold Bq.start Bq.put
    rw [if_pos (by simpa using hm)]
    rfl
  rw [e1]
  right
  refine ⟨⟨ent0, by simp, by simp [Pb.On, ent0]⟩, fun e he => ?_⟩
  rw [List.mem_singleton.1 he]
  have h0 : p.par ent0 = 0 := rfl
  rw [h0, hK]
  have : dipOf (p.pm q) ≤ 0 := (p.pm_dip q).1
  exact ediv_mono hD this
theorem Bq.Ex.run {p : Pb} (h : probChk p = 0) {D K : Int} (hD : 1 ≤ D) {most : Nat} (hm : 1 ≤ most) {q : List Nat} (hq : ∀ b ∈ q, b < 2) (hK : K = dipOf (p.pm q) / D) : ∀ (k : Nat) {s : Bq}, s.Ok p D most → s.Ex p D K q → (p.brun D most k s).Ex p D K q
  | 0, _, _, hi => hi
  | k + 1, s, hs, hi => by
    unfold Pb.brun
    cases hd : s.found with
    | some x => simpa [hd] using hi
    | none => simpa [hd] using Bq.Ex.run h hD hm hq hK k (hs.step h hm hd) (hi.step h hD hm hq hK hs hd)
/-! ### Steps -/
structure Bq.Wk (s : Bq) (j : Nat) : Prop where
  work : s.work = wrap64 (j : Int)
  deep : ∀ e ∈ s.L, e.bs.length ≤ j
  fnd : ∀ e, s.found = some e → e.bs.length + 1 ≤ j
theorem Bq.Wk.step {p : Pb} {D : Int} {most : Nat} (hm : 1 ≤ most) {s : Bq} (hs : s.Ok p D most) (hf : s.found = none) {j : Nat} (hw : s.Wk j) : (p.bstep D most s).Wk (j + 1) := by
  have hne := hs.ne hf
  have hg := Bq.best_get (D := D) hne
  have hb := hw.deep _ (List.mem_of_getElem? hg)
  have hwk : wrap64 (s.work + 1) = wrap64 ((j + 1 : Nat) : Int) := by rw [hw.work]; unfold wrap64; omega
  unfold Pb.bstep
  split
  · exact ⟨hwk, fun e he => by have := hw.deep e (mem_erase he); omega, fun e he => by rw [← Option.some.inj he]; omega⟩
  · have hl : (s.L.eraseIdx (nextIx D s.L)).length ≤ most := Nat.le_trans (List.length_eraseIdx_le ..) hs.len
    obtain ⟨a1, _, _, a4, a5⟩ := Bq.puts_facts (D := D) hm (p.kidEnts (s.best D)) (s := { s with L := s.L.eraseIdx (nextIx D s.L), work := wrap64 (s.work + 1) }) hl (.inl (p.kidEnts_ne _))
    refine ⟨a5.trans hwk, fun e he => ?_, fun e he => ?_⟩
    · rcases a1 e he with h | h
      · have := hw.deep e (mem_erase h); omega
      · obtain ⟨y, _, rfl⟩ := List.mem_map.1 h
        simp
        omega
    · rw [a4] at he
      have he' : s.found = some e := he
      rw [hf] at he'
      cases he'
theorem Bq.Wk.run {p : Pb} (h : probChk p = 0) {D : Int} {most : Nat} (hm : 1 ≤ most) : ∀ (k : Nat) {s : Bq} {j : Nat}, s.Ok p D most → s.Wk j → ∃ i, i ≤ k ∧ (p.brun D most k s).Wk (j + i) ∧ ((p.brun D most k s).found = none → i = k)
  | 0, s, j, _, hw => ⟨0, Nat.le_refl _, hw, fun _ => rfl⟩
  | k + 1, s, j, hs, hw => by
    unfold Pb.brun
    cases hd : s.found with
    | some x => exact ⟨0, by omega, by simpa [hd] using hw, by simp [hd]⟩
    | none =>
      obtain ⟨i, h1, h2, h3⟩ := Bq.Wk.run h hm k (hs.step h hm hd) (hw.step hm hs hd)
      exact ⟨i + 1, by omega, by simpa [hd, Nat.add_assoc, Nat.add_comm 1 i] using h2, fun h => by have := h3 (by simpa [hd] using h); omega⟩
theorem Bq.Wk.start {D : Int} {most : Nat} (hm : 1 ≤ most) : (Bq.start D most).Wk 0 := by
  have e1 : Bq.start D most = ⟨[ent0], 0, 0, 0, false, none⟩ := by
    unfold Bq.start Bq.put
    rw [if_pos (by simpa using hm)]
    rfl
  rw [e1]
  exact ⟨by show (0 : Int) = wrap64 ((0 : Nat) : Int); unfold wrap64; omega, fun e he => by rw [List.mem_singleton.1 he]; exact Nat.le_refl _, fun e he => by cases he⟩
end Go.Proofs.Ytnjmplapjnnjdaa

/- The walk of the statement on the order of dip, total and prefix metrics. -/
namespace Go.Proofs.Ytnjmplapjnnjdaa
open Go.RowKit

end Go.Proofs.Ytnjmplapjnnjdaa

/- outpostlaw17.BucketdecExact: where a path is exact no path is in a higher bucket. -/
namespace Go.Proofs.Ytnjmplapjnnjdaa
open Go.RowKit

end Go.Proofs.Ytnjmplapjnnjdaa

/- outpostlaw17.BucketdecExact: the walk. -/
namespace Go.Proofs.Ytnjmplapjnnjdaa
open Go.RowKit

end Go.Proofs.Ytnjmplapjnnjdaa
