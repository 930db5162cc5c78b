import Derived.Test.YtnjmplapjnnjdaaSeDec
import Derived.Test.YtnjmplapjnnjdaaKnow
import Derived.Test.YtnjmplapjnnjdaaBkNew
import Derived.Test.YtnjmplapjnnjdaaDocCount
import Derived.Test.YtnjmplapjnnjdaaFill
import Derived.Test.YtnjmplapjnnjdaaKid
import Derived.Test.YtnjmplapjnnjdaaLFloors
import Derived.Laws.CopyRow
set_option linter.unusedSimpArgs false
set_option linter.unusedVariables false
set_option linter.unnecessarySimpa false
/- outpostlaw17: num, floor, knows. -/
namespace Go.Proofs.Ytnjmplapjnnjdaa
open Go.RowKit

theorem law17_num (e : Int) (w : World) : Pure Try.prog 14 #[.int .i64 e] w (.int .i64 e) := by
  go_enter Try.func14, Try.ntmps14
  go_wp2
  go_ret
  exact ⟨rfl, Below.refl _ _⟩
def flr17 (m D : Int) : Int := if D < 1 ∨ 65536 < D then 0 else m / D
theorem law17_floor (m D : Int) (a0 : -9223372036854775808 ≤ m) (a1 : m ≤ 9223372036854775807) (w : World) : Pure Try.prog 25 #[.int .i64 m, .int .i64 D] w (.int .i64 (flr17 m D)) := by
  have hI := fun W => bk_Index m D a0 a1 W
  unfold indexCell at hI
  have hF : flr17 m D = if D < 1 ∨ 65536 < D then 0 else m / D := rfl
  rw [← hF] at hI
  obtain ⟨E, hE⟩ : ∃ E : Int, E = if D < 1 ∨ 65536 < D then 140 else 0 := ⟨_, rfl⟩
  rw [← hE] at hI
  clear hF hE
  go_enter Try.func25, Try.ntmps25
  go_wp2_with fail
  refine (hI _).mono ?_
  rintro e w1 ⟨rfl, B1⟩
  go_wp2
  go_ret
  exact ⟨rfl, B1⟩
theorem plain17 : plainPb.seE 10 10 4 = 0 ∧ plainPb.seR 10 10 4 = ⟨true, true, [1], 6, 0, 4, 0⟩ := ⟨by decide +kernel, by kernel_rfl⟩
set_option maxRecDepth 5000 in
theorem law17_knows (w : World) : Pure Try.prog 17 #[] w (.bool true) := by
  go_enter Try.func17, Try.ntmps17
  go_wp2_with fail
  refine (law11_Plain _).mono ?_
  rintro e w1 ⟨⟨g, rfl, hB, _⟩, B1⟩
  have hd := se_Decode plainPb (some ⟨g, 0, none⟩) 6 10 10 4 plainPb_ok _ hB
  rw [plain17.1, plain17.2] at hd
  go_wp2_with fail
  refine hd.mono ?_
  rintro e w2 ⟨⟨a, c, rfl, hO⟩, B2⟩
  have bn := Box.new w2 #[.bool false, .bool false, .slice none 0 0, .int .i64 0, .int .i64 0, .int .i64 0, .int .i64 0] 35
  go_upto_region 2 with (first | ((with_reducible apply ld); rfl; (with_reducible assumption); (simp only [List.set_cons_zero, List.set_cons_succ]; rfl)) | ((with_reducible apply stO); rfl; rfl; exact bn; rfl; rfl; exact flatR; intro w3 b3 B3 ho3 hs3))
  have b3' : Box w3 w2.heap.size #[.bool true, .bool true, .slice a 1 c, .int .i64 6, .int .i64 0, .int .i64 4, .int .i64 0] := b3
  have B32 : Below w2.heap.size w2 w3 := ((Below.refl _ w2).alloc (Nat.le_refl _) _).trans B3
  have hO3 := (hO.kept (w' := w3) fun k hk hl => B32.block k hl).bytes
  have B30 := bOn (bOn B1 B2) B32
  go_wp2_with fail
  refine (law17_num 0 _).mono ?_
  rintro e w4 ⟨rfl, B4⟩
  have b4 := b3'.kept B4
  have k0 := b4.cell 0
  have k1 := b4.cell 1
  have k2 := b4.cell 2
  have k3 := b4.cell 3
  have k5 := b4.cell 5
  simp only [List.getElem?_toArray, List.getElem?_cons_zero, List.getElem?_cons_succ] at k0 k1 k2 k3 k5
  have hbq : ((byteStr [1]).toList == [1]) = true := by decide +kernel
  have hcv := run_conv (P := Try.prog) (src := 30) (dst := 9) (cap := c) (hO3.kept B4) (n := 1) rfl
  go_wp2
  go_ret
  exact ⟨rfl, bOn B30 B4⟩
end Go.Proofs.Ytnjmplapjnnjdaa

/- The search of layer 17, plain: what an exact path is worth; how many steps there were. -/
namespace Go.Proofs.Ytnjmplapjnnjdaa
open Go.RowKit

/-- The bits of a path and of its tail. -/
def Pb.full (p : Pb) (q : List Nat) : List Nat := (List.range p.N.toNat).map (p.bit q)
theorem Pb.full_get (p : Pb) (q : List Nat) {k : Nat} (h : k < p.N.toNat) : (p.full q)[k]? = some (p.bit q k) := by simp [Pb.full, h]
/-- An entry on a path. -/
def Pb.On (p : Pb) (q : List Nat) (e : Ent) : Prop := e.bs = (p.full q).take e.bs.length
/-- The least metric ahead of the last node. -/
def Pb.par (p : Pb) (e : Ent) : Int := dipOf ((List.range e.bs.length).map fun i => (p.nd e.bs i).m)
theorem Ent.Ok.dip_par {p : Pb} {e : Ent} (he : e.Ok p) : e.dip = min (p.par e) e.n.m := by
  rw [he.dip, List.range_succ, List.map_append, List.map_singleton, dipOf_snoc, ← he.nd]
  rfl
theorem ediv_mono {a b d : Int} (hd : 1 ≤ d) (h : a ≤ b) : a / d ≤ b / d := Int.ediv_le_ediv (by omega) h
theorem dipOf_le {l : List Int} {m : Int} (h : m ∈ l) : dipOf l ≤ m := by
  have key : ∀ (l : List Int) (a : Int), l.foldl min a ≤ a ∧ ∀ m ∈ l, l.foldl min a ≤ m := by
    intro l
    induction l with
    | nil => intro a; exact ⟨Int.le_refl _, fun m hm => by cases hm⟩
    | cons x l ih =>
      intro a
      obtain ⟨h1, h2⟩ := ih (min a x)
      refine ⟨by simp only [List.foldl_cons]; omega, fun m hm => ?_⟩
      simp only [List.foldl_cons]
      rcases List.mem_cons.1 hm with rfl | hm
      · omega
      · exact h2 m hm
  exact (key l 0).2 m h
theorem Pb.On.metric {p : Pb} (h : probChk p = 0) {q : List Nat} {e : Ent} (he : e.Ok p) (ho : p.On q e) : e.n = p.nd q e.bs.length := by
  rw [he.nd]
  refine Pb.nd_congr h he.len fun j hj => ?_
  have e1 : e.bs[j]? = some (p.bit q j) := by
    rw [ho, List.getElem?_take, if_pos hj, p.full_get q (by have := he.len; omega)]
  unfold Pb.bit at e1 ⊢
  split
  · rename_i hL
    rw [if_pos hL] at e1
    rw [List.getD_eq_getElem?_getD, e1]
    rfl
  · rfl
theorem Pb.On.ge {p : Pb} (h : probChk p = 0) {q : List Nat} {e : Ent} (he : e.Ok p) (ho : p.On q e) : dipOf (p.pm q) ≤ e.n.m := by
  rw [ho.metric h he]
  refine dipOf_le ?_
  have e1 : p.pm q = (List.range (p.N.toNat + 1)).map fun i => (p.nd q i).m := by
    unfold Pb.pm Pb.psums
    rw [p.pathL_len]
    rfl
  rw [e1]
  exact List.mem_map.2 ⟨_, List.mem_range.2 (by have := he.len; omega), rfl⟩
theorem Ent.Ok.kid_par {p : Pb} (h : probChk p = 0) {x : Ent} (hx : x.Ok p) (hd : x.n.d ≠ p.N) : ∀ y ∈ p.kidEnts x, p.par y = x.dip := by
  intro y hy
  obtain ⟨⟨k, b⟩, hz, rfl⟩ := List.mem_map.1 hy
  have hxd : x.n.d = (x.bs.length : Int) := by rw [hx.nd]; rfl
  have hN := Pb.N_le h
  have hlen := hx.len
  unfold Pb.par
  show dipOf ((List.range (x.bs ++ [b]).length).map fun i => (p.nd (x.bs ++ [b]) i).m) = x.dip
  rw [List.length_append, List.length_singleton, hx.dip]
  congr 1
  refine List.map_congr_left fun i hi => ?_
  rw [List.mem_range] at hi
  rw [Pb.nd_congr h (by omega) fun j hj => p.bit_app _ _ (by omega)]
theorem Pb.kidBits_mem (p : Pb) (n : Nd) {b : Nat} (h1 : b < 2) (h2 : p.L ≤ n.d → b = 0) : b ∈ p.kidBits n := by
  unfold Pb.kidBits Pb.twoB
  split
  · rename_i h; simp [h2 h]
  · have : b = 0 ∨ b = 1 := by omega
    split <;> rcases this with rfl | rfl <;> simp
theorem Pb.bit_lt2 (p : Pb) {q : List Nat} (hq : ∀ b ∈ q, b < 2) (k : Nat) : p.bit q k < 2 := by
  unfold Pb.bit
  split
  · rw [List.getD_eq_getElem?_getD]
    cases h : q[k]? with
    | none => simp
    | some b => exact hq b (List.mem_of_getElem? h)
  · omega
theorem Pb.On.kid {p : Pb} (h : probChk p = 0) {q : List Nat} (hq : ∀ b ∈ q, b < 2) {x : Ent} (hx : x.Ok p) (hd : x.n.d ≠ p.N) (ho : p.On q x) : ∃ y ∈ p.kidEnts x, p.On q y := by
  have hxd : x.n.d = (x.bs.length : Int) := by rw [hx.nd]; rfl
  have hN := Pb.N_le h
  have hlen := hx.len
  have hlt : x.bs.length < p.N.toNat := by omega
  have hm := p.kidBits_mem x.n (p.bit_lt2 hq x.bs.length) (fun hL => by unfold Pb.bit; rw [if_neg (by omega)])
  obtain ⟨i, hi⟩ := List.getElem?_of_mem hm
  have hil : i < (p.kids x.n).length := by rw [← p.kbits_len]; exact (List.getElem?_eq_some_iff.1 hi).1
  obtain ⟨k, hk⟩ : ∃ k, (p.kids x.n)[i]? = some k := ⟨_, List.getElem?_eq_getElem hil⟩
  refine ⟨⟨k, x.bs ++ [p.bit q x.bs.length], min x.dip k.m⟩, ?_, ?_⟩
  · unfold Pb.kidEnts
    refine List.mem_map.2 ⟨(k, p.bit q x.bs.length), ?_, rfl⟩
    exact List.mem_of_getElem? (List.getElem?_zip_eq_some.2 ⟨hk, hi⟩)
  · show x.bs ++ [p.bit q x.bs.length] = (p.full q).take (x.bs ++ [p.bit q x.bs.length]).length
    rw [List.length_append, List.length_singleton, List.take_add_one, p.full_get q hlt, ← ho]
    rfl

/-! ### The word that stays true -/
def Bq.InvL (p : Pb) (D K : Int) (q : List Nat) (L : List Ent) : Prop := (∃ e ∈ L, p.On q e) ∧ ∀ e ∈ L, K ≤ p.par e / D
def Bq.Lost (K : Int) (s : Bq) : Prop := s.some_ = true ∧ K ≤ s.gone
theorem lowIx_lt {D : Int} {L : List Ent} (h : 1 ≤ L.length) : lowIx D L < L.length := (firstMin_facts _ _ h).1
theorem Bq.put_inv {p : Pb} (h : probChk p = 0) {D K : Int} (hD : 1 ≤ D) {most : Nat} {q : List Nat} (hK : K = dipOf (p.pm q) / D) {s : Bq} {y : Ent} {ys : List Ent} (hok : ∀ e ∈ s.L ++ y :: ys, e.Ok p)
    (hi : s.Lost K ∨ Bq.InvL p D K q (s.L ++ y :: ys)) : (s.put D most y).Lost K ∨ Bq.InvL p D K q ((s.put D most y).L ++ ys) := by
  unfold Bq.put
  split
  · rcases hi with hi | hi
    · exact .inl hi
    · right
      show Bq.InvL p D K q ((s.L ++ [y]) ++ ys)
      rwa [List.append_assoc]
  · have hlt : lowIx D (s.L ++ [y]) < (s.L ++ [y]).length := lowIx_lt (by simp)
    obtain ⟨z, hz⟩ : ∃ z, (s.L ++ [y])[lowIx D (s.L ++ [y])]? = some z := ⟨_, List.getElem?_eq_getElem hlt⟩
    have hkey : lowKey D (s.L ++ [y]) = z.n.m / D := by
      unfold lowKey keysOf
      rw [List.getD_eq_getElem?_getD, List.getElem?_map]
      show ((s.L ++ [y])[lowIx D (s.L ++ [y])]?.map _).getD 0 = _
      rw [hz]
      rfl
    have hzm : z ∈ s.L ++ y :: ys := by
      have := List.mem_of_getElem? hz
      rw [List.mem_append, List.mem_singleton] at this
      rw [List.mem_append, List.mem_cons]
      rcases this with h | h
      · exact .inl h
      · exact .inr (.inl h)
    rcases hi with ⟨h1, h2⟩ | ⟨⟨e, he, ho⟩, hp⟩
    · refine .inl ⟨rfl, ?_⟩
      show K ≤ if _ then _ else _
      split
      · rename_i hc
        rw [h1] at hc
        rcases hc with hc | hc
        · cases hc
        · omega
      · exact h2
    · by_cases hez : e = z
      · left
        refine ⟨rfl, ?_⟩
        have hKz : K ≤ lowKey D (s.L ++ [y]) := by
          rw [hkey, hK, ← hez]
          exact ediv_mono hD (ho.ge h (hok e he))
        show K ≤ if _ then _ else _
        split
        · exact hKz
        · rename_i hc
          have := not_or.1 hc
          omega
      · right
        refine ⟨⟨e, ?_, ho⟩, fun e' he' => hp e' ?_⟩
        · show e ∈ (s.L ++ [y]).eraseIdx _ ++ ys
          have he2 : e ∈ (s.L ++ [y]) ++ ys := by rw [List.append_assoc]; exact he
          rcases List.mem_append.1 he2 with h | h
          · refine List.mem_append_left _ ?_
            rw [List.mem_iff_getElem?] at h ⊢
            obtain ⟨i, hi⟩ := h
            have hne : i ≠ lowIx D (s.L ++ [y]) := fun e1 => by rw [e1, hz] at hi; exact hez (Option.some.inj hi).symm
            rcases Nat.lt_or_gt_of_ne hne with hl | hl
            · exact ⟨i, by rw [List.getElem?_eraseIdx, if_pos hl]; exact hi⟩
            · exact ⟨i - 1, by rw [List.getElem?_eraseIdx, if_neg (by omega), Nat.sub_add_cancel (by omega)]; exact hi⟩
          · exact List.mem_append_right _ h
        · have he2 : e' ∈ (s.L ++ [y]).eraseIdx (lowIx D (s.L ++ [y])) ++ ys := he'
          have he3 : e' ∈ (s.L ++ [y]) ++ ys := by
            rcases List.mem_append.1 he2 with h | h
            · exact List.mem_append_left _ (mem_erase h)
            · exact List.mem_append_right _ h
          rw [List.append_assoc] at he3
          exact he3
theorem Bq.puts_inv {p : Pb} (h : probChk p = 0) {D K : Int} (hD : 1 ≤ D) {most : Nat} (hm : 1 ≤ most) {q : List Nat} (hK : K = dipOf (p.pm q) / D) : ∀ (ys : List Ent) {s : Bq}, s.L.length ≤ most → (∀ e ∈ s.L ++ ys, e.Ok p) → (s.Lost K ∨ Bq.InvL p D K q (s.L ++ ys)) →
    (ys.foldl (Bq.put D most) s).Lost K ∨ Bq.InvL p D K q (ys.foldl (Bq.put D most) s).L
  | [], s, _, _, hi => by simpa using hi
  | y :: ys, s, hl, hok, hi => by
    obtain ⟨a1, a2, _⟩ := s.put_facts (D := D) hm hl y
    refine Bq.puts_inv h hD hm hK ys a2 (fun e he => hok e ?_) (Bq.put_inv h hD hK hok hi)
    rcases List.mem_append.1 he with h | h
    · rcases a1 e h with h | h
      · exact List.mem_append_left _ h
      · rw [h]; simp
    · simp [h]
/-- Each step keeps it. -/
def Bq.Ex (p : Pb) (D K : Int) (q : List Nat) (s : Bq) : Prop := s.Lost K ∨ match s.found with
  | none => Bq.InvL p D K q s.L
  | some e => K ≤ e.dip / D
theorem min_ediv {a b d K : Int} (h1 : K ≤ a / d) (h2 : K ≤ b / d) : K ≤ min a b / d := by
  rcases Int.le_total a b with h | h
  · rw [Int.min_eq_left h]; exact h1
  · rw [Int.min_eq_right h]; exact h2
theorem Bq.Ex.step {p : Pb} (h : probChk p = 0) {D K : Int} (hD : 1 ≤ D) {most : Nat} (hm : 1 ≤ most) {q : List Nat} (hq : ∀ b ∈ q, b < 2) (hK : K = dipOf (p.pm q) / D) {s : Bq} (hs : s.Ok p D most) (hf : s.found = none) (hi : s.Ex p D K q) : (p.bstep D most s).Ex p D K q := by
  have hne := hs.ne hf
  have hg := Bq.best_get (D := D) hne
  have hbo := hs.ents _ (List.mem_of_getElem? hg)
  unfold Bq.Ex at hi
  rw [hf] at hi
  have hL : s.Lost K ∨ (Bq.InvL p D K q s.L ∧ K ≤ (s.best D).dip / D) := by
    refine hi.imp_right fun hi => ⟨hi, ?_⟩
    obtain ⟨⟨e, he, ho⟩, hp⟩ := hi
    rw [hbo.dip_par]
    refine min_ediv (hp _ (List.mem_of_getElem? hg)) ?_
    obtain ⟨i, hi⟩ := List.getElem?_of_mem he
    have hil : i < s.L.length := (List.getElem?_eq_some_iff.1 hi).1
    have hmax := (lastMax_facts (keysOf D s.L) s.L.length hne).2.1 i hil
    have k1 : (keysOf D s.L).getD i 0 = e.n.m / D := by
      unfold keysOf
      rw [List.getD_eq_getElem?_getD, List.getElem?_map, hi]
      rfl
    have k2 : (keysOf D s.L).getD (lastMax (keysOf D s.L) s.L.length) 0 = (s.best D).n.m / D := by
      unfold keysOf
      rw [List.getD_eq_getElem?_getD, List.getElem?_map]
      show ((s.L[nextIx D s.L]?).map _).getD 0 = _
      rw [hg]
      rfl
    rw [k1, k2] at hmax
    have := ediv_mono hD (ho.ge h (hs.ents e he))
    omega
  unfold Pb.bstep
  split
  · unfold Bq.Ex
    exact hL.imp_right fun h => h.2
  · rename_i hd
    have hl : (s.L.eraseIdx (nextIx D s.L)).length ≤ most := Nat.le_trans (List.length_eraseIdx_le ..) hs.len
    have hfn : ((p.kidEnts (s.best D)).foldl (Bq.put D most) { s with L := s.L.eraseIdx (nextIx D s.L), work := wrap64 (s.work + 1) }).found = none :=
      ((Bq.puts_facts (D := D) hm (p.kidEnts (s.best D)) (s := { s with L := s.L.eraseIdx (nextIx D s.L), work := wrap64 (s.work + 1) }) hl (.inl (p.kidEnts_ne _))).2.2.2.1).trans hf
    unfold Bq.Ex
    rw [hfn]
    refine Bq.puts_inv h hD hm hK _ hl (fun e he => ?_) (hL.imp_right fun ⟨⟨⟨e, he, ho⟩, hp⟩, hx⟩ => ⟨?_, fun e' he' => ?_⟩)
    · rcases List.mem_append.1 he with he | he
      · exact hs.ents e (mem_erase he)
      · exact (hbo.kids h hd e he).1
    · by_cases hex : e = s.best D
      · obtain ⟨y, hy, hyo⟩ := Pb.On.kid h hq hbo hd (hex ▸ ho)
        exact ⟨y, List.mem_append_right _ hy, hyo⟩
      · refine ⟨e, List.mem_append_left _ ?_, ho⟩
        show e ∈ s.L.eraseIdx _
        rw [List.mem_iff_getElem?] at he ⊢
        obtain ⟨i, hi⟩ := he
        have hne2 : i ≠ nextIx D s.L := fun e1 => by rw [e1, hg] at hi; exact hex (Option.some.inj hi).symm
        rcases Nat.lt_or_gt_of_ne hne2 with hl | hl
        · exact ⟨i, by rw [List.getElem?_eraseIdx, if_pos hl]; exact hi⟩
        · exact ⟨i - 1, by rw [List.getElem?_eraseIdx, if_neg (by omega), Nat.sub_add_cancel (by omega)]; exact hi⟩
    · rcases List.mem_append.1 he' with he' | he'
      · exact hp e' (mem_erase he')
      · rw [hbo.kid_par h hd e' he']
        exact hx
theorem Bq.Ex.start {p : Pb} {D K : Int} {most : Nat} (hm : 1 ≤ most) {q : List Nat} (hK : K = dipOf (p.pm q) / D) (hD : 1 ≤ D) : (Bq.start D most).Ex p D K q := by
  have e1 : Bq.start D most = ⟨[ent0], 0, 0, 0, false, none⟩ := by
    unfold Bq.start Bq.put
    rw [if_pos (by simpa using hm)]
    rfl
  rw [e1]
  right
  refine ⟨⟨ent0, by simp, by simp [Pb.On, ent0]⟩, fun e he => ?_⟩
  rw [List.mem_singleton.1 he]
  have h0 : p.par ent0 = 0 := rfl
  rw [h0, hK]
  have : dipOf (p.pm q) ≤ 0 := (p.pm_dip q).1
  exact ediv_mono hD this
theorem Bq.Ex.run {p : Pb} (h : probChk p = 0) {D K : Int} (hD : 1 ≤ D) {most : Nat} (hm : 1 ≤ most) {q : List Nat} (hq : ∀ b ∈ q, b < 2) (hK : K = dipOf (p.pm q) / D) : ∀ (k : Nat) {s : Bq}, s.Ok p D most → s.Ex p D K q → (p.brun D most k s).Ex p D K q
  | 0, _, _, hi => hi
  | k + 1, s, hs, hi => by
    unfold Pb.brun
    cases hd : s.found with
    | some x => simpa [hd] using hi
    | none => simpa [hd] using Bq.Ex.run h hD hm hq hK k (hs.step h hm hd) (hi.step h hD hm hq hK hs hd)
/-! ### Steps -/
structure Bq.Wk (s : Bq) (j : Nat) : Prop where
  work : s.work = wrap64 (j : Int)
  deep : ∀ e ∈ s.L, e.bs.length ≤ j
  fnd : ∀ e, s.found = some e → e.bs.length + 1 ≤ j
theorem Bq.Wk.step {p : Pb} {D : Int} {most : Nat} (hm : 1 ≤ most) {s : Bq} (hs : s.Ok p D most) (hf : s.found = none) {j : Nat} (hw : s.Wk j) : (p.bstep D most s).Wk (j + 1) := by
  have hne := hs.ne hf
  have hg := Bq.best_get (D := D) hne
  have hb := hw.deep _ (List.mem_of_getElem? hg)
  have hwk : wrap64 (s.work + 1) = wrap64 ((j + 1 : Nat) : Int) := by rw [hw.work]; unfold wrap64; omega
  unfold Pb.bstep
  split
  · exact ⟨hwk, fun e he => by have := hw.deep e (mem_erase he); omega, fun e he => by rw [← Option.some.inj he]; omega⟩
  · have hl : (s.L.eraseIdx (nextIx D s.L)).length ≤ most := Nat.le_trans (List.length_eraseIdx_le ..) hs.len
    obtain ⟨a1, _, _, a4, a5⟩ := Bq.puts_facts (D := D) hm (p.kidEnts (s.best D)) (s := { s with L := s.L.eraseIdx (nextIx D s.L), work := wrap64 (s.work + 1) }) hl (.inl (p.kidEnts_ne _))
    refine ⟨a5.trans hwk, fun e he => ?_, fun e he => ?_⟩
    · rcases a1 e he with h | h
      · have := hw.deep e (mem_erase h); omega
      · obtain ⟨y, _, rfl⟩ := List.mem_map.1 h
        simp
        omega
    · rw [a4] at he
      have he' : s.found = some e := he
      rw [hf] at he'
      cases he'
theorem Bq.Wk.run {p : Pb} (h : probChk p = 0) {D : Int} {most : Nat} (hm : 1 ≤ most) : ∀ (k : Nat) {s : Bq} {j : Nat}, s.Ok p D most → s.Wk j → ∃ i, i ≤ k ∧ (p.brun D most k s).Wk (j + i) ∧ ((p.brun D most k s).found = none → i = k)
  | 0, s, j, _, hw => ⟨0, Nat.le_refl _, hw, fun _ => rfl⟩
  | k + 1, s, j, hs, hw => by
    unfold Pb.brun
    cases hd : s.found with
    | some x => exact ⟨0, by omega, by simpa [hd] using hw, by simp [hd]⟩
    | none =>
      obtain ⟨i, h1, h2, h3⟩ := Bq.Wk.run h hm k (hs.step h hm hd) (hw.step hm hs hd)
      exact ⟨i + 1, by omega, by simpa [hd, Nat.add_assoc, Nat.add_comm 1 i] using h2, fun h => by have := h3 (by simpa [hd] using h); omega⟩
theorem Bq.Wk.start {D : Int} {most : Nat} (hm : 1 ≤ most) : (Bq.start D most).Wk 0 := by
  have e1 : Bq.start D most = ⟨[ent0], 0, 0, 0, false, none⟩ := by
    unfold Bq.start Bq.put
    rw [if_pos (by simpa using hm)]
    rfl
  rw [e1]
  exact ⟨by show (0 : Int) = wrap64 ((0 : Nat) : Int); unfold wrap64; omega, fun e he => by rw [List.mem_singleton.1 he]; exact Nat.le_refl _, fun e he => by cases he⟩
end Go.Proofs.Ytnjmplapjnnjdaa

/- The walk of the statement on the order of dip, total and prefix metrics. -/
namespace Go.Proofs.Ytnjmplapjnnjdaa
open Go.RowKit

/-- THE ARM for 'copy(d, s)' of as many elements, each of one cell, from the heads of two blocks. -/
theorem cpA {P : Program} {ops : Array Oper} {rest : List Oper} {l l' : List Value} {ds : List Deferred} {w : World} {Q : Exit → Act → World → Prop} {dT sT e dd g ga k c1 c2 bytes : Nat} {d s : Operand} {z : Value} {cur us : List Value} {ty : TypeId} {ps : String} {af : Array Edge}
    [S : SlTy P dT e] [E : ElTy P e z 1 bytes] (hd : (Act.mk l.toArray ds).eval d = .slice (some ⟨g, 0, none⟩) k c1) (hs : (Act.mk l.toArray ds).eval s = .slice (some ⟨ga, 0, none⟩) k c2)
    (hb : Box w g cur.toArray) (ha : Box w ga us.toArray) (hk : k ≤ cur.length) (hk2 : k ≤ us.length) (h1 : ∀ v ∈ us, v.oneCell' = true) (hl : l.set dd (.int .i64 k) = l')
    (h : ∀ w', Box w' g (us.take k ++ cur.drop k).toArray → (∀ b, b ≠ g → w'.heap[b]? = w.heap[b]?) → Below g w w' → w'.heap.size = w.heap.size → wpList P ops Q rest ⟨l'.toArray, ds⟩ w') :
    wpList P ops Q (⟨some dd, .call { callee := .builtin .copy, args := #[d, s], argTypes := #[dT, sT] }, ty, ps, af, none⟩ :: rest) ⟨l.toArray, ds⟩ w := by
  obtain ⟨i, hi, hz0, hz1, hz2, hz3⟩ := E.out
  obtain ⟨t, hb⟩ := hb
  have hlen : (us.take k).length = k := by simp; omega
  have hr := run_copy_row (P := P) w dT sT ty e g 0 k c1 ⟨ga, 0, none⟩ k c2 cur.toArray t (us.take k) S.out (by simp [hi, hz1]) hb (by rw [hlen]; exact (Nat.min_self k).symm) (fun j v hj => by
    rw [List.getElem?_take] at hj
    have hjk : j < k := by
      rcases Nat.lt_or_ge j k with h | h
      · exact h
      · rw [if_neg (by omega)] at hj; cases hj
    rw [if_pos hjk] at hj
    have hadd : (⟨ga, 0, none⟩ : Addr).add j = ⟨ga, j, none⟩ := by unfold Addr.add; split <;> simp_all
    rw [hadd, ha.cell, List.getElem?_toArray, hj]) (by rw [hlen]; simpa using hk) (fun v hv => h1 v (List.mem_of_mem_take hv))
  refine wpList_plain rfl fun K hK => ?_
  unfold Oper.wp execOp
  simp only [resolve, invoke, builtin, Sem.run_bind, Sem.run_pure, Result.andThen_ok, List.map_toArray, List.map_cons, List.map_nil, hd, hs, hr]
  rw [Oper.upon_value, put_list, hlen, show goInt k = Value.int .i64 k from rfl, hl]
  refine hK _ _ (h _ ⟨t, ?_⟩ (fun b hb => setRow_other w g b _ hb) ⟨rfl, rfl, rfl, by simp [World.setRow], fun b hb => setRow_other w g b _ (by omega)⟩ (by simp [World.setRow]))
  simpa using setRow_heap w g cur.toArray _ t _ hb
theorem u8s_join (l m : List Nat) (k : Nat) : (u8s l).take k ++ (u8s m).drop k = u8s (joinAt l m k) := by
  unfold u8s joinAt
  rw [List.map_append, List.map_take, List.map_drop]
theorem u8s_one {l : List Nat} : ∀ v ∈ u8s l, v.oneCell' = true := by
  intro v hv
  obtain ⟨x, _, rfl⟩ := List.mem_map.1 hv
  rfl
theorem tmodL {N : Int} (h3 : 1 ≤ N) (h4 : N ≤ 1024) (d : Int) : 0 ≤ (wrap64 (wrap64 (d.tmod (N + 1) + N) + 1)).tmod (N + 1) ∧ (wrap64 (wrap64 (d.tmod (N + 1) + N) + 1)).tmod (N + 1) ≤ N := by
  have h1 : -(N + 1) < d.tmod (N + 1) ∧ d.tmod (N + 1) < N + 1 := by
    refine ⟨?_, Int.tmod_lt_of_pos _ (by omega)⟩
    have := Int.tmod_lt_of_pos (-d) (b := N + 1) (by omega)
    rw [Int.neg_tmod] at this
    omega
  have h2 : wrap64 (wrap64 (d.tmod (N + 1) + N) + 1) = d.tmod (N + 1) + N + 1 := by unfold wrap64; omega
  rw [h2]
  have h5 := Int.tmod_lt_of_pos (d.tmod (N + 1) + N + 1) (b := N + 1) (by omega)
  have h6 := Int.tmod_nonneg (a := d.tmod (N + 1) + N + 1) (N + 1) (by omega)
  omega
def seenD (l : List Int) (D : Int) (c : Nat) : Bool := (l.take c).any (· == D)
theorem seenD_mem {l : List Int} {D : Int} {i c : Nat} (h : l[i]? = some D) (hi : i < c) : seenD l D c = true := by
  unfold seenD
  rw [List.any_eq_true]
  refine ⟨D, ?_, by simp⟩
  apply List.mem_of_getElem? (i := i)
  rw [List.getElem?_take, if_pos hi, h]
theorem seenD_succ {l : List Int} {D x : Int} {c : Nat} (h : l[c]? = some x) : seenD l D (c + 1) = (seenD l D c || x == D) := by
  unfold seenD
  rw [List.take_add_one, h]
  simp
end Go.Proofs.Ytnjmplapjnnjdaa

/- outpostlaw17.BucketdecExact: where a path is exact no path is in a higher bucket. -/
namespace Go.Proofs.Ytnjmplapjnnjdaa
open Go.RowKit

/-- What Decode's result is, where it found nothing. -/
theorem Pb.seR_none {p : Pb} {cap b D : Int} (h : p.seE cap b D ≠ 0 ∨ (p.seR cap b D).dec = false) : (p.seR cap b D).dec = false ∧ (p.seR cap b D).exact_ = false ∧ (p.seR cap b D).bits = [] ∧ (p.seR cap b D).m = 0 ∧ (p.seR cap b D).dip = 0 := by
  unfold Pb.seR Pb.seE at *
  split
  · exact ⟨rfl, rfl, rfl, rfl, rfl⟩
  · rename_i hz
    rw [if_neg hz, if_neg hz] at h
    split
    · exact ⟨rfl, rfl, rfl, rfl, rfl⟩
    · rename_i hb
      rw [if_neg hb, if_neg hb] at h
      have h := h.resolve_left (by simp)
      unfold Pb.bres at *
      cases hf : (p.brun D cap.toNat b.toNat (Bq.start D cap.toNat)).found with
      | none => exact ⟨rfl, rfl, rfl, rfl, rfl⟩
      | some e => rw [hf] at h; cases h
/-- .. and where it found a path. -/
structure Pb.Found (p : Pb) (b D : Int) (r : Rs) (d : Int) : Prop where
  chk : p.pathChk r.bits = 0
  prob : probChk p = 0
  dip : p.dip r.bits = r.dip
  tot : p.tot r.bits = r.m
  hi : r.work ≤ b
  lo : p.L + p.C.K ≤ r.work
  d1 : 1 ≤ D
  d2 : D ≤ 65536
  best : r.exact_ = true → d / D ≤ r.dip / D
  len : r.bits.length ≤ 1024
theorem work_fact {x : Int} {i n : Nat} (h : x = wrap64 ((0 + i : Nat) : Int)) (hi : i ≤ n) (hn : n ≤ 1048576) : x = (i : Int) := by
  rw [h]
  unfold wrap64
  omega
theorem Pb.seR_found {p : Pb} {cap b D : Int} (h : p.seE cap b D = 0) (hd : (p.seR cap b D).dec = true) {q : List Nat} (hq : p.Path q) : p.Found b D (p.seR cap b D) (p.dip q) := by
  have hz : newE p cap D = 0 := by
    unfold Pb.seE at h
    split at h
    · rename_i hz; exact absurd h hz
    · rename_i hz; simpa using hz
  obtain ⟨hc, c1, c2, D1, D2, _⟩ := newE_zero hz
  have hb : ¬(b < 0 ∨ 1048576 < b) := by
    intro hb
    unfold Pb.seE at h
    rw [if_neg (by simp [hz]), if_pos hb] at h
    cases h
  obtain ⟨n, rfl⟩ : ∃ n : Nat, b = n := ⟨b.toNat, by omega⟩
  obtain ⟨cn, rfl⟩ : ∃ cn : Nat, cap = cn := ⟨cap.toNat, by omega⟩
  have e1 : p.seR cn n D = p.bres D (p.brun D cn n (Bq.start D cn)) := by unfold Pb.seR; rw [if_neg (by simp [hz]), if_neg hb]; rfl
  have hm : 1 ≤ cn := by omega
  have hs0 : (Bq.start D cn).Ok p D cn := Bq.Ok.start hm
  have hok := hs0.run hc hm n
  obtain ⟨i, hi, hw, _⟩ := Bq.Wk.run hc hm n hs0 (Bq.Wk.start (D := D) hm)
  have hex := Bq.Ex.run hc D1 hm hq.lt (K := dipOf (p.pm q) / D) rfl n hs0 (Bq.Ex.start hm rfl D1)
  rw [e1] at hd ⊢
  obtain ⟨s, hs⟩ : ∃ s, s = p.brun D cn n (Bq.start D cn) := ⟨_, rfl⟩
  rw [← hs] at hd hok hw hex ⊢
  have hqd : p.dip q = dipOf (p.pm q) := by
    have hck : p.pathChk q = 0 := Pb.path_chk hc hq.len hq.lt
    unfold Pb.dip
    rw [if_neg (by simp [hck])]
  cases hf : s.found with
  | none => unfold Pb.bres at hd; rw [hf] at hd; cases hd
  | some e =>
    have hb2 : p.bres D s = ⟨true, !s.some_ || decide (s.gone ≤ e.dip / D), e.bs.take p.L.toNat, e.n.m, e.dip, s.work, s.drops⟩ := by unfold Pb.bres; rw [hf]
    rw [hb2]
    obtain ⟨heo, hed⟩ := hok.fnd e hf
    obtain ⟨h1, h2, h3, h4⟩ := heo.path hc hed
    have hck : p.pathChk (e.bs.take p.L.toNat) = 0 := Pb.path_chk hc h1.len h1.lt
    have hwk := hw.work
    have hwf := hw.fnd e hf
    have hN := Pb.N_le hc
    have hwk2 : s.work = (i : Int) := work_fact hwk hi (by omega)
    clear hwk
    obtain ⟨_, l1, l2, _⟩ := probChk_ok hc
    have hNe : p.N = p.L + p.C.K - 1 := rfl
    have hA : s.work ≤ (n : Int) := by rw [hwk2]; exact Int.ofNat_le.2 hi
    have hB : p.L + p.C.K ≤ s.work := by
      have h5 : p.N.toNat + 1 ≤ 0 + i := by rw [← h2]; exact hwf
      have h6 : 0 ≤ p.N := by omega
      rw [hwk2]
      clear hex hok hw hb2 hs0 hf
      omega
    refine ⟨hck, hc, ?_, ?_, ?_, ?_, D1, D2, fun hx => ?_, ?_⟩
    · unfold Pb.dip; rw [if_neg (by simp [hck])]; exact h3
    · unfold Pb.tot; rw [if_neg (by simp [hck])]; exact h4
    · exact hA
    · exact hB
    · rw [hqd]
      unfold Bq.Ex at hex
      rw [hf] at hex
      have hx : (!s.some_ || decide (s.gone ≤ e.dip / D)) = true := hx
      rcases hex with ⟨x1, x2⟩ | hex
      · rw [x1] at hx
        have : s.gone ≤ e.dip / D := by simpa using hx
        show _ ≤ e.dip / D
        omega
      · exact hex
    · show (e.bs.take p.L.toNat).length ≤ 1024
      rw [List.length_take]
      omega
end Go.Proofs.Ytnjmplapjnnjdaa

/- outpostlaw17.BucketdecExact: the walk. -/
namespace Go.Proofs.Ytnjmplapjnnjdaa
open Go.RowKit

theorem pure_ldS {P : Program} {a : Act} {w : World} {d t n b off : Nat} {x : Operand} {v : Value} {ty : TypeId} {ps : String} {af : Array Edge} {gd : Option (Nat × Bool)} (hx : a.eval x = .pointer (some ⟨b, off, none⟩)) [T : AggTy P t n] (hl : loadAgg w b off n = .ok v w) :
    (execOp a.eval ⟨some d, .load t x, ty, ps, af, gd⟩).run P w = .ok (.value v) w := by
  obtain ⟨d, h1, h2, h3⟩ := T.out
  have := run_loadVar_agg (P := P) (w := w) (b := b) (off := off) h1 h2 h3 (by rw [hl]; rfl)
  unfold execOp
  simp only [hx, Instr.loadAt, Instr.sureAddr, Sem.run_bind, Sem.run_pure, Result.andThen_ok, this, hl]
/-- One operation with a value by its run. -/
theorem one_val {P : Program} {ops : Array Oper} {o : Oper} {a : Act} {w w' : World} {v : Value} {K : Act → World → Prop} (hg : o.guard = none) (hr : (execOp a.eval o).run P w = .ok (.value v) w') (h : K (a.put o.dst v) w') : wpList P ops (fun e a w => e = .normal ∧ K a w) [o] a w := by
  refine wpList_plain hg fun K' hK => ?_
  unfold Oper.wp
  rw [hr]
  exact hK _ _ ⟨rfl, h⟩
theorem Pb.seE_prob {p : Pb} {cap b D : Int} (h : p.seE cap b D = 0) : probChk p = 0 := by
  unfold Pb.seE at h
  split at h
  · rename_i hz; exact absurd h hz
  · rename_i hz; exact (newE_zero (by simpa using hz)).1
theorem Pb.dip_bd17 {p : Pb} (bs : List Nat) : -12963840 ≤ p.dip bs ∧ p.dip bs ≤ 0 := by
  unfold Pb.dip
  split
  · exact ⟨by decide, Int.le_refl _⟩
  · rename_i hc
    have h0 : p.pathChk bs = 0 := by simpa using hc
    have h := (Pb.pathChk_ok h0).1
    have e1 : p.pm bs = (List.range (p.N.toNat + 1)).map fun i => (p.nd bs i).m := by
      unfold Pb.pm Pb.psums
      rw [p.pathL_len]
      rfl
    rw [e1]
    refine dipOf_bds _ fun m hm => ?_
    obtain ⟨i, _, rfl⟩ := List.mem_map.1 hm
    have := p.nd_bd h bs i
    omega
theorem Pb.path_bitsOf {p : Pb} (h : probChk p = 0) (q : List Nat) : p.Path (bitsOf q p.L.toNat) := by
  obtain ⟨_, l1, _⟩ := probChk_ok h
  refine ⟨by rw [bitsOf_len]; omega, fun x hx => ?_⟩
  obtain ⟨i, _, rfl⟩ := List.mem_map.1 hx
  omega
set_option maxRecDepth 5000 in
set_option maxHeartbeats 1000000 in
theorem law17_Exact (p : Pb) (a : Option Addr) (ca : Nat) (hp : p.Ok) (hcap : p.B.length ≤ ca) (cap : Int) (c0 : -9223372036854775808 ≤ cap) (c1 : cap ≤ 9223372036854775807) (b : Int) (b0 : -9223372036854775808 ≤ b) (b1 : b ≤ 9223372036854775807) (D : Int) (D0 : -9223372036854775808 ≤ D) (D1 : D ≤ 9223372036854775807)
    (q : List Nat) (aq : Option Addr) (cq : Nat) (hq63 : (q.length : Int) ≤ 9223372036854775807) (w : World) (hw : Bytes w a p.B) (hq : Bytes w aq q) :
    Pure Try.prog 9 #[.agg (p.cells (.slice a p.B.length ca)), .int .i64 cap, .int .i64 b, .int .i64 D, .slice aq q.length cq] w (.bool true) := by
  go_enter Try.func9, Try.ntmps9
  go_upto_region 1 with fail
  refine name1 ?_
  intro w0 bp B0
  have hw0 := hw.kept B0
  obtain ⟨fk, fr, flev, fl, fwin, fcode, ftable, fall⟩ := bp.prob hp
  clear fk fr flev fl fwin fcode ftable
  go_wp2_with ((with_reducible apply ld); rfl; (with_reducible assumption); (simp only [List.set_cons_zero, List.set_cons_succ]; rfl))
  refine (se_Decode p a ca cap b D hp _ hw0).mono ?_
  rintro e w1 ⟨⟨ar, cr, rfl, hO⟩, B1⟩
  have hnone := @Pb.seR_none p cap b D
  have hfound := fun h1 h2 => @Pb.seR_found p cap b D h1 h2 (bitsOf q p.L.toNat) (Pb.path_bitsOf (Pb.seE_prob h1) q)
  obtain ⟨r, hr⟩ : ∃ r, r = p.seR cap b D := ⟨_, rfl⟩
  obtain ⟨E, hE⟩ : ∃ E, E = p.seE cap b D := ⟨_, rfl⟩
  rw [← hr, ← hE] at hnone hfound
  rw [← hr] at hO
  rw [← hr, ← hE]
  clear hr hE
  obtain ⟨R, hR⟩ : ∃ R, R = r.cells (.slice ar r.bits.length cr) := ⟨_, rfl⟩
  have hRs : R.size = 7 := by rw [hR]; rfl
  have hfl : Flat R := by rw [hR]; exact flatR
  rw [← hR]
  have HRS := Lib.hid hRs
  have HR := Lib.hid hR
  have bn := Box.new w1 #[.bool false, .bool false, .slice none 0 0, .int .i64 0, .int .i64 0, .int .i64 0, .int .i64 0] 35
  have bp1 := bp.kept B1
  clear hRs fall hR
  go_upto_region 2 with (first | ((with_reducible apply ld); rfl; (with_reducible assumption); (simp only [List.set_cons_zero, List.set_cons_succ]; rfl)) | ((with_reducible apply stO); rfl; rfl; exact bn; rfl; exact HRS.out; exact hfl; intro w2 b2 B2 ho2 hs2))
  have B21 : Below w1.heap.size w1 w2 := ((Below.refl _ w1).alloc (Nat.le_refl _) _).trans B2
  have B20 := bOn (bOn B0 B1) B21
  have bp2 := bp1.kept B21
  have hO2 := (hO.kept (w' := w2) fun k hk hl => B21.block k hl)
  obtain ⟨rb, hrb⟩ : ∃ rb, rb = w1.heap.size := ⟨_, rfl⟩
  rw [← hrb] at b2 ⊢
  rw [HR.out] at b2
  clear bn ho2 hs2 B2 HRS hrb hO bp1 bp
  by_cases hne : E ≠ 0 ∨ r.dec = false
  · obtain ⟨n1, n2, n3, n4, n5⟩ := hnone hne
    clear hfound hnone
    go_wp2_with fail
    refine (law17_num E _).mono ?_
    rintro e w3 ⟨rfl, B3⟩
    have b3 := b2.kept B3
    have k0 : w3.cell? ⟨rb, 0, none⟩ = some (.bool false) := by have := b3.cell 0; rw [← n1]; exact this
    have k1 : w3.cell? ⟨rb, 1, none⟩ = some (.bool false) := by have := b3.cell 1; rw [← n2]; exact this
    have h0 : r.bits.length = 0 := by rw [n3]; rfl
    have k2 : w3.cell? ⟨rb, 2, none⟩ = some (.slice ar r.bits.length cr) := b3.cell 2
    rw [h0] at k2
    clear h0
    have k3 : w3.cell? ⟨rb, 3, none⟩ = some (.int .i64 0) := by have := b3.cell 3; rw [← n4]; exact this
    have k4 : w3.cell? ⟨rb, 4, none⟩ = some (.int .i64 0) := by have := b3.cell 4; rw [← n5]; exact this
    have B30 := bOn B20 B3
    have hcs : (E != 0) = true ∨ (E != 0) = false := by cases (E != 0) <;> simp
    clear b3 b2 hO2 bp2 B3 n1 n2 n3 n4 n5 hne
    rcases hcs with hE | hE
    all_goals
      go_wp2_with fail
      refine (law17_knows _).mono ?_
      rintro e w4 ⟨rfl, B4⟩
      go_wp2
      go_ret
      exact ⟨rfl, bOn B30 B4⟩
  · have hE0 : E = 0 := by
      rcases Int.decEq E 0 with h | h
      · exact absurd (.inl h) hne
      · exact h
    have hdec : r.dec = true := by
      cases h : r.dec with
      | true => rfl
      | false => exact absurd (.inr h) hne
    obtain ⟨mL, hmL⟩ : ∃ m, m = p.L.toNat := ⟨_, rfl⟩
    have F := hfound hE0 hdec
    rw [← hmL] at F
    have HML := Lib.hid hmL
    clear hmL
    subst hE0
    go_wp2_with fail
    refine (law17_num 0 _).mono ?_
    rintro e w3 ⟨rfl, B3⟩
    have b3 := b2.kept B3
    have k0 : w3.cell? ⟨rb, 0, none⟩ = some (.bool true) := by have := b3.cell 0; rw [← hdec]; exact this
    go_wp2_with fail
    refine (law17_knows _).mono ?_
    rintro e w4 ⟨rfl, B4⟩
    have B40 := bOn (bOn B20 B3) B4
    have b4 := b3.kept B4
    have bp4 := (bp2.kept B3).kept B4
    have hO4 := (hO2.kept (w' := w4) fun k hk hl => (B4.block k (Nat.lt_of_lt_of_le hl B3.size)).trans (B3.block k hl))
    have k2 : w4.cell? ⟨rb, 2, none⟩ = some (.slice ar r.bits.length cr) := b4.cell 2
    have hw4 := hw.kept B40
    have hq4 := hq.kept B40
    obtain ⟨fk, fr, flev, fl, fwin, fcode, ftable, fall⟩ := bp4.prob hp
    clear fk fr flev fwin fcode ftable k0 b3 b2 bp2 hO2 B3 B4 hfound hnone hne
    have hBo := score_BothG p a ca hp hcap r.bits ar cr (by have := F.len; omega) w4 hw4 hO4.bytes
    rw [F.chk, F.dip, F.tot] at hBo
    go_wp2_with ((with_reducible apply ld); rfl; (with_reducible assumption); (simp only [List.set_cons_zero, List.set_cons_succ]; rfl))
    refine hBo.mono ?_
    rintro e w5 ⟨rfl, B5⟩
    have B50 := bOn B40 B5
    have b5 := b4.kept B5
    have bp5 := bp4.kept B5
    have fl5 := (B5.cell (lt_of_cell fl)).trans fl
    clear hBo k2 fall fl b4 bp4 hO4 hw4 hq4
    go_upto_region 5 with fail
    (refine wp_region_treeE (.pure 0 (.pure 1 (.pure 2 (.pure 3 (.one 4 (.one 5 (.pure 6 (.pure 7 (.pure 8 (.one 9 (.one 10 .nil))))))))))) (by kernel_rfl) (by kernel_rfl) ?_; simp only [List.getD_cons_zero, List.getD_cons_succ, wpOTE])
    intro w6 B6
    have bp6 := bp5.kept B6
    have b6 := b5.kept B6
    have B60 := bOn B50 B6
    have hw6 := hw.kept B60
    have hq6 := hq.kept B60
    refine ⟨rfl, .agg (p.cells (.slice a p.B.length ca)), fun W hW => pure_ldS rfl ((bp6.kept hW).load (off := 0) (n := 40) (cs' := p.cells (.slice a p.B.length ca)) (by rw [hp.size]; decide) (by rw [Array.extract_eq_self_of_le (by rw [hp.size]; decide)])), ?_⟩
    try simp only [put_list, List.set_cons_zero, List.set_cons_succ]
    iterate 3
      refine ⟨rfl, _, fun W hW => by have fl := (hW.cell (Nat.lt_of_lt_of_le (lt_of_cell fl5) B6.size)).trans ((B6.cell (lt_of_cell fl5)).trans fl5); go_simp; first | done | rfl, ?_⟩
      try simp only [put_list, List.set_cons_zero, List.set_cons_succ]
    refine one_call rfl rfl inferInstance rfl ?_
    have hbits := law11_Bits q aq cq p.L (by have := (probChk_ok F.prob).2.2.1; omega) hq63 w6 hq6
    rw [← HML.out] at hbits
    refine hbits.mono ?_
    rintro e w7 ⟨rfl, bq, B7⟩
    refine ⟨_, rfl, rfl, B7, ?_⟩
    simp only [List.set_cons_zero, List.set_cons_succ]
    have bp7 := bp6.kept B7
    have b7 := b6.kept B7
    have B70 := bOn B60 B7
    have hw7 := hw.kept B70
    have hbl := bitsOf_len q mL
    have hby : Bytes w7 (some ⟨w6.heap.size, 0, none⟩) (bitsOf q mL) := Box.bytes bq fun x hx => by
      obtain ⟨i, _, rfl⟩ := List.mem_map.1 hx
      omega
    have hml : (mL : Int) ≤ 1024 := by have := (probChk_ok F.prob).2.2.1; have := HML.out; omega
    have hdp := score_Dip p a ca hp hcap (bitsOf q mL) (some ⟨w6.heap.size, 0, none⟩) mL (by rw [hbl]; omega) w7 hw7 hby
    have hck : p.pathChk (bitsOf q mL) = 0 := by rw [HML.out]; have := Pb.path_bitsOf F.prob q; exact Pb.path_chk F.prob this.len this.lt
    rw [hbl, hck] at hdp
    refine one_call rfl rfl inferInstance rfl ?_
    refine hdp.mono ?_
    rintro e w8 ⟨rfl, B8⟩
    refine ⟨_, rfl, rfl, B8, ?_⟩
    simp only [List.set_cons_zero, List.set_cons_succ]
    iterate 3
      refine ⟨rfl, _, fun W hW => by go_simp; first | done | rfl, ?_⟩
      try simp only [put_list, List.set_cons_zero, List.set_cons_succ]
    refine one_val rfl (v := .int .i64 (p.dip (bitsOf q mL))) (by go_simp) ⟨Below.refl _ _, ?_⟩
    try simp only [put_list, List.set_cons_zero, List.set_cons_succ]
    refine one_val rfl (v := .int .i64 0) (by go_simp) ⟨Below.refl _ _, ?_⟩
    try simp only [put_list, List.set_cons_zero, List.set_cons_succ]
    have b8 := b7.kept B8
    have bp8 := bp7.kept B8
    have B80 := bOn B70 B8
    obtain ⟨⟨k1, k2⟩, l1, l2, _⟩ := probChk_ok F.prob
    have hcb := p.dip_bd17 (bitsOf q mL)
    have hdb := p.dip_bd17 r.bits
    rw [F.dip] at hdb
    have hbest := F.best
    obtain ⟨Fh, Fl, Fd1, Fd2⟩ : r.work ≤ b ∧ p.L + p.C.K ≤ r.work ∧ 1 ≤ D ∧ D ≤ 65536 := ⟨F.hi, F.lo, F.d1, F.d2⟩
    obtain ⟨cc, hcc⟩ : ∃ c, c = p.dip (bitsOf q mL) := ⟨_, rfl⟩
    rw [← hcc] at hcb hbest ⊢
    have hx0 : b8.cell 1 = b8.cell 1 := rfl
    clear hx0 hdp hby bq hbits hcc F hck hbl
    go_wp2_with fail
    refine (law17_num 0 _).mono ?_
    rintro e w9 ⟨rfl, B9⟩
    go_wp2_with fail
    refine (law17_num 0 _).mono ?_
    rintro e w10 ⟨rfl, B10⟩
    have b10 := (b8.kept B9).kept B10
    have bp10 := (bp8.kept B9).kept B10
    have B100 := bOn (bOn B80 B9) B10
    obtain ⟨fk, fr, flev, fl, fwin, fcode, ftable, fall⟩ := bp10.prob hp
    have d1 : w10.cell? ⟨rb, 1, none⟩ = some (.bool r.exact_) := b10.cell 1
    have d3 : w10.cell? ⟨rb, 3, none⟩ = some (.int .i64 r.m) := b10.cell 3
    have d4 : w10.cell? ⟨rb, 4, none⟩ = some (.int .i64 r.dip) := b10.cell 4
    have d5 : w10.cell? ⟨rb, 5, none⟩ = some (.int .i64 r.work) := b10.cell 5
    have g1 : (r.dip != r.dip) = false := by simp
    have g2 : (r.m != r.m) = false := by simp
    have g3 : decide (b < r.work) = false := by simpa using Fh
    have g4 : decide (r.work < p.L + p.C.K) = false := by simpa using Fl
    clear fr flev fwin fcode ftable fall b8 bp8 B9 B10 bp10
    go_upto_region 8 with fail
    cases hX : r.exact_ with
    | false =>
      rw [hX] at d1
      clear hX
      go_wp2
      go_ret
      exact ⟨rfl, B100⟩
    | true =>
      have hbe := hbest hX
      rw [hX] at d1
      clear hX hbest
      have f1 := fun W => law17_floor cc D (by omega) (by omega) W
      have f2 := fun W => law17_floor r.dip D (by omega) (by omega) W
      have e1 : flr17 cc D = cc / D := by unfold flr17; rw [if_neg (by omega)]
      have e2 : flr17 r.dip D = r.dip / D := by unfold flr17; rw [if_neg (by omega)]
      rw [e1] at f1
      rw [e2] at f2
      have hone : D = 1 → cc ≤ r.dip := fun h => by rw [h, Int.ediv_one, Int.ediv_one] at hbe; exact hbe
      obtain ⟨X, hX⟩ : ∃ X, X = cc / D := ⟨_, rfl⟩
      obtain ⟨Y, hY⟩ : ∃ Y, Y = r.dip / D := ⟨_, rfl⟩
      rw [← hX] at f1 hbe
      rw [← hY] at f2 hbe
      have hle : decide (X ≤ Y) = true := by simpa using hbe
      clear hX hY e1 e2
      have hds : decide (1 < D) = true ∨ (decide (1 < D) = false ∧ decide (cc ≤ r.dip) = true) := by
        by_cases h : 1 < D
        · exact .inl (by simpa using h)
        · exact .inr ⟨by simpa using h, by simpa using hone (by omega)⟩
      clear hone
      go_wp2_with fail
      refine (f1 _).mono ?_
      rintro e w11 ⟨rfl, B11⟩
      go_wp2_with fail
      refine (f2 _).mono ?_
      rintro e w12 ⟨rfl, B12⟩
      have B120 := bOn (bOn B100 B11) B12
      clear f1 f2
      rcases hds with h1 | ⟨h1, h2⟩
      · go_wp2
        go_ret
        exact ⟨rfl, B120⟩
      · go_wp2
        go_ret
        exact ⟨rfl, B120⟩
end Go.Proofs.Ytnjmplapjnnjdaa
