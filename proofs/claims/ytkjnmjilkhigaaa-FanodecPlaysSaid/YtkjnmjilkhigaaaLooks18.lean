/- All looks of layer 18 at once. -/
import Derived.Test.YtkjnmjilkhigaaaLPieces
import Derived.Test.YtkjnmjilkhigaaaTreeI
import Derived.Test.YtkjnmjilkhigaaaStart
set_option linter.unusedSimpArgs false
set_option linter.unusedVariables false
set_option linter.unnecessarySimpa false
namespace Go.Proofs.Ytkjnmjilkhigaaa
open Go.RowKit

theorem Bytes.turn {H : Nat → Prop} {A B : World} {ab : Option Addr} {l : List Nat} (h : Bytes A ab l) (T : Turn H A B) (r : ∀ b o s, ab = some ⟨b, o, s⟩ → ¬H b) : Bytes B ab l :=
  ⟨fun k hk => by
    obtain ⟨b, o, ha, hc⟩ := h.cell k hk
    exact ⟨b, o, ha, (World.cell?_of_block (T.block b (lt_of_cell hc) (r _ _ _ ha))).trans hc⟩, h.lt⟩
theorem owns_zero {w : World} {B e sz n : Nat} {v : Value} {xs : List Value} (h : w.ownsRow B e sz v n xs) : w.ownsRow 0 e sz v n xs := by
  refine ⟨h.1, ?_⟩
  rcases h.2 with h | ⟨g, cap, cur, hv, hbg, rest⟩
  · exact .inl h
  · exact .inr ⟨g, cap, cur, hv, Nat.zero_le _, rest⟩
theorem owns_some {w : World} {B e sz n : Nat} {v : Value} {xs : List Value} (h : w.ownsRow B e sz v n xs) (hn : 0 < n) : ∃ g cap, v = .slice (some ⟨g, 0, none⟩) n cap := by
  rcases h.2 with ⟨_, h0⟩ | ⟨g, cap, cur, hv, _⟩
  · omega
  · exact ⟨g, cap, hv⟩
theorem owns_at {w : World} {B e n : Nat} {v : Value} {xs : List Value} (h : w.ownsRow B e 1 v n xs) {i : Nat} (hi : i < n) : ∃ u, xs[i]? = some u := by
  have h1 := h.1
  exact ⟨xs[i]'(by omega), List.getElem?_eq_getElem (by omega)⟩
theorem ap_small {n : Nat} (h : n ≤ 5000) : n + 1 ≤ 9223372036854775807 / 65536 ∧ (n + 1) * 1 ≤ 140737488355328 := by omega
theorem Turn.set' {H : Nat → Prop} {A B : World} (h : Turn H A B) {q : Addr} (hq : H q.block ∨ A.heap.size ≤ q.block) (v : Value) : Turn H A (B.setCell q v) :=
  ⟨h.os, h.tape, h.output, by simpa using h.size, fun k hk hn => (Below.heap_setCell _ _ _ _ (fun e => by rcases hq with hq | hq; exact hn (by rw [e]; exact hq); omega)).trans (h.block k hk hn)⟩
/-- Two rows of one's own, the first named in a struct, under hands. -/
structure Scr (W : World) (H : Nat → Prop) (bA : Nat) (f : Value → Array Value) (va : Value) (na : Nat) (vx : Value) (nx : Nat) (w : World) : Prop where
  box : Box w bA (f va)
  ra : ∃ xs, w.ownsRow 0 5 1 va na xs
  rx : ∃ xs, w.ownsRow 0 5 1 vx nx xs
  ha : ∀ k, va.ownBlock = some k → k ≠ bA ∧ (H k ∨ W.heap.size ≤ k)
  hx : ∀ k, vx.ownBlock = some k → k ≠ bA ∧ (H k ∨ W.heap.size ≤ k)
  ne : ∀ k, va.ownBlock = some k → vx.ownBlock ≠ some k
  hb : H bA ∧ bA < W.heap.size
  turn : Turn H W w
section
variable {W w : World} {H : Nat → Prop} {bA na nx : Nat} {f : Value → Array Value} {va vx : Value}
theorem Scr.seta {g c : Nat} (h : Scr W H bA f (.slice (some ⟨g, 0, none⟩) na c) na vx nx w) (i : Nat) (u : Value) : Scr W H bA f (.slice (some ⟨g, 0, none⟩) na c) na vx nx (w.setCell ⟨g, i, none⟩ u) := by
  obtain ⟨h1, h2⟩ := h.ha g rfl
  obtain ⟨xs, ra⟩ := h.ra
  obtain ⟨ys, rx⟩ := h.rx
  exact ⟨h.box.setOther (p := ⟨g, i, none⟩) h1 u, ⟨_, ownsN_set ra i u⟩, ⟨_, ownsN_block rx fun k hk => Below.heap_setCell _ _ _ _ (fun e => h.ne g rfl (by rw [hk, e]))⟩, h.ha, h.hx, h.ne, h.hb, h.turn.set' (q := ⟨g, i, none⟩) h2 u⟩
theorem Scr.setx {g c : Nat} (h : Scr W H bA f va na (.slice (some ⟨g, 0, none⟩) nx c) nx w) (i : Nat) (u : Value) : Scr W H bA f va na (.slice (some ⟨g, 0, none⟩) nx c) nx (w.setCell ⟨g, i, none⟩ u) := by
  obtain ⟨h1, h2⟩ := h.hx g rfl
  obtain ⟨xs, ra⟩ := h.ra
  obtain ⟨ys, rx⟩ := h.rx
  exact ⟨h.box.setOther (p := ⟨g, i, none⟩) h1 u, ⟨_, ownsN_block ra fun k hk => Below.heap_setCell _ _ _ _ (fun e => h.ne k hk (by rw [e]; rfl))⟩, ⟨_, ownsN_set rx i u⟩, h.ha, h.hx, h.ne, h.hb, h.turn.set' (q := ⟨g, i, none⟩) h2 u⟩
theorem Scr.lta (h : Scr W H bA f va na vx nx w) {k : Nat} (hk : va.ownBlock = some k) : k < w.heap.size := by
  obtain ⟨_, r⟩ := h.ra
  exact (World.ownsRow.lt r k hk).2
theorem Scr.ltx (h : Scr W H bA f va na vx nx w) {k : Nat} (hk : vx.ownBlock = some k) : k < w.heap.size := by
  obtain ⟨_, r⟩ := h.rx
  exact (World.ownsRow.lt r k hk).2
theorem Scr.turnA (h : Scr W H bA f va na vx nx w) {w' : World} (hg : w.grownBy w' va.ownBlock) : Turn H W w' :=
  ⟨hg.os.trans h.turn.os, hg.tape.trans h.turn.tape, hg.output.trans h.turn.output, Nat.le_trans h.turn.size hg.size, fun k hk hn => (hg.block k (Nat.lt_of_lt_of_le hk h.turn.size) (fun e => by
    rcases (h.ha k e.symm).2 with h1 | h1
    · exact hn h1
    · omega)).trans (h.turn.block k hk hn)⟩
theorem Scr.turnX (h : Scr W H bA f va na vx nx w) {w' : World} (hg : w.grownBy w' vx.ownBlock) : Turn H W w' :=
  ⟨hg.os.trans h.turn.os, hg.tape.trans h.turn.tape, hg.output.trans h.turn.output, Nat.le_trans h.turn.size hg.size, fun k hk hn => (hg.block k (Nat.lt_of_lt_of_le hk h.turn.size) (fun e => by
    rcases (h.hx k e.symm).2 with h1 | h1
    · exact hn h1
    · omega)).trans (h.turn.block k hk hn)⟩
theorem Scr.boxA (h : Scr W H bA f va na vx nx w) {w' : World} (hg : w.grownBy w' va.ownBlock) : Box w' bA (f va) :=
  h.box.imp fun _ e => (hg.block bA h.box.lt (fun e => (h.ha bA e.symm).1 rfl)).trans e
theorem Scr.appA (h : Scr W H bA f va na vx nx w) {w' : World} {v' : Value} {n' : Nat} {xs : List Value} (r1 : w'.ownsRow 0 5 1 v' n' xs) (hg : w.grownBy w' va.ownBlock) (r3 : v'.ownBlock = va.ownBlock ∨ v'.ownBlock = some (w.heap.size + 1)) (j : Nat) (hf : (f va).setIfInBounds j v' = f v') :
    Scr W H bA f v' n' vx nx (w'.setCell ⟨bA, j, none⟩ v') := by
  have hlb := h.box.lt
  have hs := h.turn.size
  have hv : ∀ k, v'.ownBlock = some k → k ≠ bA ∧ (H k ∨ W.heap.size ≤ k) ∧ vx.ownBlock ≠ some k := fun k hk => by
    rcases r3 with e | e
    · have := h.ha k (e.symm.trans hk)
      exact ⟨this.1, this.2, h.ne k (e.symm.trans hk)⟩
    · rw [e] at hk
      obtain rfl := Option.some.inj hk
      exact ⟨by omega, .inr (by omega), fun e => by have := h.ltx e; omega⟩
  obtain ⟨ys, rx⟩ := h.rx
  refine ⟨((h.boxA hg).setCell v').cast hf, ⟨_, ownsN_block r1 fun k hk => Below.heap_setCell _ _ _ _ (hv k hk).1⟩, ⟨_, ownsN_block rx fun k hk => (Below.heap_setCell _ _ _ _ (h.hx k hk).1).trans (hg.block k (h.ltx hk) (fun e => h.ne k e.symm hk))⟩, fun k hk => ⟨(hv k hk).1, (hv k hk).2.1⟩, h.hx, fun k hk => (hv k hk).2.2, h.hb, (h.turnA hg).set' (q := ⟨bA, j, none⟩) (.inl h.hb.1) v'⟩
theorem Scr.appX (h : Scr W H bA f va na vx nx w) {w' : World} {v' : Value} {n' : Nat} {xs : List Value} (r1 : w'.ownsRow 0 5 1 v' n' xs) (hg : w.grownBy w' vx.ownBlock) (r3 : v'.ownBlock = vx.ownBlock ∨ v'.ownBlock = some (w.heap.size + 1)) :
    Scr W H bA f va na v' n' w' := by
  have hlb := h.box.lt
  have hs := h.turn.size
  have hv : ∀ k, v'.ownBlock = some k → k ≠ bA ∧ (H k ∨ W.heap.size ≤ k) ∧ va.ownBlock ≠ some k := fun k hk => by
    rcases r3 with e | e
    · have := h.hx k (e.symm.trans hk)
      exact ⟨this.1, this.2, fun e' => h.ne k e' (e.symm.trans hk)⟩
    · rw [e] at hk
      obtain rfl := Option.some.inj hk
      exact ⟨by omega, .inr (by omega), fun e => by have := h.lta e; omega⟩
  obtain ⟨ys, ra⟩ := h.ra
  refine ⟨h.box.imp fun _ e => (hg.block bA h.box.lt (fun e => (h.hx bA e.symm).1 rfl)).trans e, ⟨_, ownsN_block ra fun k hk => hg.block k (h.lta hk) (fun e => h.ne k hk e.symm)⟩, ⟨_, r1⟩, h.ha, fun k hk => ⟨(hv k hk).1, (hv k hk).2.1⟩, fun k hk e => (hv k e).2.2 hk, h.hb, h.turnX hg⟩
end
set_option maxRecDepth 5000 in
set_option maxHeartbeats 2000000 in
theorem o18_looks (p : Pb) (hp : p.Ok) (hc : probChk p = 0) (D : Int) (S : Fm) (hs : S.Ok p D) (A : FA) (A' : DA) (w : World) (h : FanoIn w p D S A) (h' : FdIn w p D S A') :
    Pure Try.prog 31 #[.pointer (some ⟨A.mb, 0, none⟩), .pointer (some ⟨A'.mb, 0, none⟩)] w (.bool true) := by
  have hbl : ∀ x ∈ (p.fres S).bits, x < 256 := by
    intro x hx
    have hx' : x ∈ p.fbits S := hx
    unfold Pb.fbits at hx'
    split at hx'
    · rename_i hd
      have := (hs.path hc hd).lt x hx'
      omega
    · cases hx'
  have hbs : ∀ x ∈ S.bits, x < 256 := fun x hx => by have := (hs.way.facts hc).2.2.1 x hx; omega
  go_enter Try.func31, Try.ntmps31
  go_wp2_with fail
  refine (fano_Result p hp hc D S hs A w h).mono ?_
  rintro e w1 ⟨⟨a1, c1, rfl, o1⟩, B1⟩
  have bz : Box (w1.alloc (.cells #[.bool false, .bool false, .slice none 0 0, .int .i64 0, .int .i64 0, .int .i64 0, .int .i64 0] 35)) w1.heap.size #[.bool false, .bool false, .slice none 0 0, .int .i64 0, .int .i64 0, .int .i64 0, .int .i64 0] := Box.new _ _ _
  go_upto_region 2 with (first | ((with_reducible apply ld); rfl; (with_reducible assumption); (simp only [List.set_cons_zero, List.set_cons_succ]; rfl)) | ((with_reducible apply stO); rfl; rfl; exact bz; rfl; rfl; exact flatR; intro w2 b2 B2 ho2 hs2))
  have B2' : Below w1.heap.size w1 w2 := ((Below.refl _ w1).alloc (Nat.le_refl _) _).trans B2
  have F2 := (h.kept B1).kept B2'
  have G2 := (h'.kept B1).kept B2'
  have B20 := bOn B1 B2'
  clear bz B2 ho2 hs2
  go_wp2_with fail
  refine (fano_Result p hp hc D S hs A w2 F2).mono ?_
  rintro e w3 ⟨⟨a3, c3, rfl, o3⟩, B3⟩
  have bz : Box (w3.alloc (.cells #[.bool false, .bool false, .slice none 0 0, .int .i64 0, .int .i64 0, .int .i64 0, .int .i64 0] 35)) w3.heap.size #[.bool false, .bool false, .slice none 0 0, .int .i64 0, .int .i64 0, .int .i64 0, .int .i64 0] := Box.new _ _ _
  go_upto_region 3 with (first | ((with_reducible apply ld); rfl; (with_reducible assumption); (simp only [List.set_cons_zero, List.set_cons_succ]; rfl)) | ((with_reducible apply stO); rfl; rfl; exact bz; rfl; rfl; exact flatR; intro w4 b4 B4 ho2 hs2))
  have B4' : Below w3.heap.size w3 w4 := ((Below.refl _ w3).alloc (Nat.le_refl _) _).trans B4
  have F4 := (F2.kept B3).kept B4'
  have G4 := (G2.kept B3).kept B4'
  clear bz B4 ho2 hs2 F2 G2
  go_wp2_with fail
  refine (fano_Path p hp hc D S hs A w4 F4).mono ?_
  rintro e w5 ⟨⟨g5, rfl, x5, hg5⟩, B5⟩
  have F5 := F4.kept B5
  have G5 := G4.kept B5
  clear F4 G4
  go_wp2_with fail
  refine (fano_Path p hp hc D S hs A w5 F5).mono ?_
  rintro e w6 ⟨⟨g6, rfl, x6, hg6⟩, B6⟩
  have F6 := F5.kept B6
  have G6 := G5.kept B6
  clear F5 G5
  go_wp2_with fail
  refine (fd_Result p hp hc D S hs A' w6 G6).mono ?_
  rintro e w7 ⟨⟨a7, c7, rfl, o7⟩, B7⟩
  have bz : Box (w7.alloc (.cells #[.bool false, .bool false, .slice none 0 0, .int .i64 0, .int .i64 0, .int .i64 0, .int .i64 0] 35)) w7.heap.size #[.bool false, .bool false, .slice none 0 0, .int .i64 0, .int .i64 0, .int .i64 0, .int .i64 0] := Box.new _ _ _
  go_upto_region 6 with (first | ((with_reducible apply ld); rfl; (with_reducible assumption); (simp only [List.set_cons_zero, List.set_cons_succ]; rfl)) | ((with_reducible apply stO); rfl; rfl; exact bz; rfl; rfl; exact flatR; intro w8 b8 B8 ho2 hs2))
  have B8' : Below w7.heap.size w7 w8 := ((Below.refl _ w7).alloc (Nat.le_refl _) _).trans B8
  have F8 := (F6.kept B7).kept B8'
  have G8 := (G6.kept B7).kept B8'
  clear bz B8 ho2 hs2 F6 G6
  go_wp2_with fail
  refine (fd_Path p hc D S hs A' w8 G8).mono ?_
  rintro e w9 ⟨⟨a9, c9, rfl, o9⟩, B9⟩
  have y9 : Bytes w9 a9 S.bits := by
    rcases o9.2 with ⟨e, h0⟩ | ⟨g', c', cur, e, _⟩
    · rw [List.length_eq_zero_iff.1 h0]; exact Bytes.nil _ _
    · obtain ⟨rfl, _⟩ : a9 = some ⟨g', 0, none⟩ ∧ c9 = c' := by simpa using e
      exact own_bytes o9 hbs
  have F9 := F8.kept B9
  have G9 := G8.kept B9
  clear F8 G8
  go_wp2_with ((with_reducible apply cv); rfl; (with_reducible assumption); rfl; (simp only [List.set_cons_zero, List.set_cons_succ]; rfl))
  refine (fano_Node p hp hc D S hs A w9 F9).mono ?_
  rintro e w10 ⟨rfl, B10⟩
  have bz := Box.new w10 #[.int .u32 0, .int .i64 0, .int .i64 0] 80
  go_upto_region 8 with (first | ((with_reducible apply ld); rfl; (with_reducible assumption); (simp only [List.set_cons_zero, List.set_cons_succ]; rfl)) | ((with_reducible apply stO); rfl; rfl; exact bz; rfl; rfl; exact nodeCells_flat _ _ _; intro w11 b11 B11 ho3 hs3))
  have B11' : Below w10.heap.size w10 w11 := ((Below.refl _ w10).alloc (Nat.le_refl _) _).trans B11
  have F11 := (F9.kept B10).kept B11'
  have G11 := (G9.kept B10).kept B11'
  clear bz ho3 hs3 B11 F9 G9
  have C9 := bOn B10 B11'
  have C8 := bOn B9 C9
  have C7 := bOn B8' C8
  have C6 := bOn B7 C7
  have C5 := bOn B6 C6
  have C4 := bOn B5 C5
  have C3 := bOn B4' C4
  have C2 := bOn B3 C3
  have C1 := bOn B2' C2
  have B110 := bOn B1 C1
  have y1 := (res_bytes o1 hbl).kept C1
  have y3 := (res_bytes o3 hbl).kept C3
  have y7 := (res_bytes o7 hbl).kept C7
  have z5 := (Box.bytes ⟨_, x5⟩ hbs).kept C5
  have z6 := (Box.bytes ⟨_, x6⟩ hbs).kept C6
  have bA := b2.kept C2
  have bB := b4.kept C4
  have bW := b8.kept C8
  have LA := bA.load (off := 0) (n := 7) (cs' := (p.fres S).cells (.slice a1 (p.fres S).bits.length c1)) (Nat.le_refl _) rfl
  have LB := bB.load (off := 0) (n := 7) (cs' := (p.fres S).cells (.slice a3 (p.fres S).bits.length c3)) (Nat.le_refl _) rfl
  have LW := bW.load (off := 0) (n := 7) (cs' := (p.fres S).cells (.slice a7 (p.fres S).bits.length c7)) (Nat.le_refl _) rfl
  have LN := b11.load (off := 0) (n := 3) (cs' := S.top.n.cells) (Nat.le_refl _) (Array.extract_eq_self_of_le (Nat.le_refl _))
  have hne := neqNode S.top.n S.top.n
  rw [Nd.same_iff.2 rfl] at hne
  simp only [Bool.not_true] at hne
  have q3 := KeptW.cell G11.at_.c3
  have q4 := KeptW.cell G11.at_.c4
  have lA : w1.heap.size < w2.heap.size := b2.lt
  have lB : w3.heap.size < w4.heap.size := b4.lt
  have lW : w7.heap.size < w8.heap.size := b8.lt
  clear b2 b4 b8 y9
  have hthr : ∀ W, FanoIn W p D S A → Pure Try.prog 25 #[.pointer (some ⟨A.mb, 0, none⟩)] W (.int .i64 S.thr) := fun W hW => fano_Threshold p hp D S A W hW
  have hlow : ∀ W, FanoIn W p D S A → Pure Try.prog 24 #[.pointer (some ⟨A.mb, 0, none⟩)] W (.int .i64 S.low) := fun W hW => fano_Least p hp D S A W hW
  have hnode : ∀ W, FdIn W p D S A' → Pure Try.prog 54 #[.pointer (some ⟨A'.mb, 0, none⟩)] W (.agg S.top.n.cells) := fun W hW => fd_Node p hc D S hs A' W hW
  have hres : ∀ W, FanoIn W p D S A → Calls Try.prog 19 #[.pointer (some ⟨A.mb, 0, none⟩)] W (ResPost (p.fres S) W) := fun W hW => fano_Result p hp hc D S hs A W hW
  have hpath : ∀ W, FanoIn W p D S A → Calls Try.prog 35 #[.pointer (some ⟨A.mb, 0, none⟩)] W (PathPost S.bits W) := fun W hW => fano_Path p hp hc D S hs A W hW
  have hRl : (p.fres S).bits.length ≤ 1055 := by
    show (p.fbits S).length ≤ _
    unfold Pb.fbits
    split
    · have := (hs.way.facts hc).2.1
      have h2 : S.bits.length = S.up.length := wayBits_len _ _
      have := Pb.N_le hc
      rw [List.length_take]
      omega
    · simp
  have hbsl : S.bits.length ≤ 1055 := by
    have := (hs.way.facts hc).2.1
    have h2 : S.bits.length = S.up.length := wayBits_len _ _
    have := Pb.N_le hc
    omega
  obtain ⟨nd, hnd⟩ : ∃ n, n = S.top.n := ⟨_, rfl⟩
  obtain ⟨R, hR⟩ : ∃ R, R = p.fres S := ⟨_, rfl⟩
  obtain ⟨bs, hbs'⟩ : ∃ b, b = S.bits := ⟨_, rfl⟩
  obtain ⟨thr, hthr'⟩ : ∃ b, b = S.thr := ⟨_, rfl⟩
  obtain ⟨low, hlow'⟩ : ∃ b, b = S.low := ⟨_, rfl⟩
  rw [← hnd] at b11 LN hne hnode ⊢
  rw [← hR] at hres hRl hbl o1 o3 o7 y1 y3 y7 bA bB bW LA LB LW
  rw [← hbs'] at hpath hbsl hbs x5 x6 o9 z5 z6 ⊢
  rw [← hthr'] at q3 hthr
  rw [← hlow'] at q4 hlow
  clear hR hnd hbs' hthr' hlow'
  refine wp_region_kept (by kernel_rfl) (by kernel_rfl) ?_
  repeat first
    | go_big_quiet_skip
    | ((with_reducible apply q_ldG); rfl; rfl; (with_reducible assumption); (simp only [List.set_cons_zero, List.set_cons_succ]; rfl))
    | ((with_reducible apply q_cvG); rfl; rfl; (with_reducible assumption); rfl; (simp only [List.set_cons_zero, List.set_cons_succ]; rfl))
    | go_big_quiet_step (first | ((refine Calls.kept (o18_same R _ _ _ _ _ ?_ ?_)); (first | exact y1.kept (Subtype.property _) | exact y3.kept (Subtype.property _)); exact y7.kept (Subtype.property _)) | exact Calls.kept (hnode _ (G11.kept (Subtype.property _))) | exact Calls.kept (hthr _ (F11.kept (Subtype.property _))) | exact Calls.kept (hlow _ (F11.kept (Subtype.property _))))
  refine wpQuiet_nil ?_
  intro w12 B12
  obtain ⟨H, hH⟩ : ∃ H : Nat → Prop, H = fun k => k = w1.heap.size ∨ (Value.slice a1 R.bits.length c1).ownBlock = some k ∨ g5 = k := ⟨_, rfl⟩
  have hs1 := B1.size
  have hs2 := B2'.size
  have hs3 := B3.size
  have hs4 := B4'.size
  have hs5 := B5.size
  have hs6 := B6.size
  have hs7 := B7.size
  have hs12 := (bOn C2 B12).size
  have l5 : g5 < w5.heap.size := Box.lt ⟨_, x5⟩
  have l1 : ∀ k, (Value.slice a1 R.bits.length c1).ownBlock = some k → w.heap.size ≤ k ∧ k < w1.heap.size := fun k hk => World.ownsRow.lt o1 k hk
  have hScr : Scr w12 H w1.heap.size R.cells (.slice a1 R.bits.length c1) R.bits.length (.slice (some ⟨g5, 0, none⟩) bs.length bs.length) bs.length w12 := by
    refine ⟨bA.kept B12, ⟨_, owns_zero (ownsN_block o1 fun k hk => (bOn C1 B12).block k (l1 k hk).2)⟩, ⟨_, BoxT.owns ((x5.kept C5).kept B12) (by simp [u8s]) (by unfold maxLen; omega) 0 (Nat.zero_le _)⟩, fun k hk => ?_, fun k hk => ?_, fun k hk e => ?_, ⟨by rw [hH]; exact .inl rfl, ?_⟩, Turn.refl _ _⟩
    · have := l1 k hk
      exact ⟨by omega, .inl (by rw [hH]; exact .inr (.inl hk))⟩
    · have hk : g5 = k := by simpa [Value.ownBlock] using hk
      exact ⟨by omega, .inl (by rw [hH]; exact .inr (.inr hk))⟩
    · have := l1 k hk
      have : g5 = k := by simpa [Value.ownBlock] using e
      omega
    · have := b11.lt; have := bA.lt; have := B12.size; omega
  have F12 := F11.kept B12
  have G12 := G11.kept B12
  have m3 := y3.kept B12
  have m7 := y7.kept B12
  have m6 := z6.kept B12
  have bB12 := bB.kept B12
  have bW12 := bW.kept B12
  have B120 := bOn B110 B12
  have hR63 : (R.bits.length : Int) ≤ 9223372036854775807 := by omega
  have hb63 : (bs.length : Int) ≤ 9223372036854775807 := by omega
  have HH := Lib.hid hH
  clear hH q3 q4 hne LA LB LW LN y1 y3 y7 z5 z6 bA bB bW b11 F11 G11
  go_wp2_with fail
  go_loopw [13] (fun i wr => ∃ k : Nat, k ≤ R.bits.length ∧ i = .int .i64 k ∧ Scr w12 H w1.heap.size R.cells (.slice a1 R.bits.length c1) R.bits.length (.slice (some ⟨g5, 0, none⟩) bs.length bs.length) bs.length wr) (fun i _ => R.bits.length - (intOf i).toNat)
  case atStart => exact ⟨0, Nat.zero_le _, rfl, hScr⟩
  case round =>
    obtain ⟨k, hk, rfl, hr⟩ := hrel
    have c2 : wr.cell? ⟨w1.heap.size, 2, none⟩ = some (.slice a1 R.bits.length c1) := hr.box.cell 2
    by_cases hkl : k < R.bits.length
    · obtain ⟨k1, k2⟩ := ap_lt hkl
      have hb1 := ap_bd hkl hR63
      obtain ⟨xs, ra⟩ := hr.ra
      obtain ⟨g, cc, he⟩ := owns_some ra (by omega)
      obtain ⟨rfl, rfl⟩ : a1 = some ⟨g, 0, none⟩ ∧ c1 = cc := by simpa using he
      obtain ⟨u, hu⟩ := owns_at ra hkl
      have e1 := ownsN_cell ra hu
      have e2 := ra.frozenAt k
      have hn := hr.seta k (.int .u8 77)
      clear he hu
      go_wp2
      go_roundw
      case measure => first | exact ap_meas' hkl | exact ap_meas hkl hb1
      case rel => exact ⟨k + 1, hkl, (by first | rfl | exact congrArg (Value.int .i64) (ap_succ hb1)), hn⟩
    · obtain rfl := ap_end hkl hk
      have k3 : decide ((R.bits.length : Int) < (R.bits.length : Int)) = false := by simp
      go_wp2_with fail
      clear k3 c2 hkl
      go_loopw [14] (fun i wr => ∃ k : Nat, k ≤ bs.length ∧ i = .int .i64 k ∧ Scr w12 H w1.heap.size R.cells (.slice a1 R.bits.length c1) R.bits.length (.slice (some ⟨g5, 0, none⟩) bs.length bs.length) bs.length wr) (fun i _ => bs.length - (intOf i).toNat)
      case atStart => exact ⟨0, Nat.zero_le _, rfl, hr⟩
      case round =>
        clear hr
        obtain ⟨k, hk, rfl, hr⟩ := hrel
        by_cases hkl : k < bs.length
        · obtain ⟨k1, k2⟩ := ap_lt hkl
          have hb1 := ap_bd hkl hb63
          obtain ⟨xs, rx⟩ := hr.rx
          obtain ⟨u, hu⟩ := owns_at rx hkl
          have e1 := ownsN_cell rx hu
          have e2 := rx.frozenAt k
          have hn := hr.setx k (.int .u8 76)
          clear hu
          go_wp2
          go_roundw
          case measure => first | exact ap_meas' hkl | exact ap_meas hkl hb1
          case rel => exact ⟨k + 1, hkl, (by first | rfl | exact congrArg (Value.int .i64) (ap_succ hb1)), hn⟩
        · obtain rfl := ap_end hkl hk
          have k3 : decide ((bs.length : Int) < (bs.length : Int)) = false := by simp
          go_wp2_with fail
          clear k3 hkl
          go_loopw [7, 15] (fun x i wr => ∃ k : Nat, k ≤ 64 ∧ i = .int .i64 k ∧ ∃ va, Scr w12 H w1.heap.size R.cells va (R.bits.length + k) x (bs.length + k) wr) (fun _ i _ => 64 - (intOf i).toNat)
          case atStart => exact ⟨0, Nat.zero_le _, rfl, _, hr⟩
          case round =>
            clear hr
            obtain ⟨k, hk, rfl, va, hr⟩ := hrel
            by_cases hkl : k < 64
            · have k3 : decide ((k : Int) < 64) = true := by simp; omega
              have hb1 : (k : Int) + 1 ≤ 9223372036854775807 := by omega
              obtain ⟨xs, ra⟩ := hr.ra
              obtain ⟨ys, rx⟩ := hr.rx
              have c2 : wr.cell? ⟨w1.heap.size, 2, none⟩ = some va := hr.box.cell 2
              obtain ⟨p1, p2⟩ := ap_small (n := R.bits.length + k) (by omega)
              obtain ⟨p3, p4⟩ := ap_small (n := bs.length + k) (by omega)
              have P1 := Lib.hid p1
              have P2 := Lib.hid p2
              have P3 := Lib.hid p3
              have P4 := Lib.hid p4
              clear p1 p2 p3 p4
              go_upto_region 22 with (at_builtin; refine ap (us := [.int .u8 78]) (m := 1) ra (by decide) rfl rfl rfl (by intro u hu; simp at hu; subst hu; rfl) P1.out P2.out (Nat.zero_le _) ?_; intro v2 w2' r1 r2 r3; have cc : w2'.cell? ⟨w1.heap.size, 2, none⟩ = some va := (hr.boxA r2).cell 2; have zz := (hr.boxA r2).frozen 2; obtain ⟨gn, cn, rfl⟩ := owns_some r1 (Nat.succ_pos _); have hn := hr.appA r1 r2 r3 2 rfl; clear r1 r2 r3)
              obtain ⟨ys2, rx2⟩ := hn.rx
              obtain ⟨wq, hwq⟩ : ∃ W, W = w2'.setCell ⟨w1.heap.size, 2, none⟩ (.slice (some ⟨gn, 0, none⟩) (R.bits.length + k + 1) cn) := ⟨_, rfl⟩
              rw [← hwq] at hn rx2 ⊢
              clear ra rx c2 hr cc zz hwq
              go_wp2_with (at_builtin; refine ap (us := [.int .u8 79]) (m := 1) rx2 (by decide) rfl rfl rfl (by intro u hu; simp at hu; subst hu; rfl) P3.out P4.out (Nat.zero_le _) ?_; intro v3 w3' r1 r2 r3; obtain ⟨gm, cm, rfl⟩ := owns_some r1 (Nat.succ_pos _); have hn2 := hn.appX r1 r2 r3; clear r1 r2 r3)
              go_roundw
              case measure => simp only [intOf]; omega
              case rel => exact ⟨k + 1, hkl, (by first | rfl | (refine congrArg (Value.int .i64) ?_; first | omega | (unfold wrap64; omega))), _, hn2⟩
            · obtain rfl : k = 64 := by omega
              have T := hr.turn
              have hHs : ∀ k, H k → w.heap.size ≤ k ∧ k < w5.heap.size ∧ ¬(w2.heap.size ≤ k ∧ k < w4.heap.size) := fun k hk => by
                rw [HH.out] at hk
                rcases hk with h | h | h
                · omega
                · have := l1 k h; omega
                · omega
              have Fz := F12.turn T (fun k hk hh => by have := h.lt hk; have := (hHs k hh).1; omega)
              have Gz := G12.turn T (fun k hk hh => by have := h'.lt hk; have := (hHs k hh).1; omega)
              have bB := bB12.turn T (fun hh => by have := hHs _ hh; omega)
              have bW := bW12.turn T (fun hh => by have := hHs _ hh; omega)
              have y3 := Bytes.turn m3 T (fun b o s e hh => by
                have h1 := World.ownsRow.lt o3 b (by rw [e]; rfl)
                have := hHs _ hh
                omega)
              have y7 := Bytes.turn m7 T (fun b o s e hh => by
                have h1 := World.ownsRow.lt o7 b (by rw [e]; rfl)
                have := hHs _ hh
                omega)
              have y6 := Bytes.turn m6 T (fun b o s e hh => by
                obtain ⟨rfl, _⟩ : g6 = b ∧ _ := by simpa using e
                have := hHs _ hh
                omega)
              have BZ : Below w.heap.size w wr := B120.trans (T.below' B120.size (fun k _ hh => (hHs k hh).1))
              clear hHs T hr F12 G12 m3 m7 m6 bB12 bW12 B120 o1 o3 o7 o9 x5 x6
              go_upto_region 23 with fail
              (refine wp_region_treeE (.pure 0 (.pure 1 (.one 2 (.pure 3 (.pure 4 (.pure 5 (.pure 6 (.pure 7 (.pure 8 (.pure 9 (.pure 10 (.pure 12 (.one 11 (.one 13 (.pure 14 (.pure 15 (.pure 16 (.pure 19 (.one 17 (.pure 18 (.pure 20 (.pure 21 (.one 22 .nil))))))))))))))))))))))) (by kernel_rfl) (by kernel_rfl) ?_; simp only [List.getD_cons_zero, List.getD_cons_succ, wpOTE])
              intro w20 B20
              have Fz := Fz.kept B20
              have bB := bB.kept B20
              have bW := bW.kept B20
              have y3 := y3.kept B20
              have y7 := y7.kept B20
              have y6 := y6.kept B20
              have BZ := bOn BZ B20
              refine ⟨rfl, .agg (R.cells (.slice a3 R.bits.length c3)), fun W hW => pure_ld rfl ((bB.kept hW).load (off := 0) (n := 7) (cs' := R.cells (.slice a3 R.bits.length c3)) (Nat.le_refl _) rfl), ?_⟩
              try simp only [put_list, List.set_cons_zero, List.set_cons_succ]
              refine ⟨rfl, .agg (R.cells (.slice a7 R.bits.length c7)), fun W hW => pure_ld rfl ((bW.kept hW).load (off := 0) (n := 7) (cs' := R.cells (.slice a7 R.bits.length c7)) (Nat.le_refl _) rfl), ?_⟩
              try simp only [put_list, List.set_cons_zero, List.set_cons_succ]
              refine one_call rfl rfl inferInstance rfl ?_
              refine (o18_same R a3 a7 c3 c7 w20 y3 y7).mono ?_
              rintro e w21 ⟨rfl, B21⟩
              refine ⟨_, rfl, rfl, B21, ?_⟩
              simp only [List.set_cons_zero, List.set_cons_succ]
              have Fz := Fz.kept B21
              have bW := bW.kept B21
              have y7 := y7.kept B21
              have y6 := y6.kept B21
              have BZ := bOn BZ B21
              iterate 2
                refine ⟨rfl, _, fun W hW => by go_simp; first | done | rfl, ?_⟩
                try simp only [put_list, List.set_cons_zero, List.set_cons_succ]
              refine ⟨rfl, .string (byteStr bs), fun W hW => by have c := run_conv (P := Try.prog) (src := 30) (dst := 9) (cap := bs.length) (y6.kept hW) rfl; go_simp, ?_⟩
              try simp only [put_list, List.set_cons_zero, List.set_cons_succ]
              iterate 5
                refine ⟨rfl, _, fun W hW => by go_simp; first | done | rfl, ?_⟩
                try simp only [put_list, List.set_cons_zero, List.set_cons_succ]
              refine ⟨rfl, .agg (R.cells (.slice a7 R.bits.length c7)), fun W hW => pure_ld rfl ((bW.kept hW).load (off := 0) (n := 7) (cs' := R.cells (.slice a7 R.bits.length c7)) (Nat.le_refl _) rfl), ?_⟩
              try simp only [put_list, List.set_cons_zero, List.set_cons_succ]
              refine one_call rfl rfl inferInstance rfl ?_
              refine (hres w21 Fz).mono ?_
              rintro e w22 ⟨⟨a22, c22, rfl, o22⟩, B22⟩
              refine ⟨_, rfl, rfl, B22, ?_⟩
              simp only [List.set_cons_zero, List.set_cons_succ]
              have Fz := Fz.kept B22
              have y7 := y7.kept B22
              have y22 := res_bytes o22 hbl
              have BZ := bOn BZ B22
              refine one_call rfl rfl inferInstance rfl ?_
              refine (o18_same R a22 a7 c22 c7 w22 y22 y7).mono ?_
              rintro e w23 ⟨rfl, B23⟩
              refine ⟨_, rfl, rfl, B23, ?_⟩
              simp only [List.set_cons_zero, List.set_cons_succ]
              have Fz := Fz.kept B23
              have BZ := bOn BZ B23
              iterate 4
                refine ⟨rfl, _, fun W hW => by go_simp; first | done | rfl, ?_⟩
                try simp only [put_list, List.set_cons_zero, List.set_cons_succ]
              refine one_call rfl rfl inferInstance rfl ?_
              refine (hpath w23 Fz).mono ?_
              rintro e w24 ⟨⟨g24, rfl, x24, _⟩, B24⟩
              refine ⟨_, rfl, rfl, B24, ?_⟩
              simp only [List.set_cons_zero, List.set_cons_succ]
              have y24 := Box.bytes x24.box hbs
              have BZ := bOn BZ B24
              refine ⟨rfl, .string (byteStr bs), fun W hW => by have c := run_conv (P := Try.prog) (src := 30) (dst := 9) (cap := bs.length) (y24.kept hW) rfl; go_simp, ?_⟩
              try simp only [put_list, List.set_cons_zero, List.set_cons_succ]
              iterate 2
                refine ⟨rfl, _, fun W hW => by go_simp; first | done | rfl, ?_⟩
                try simp only [put_list, List.set_cons_zero, List.set_cons_succ]
              go_wp2
              refine ⟨Below.refl _ _, ?_⟩
              go_wp2
              go_ret
              exact ⟨rfl, BZ⟩
end Go.Proofs.Ytkjnmjilkhigaaa
