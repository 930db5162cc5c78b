/- outpostlaw17.BucketdecOwn: a result's bits are the caller's own. -/
import Derived.Test.YtnjmplapjnnjdaaApartX
import Derived.Test.YtnjmplapjnnjdaaLExact17b
import Derived.Test.YtnjmplapjnnjdaaOpenOps
set_option linter.unusedSimpArgs false
set_option linter.unusedVariables false
set_option linter.unnecessarySimpa false
namespace Go.Proofs.Ytnjmplapjnnjdaa
open Go.RowKit

theorem BitsIn.owns {B c : Nat} {w : World} {a : Option Addr} {bs : List Nat} (h : BitsIn B w a c bs) : World.ownsX w B 5 1 (.slice a bs.length c) bs.length (u8s bs) := by
  obtain ⟨rfl, h⟩ := h
  refine ⟨by simp [u8s], ?_⟩
  rcases h with ⟨rfl, rfl⟩ | ⟨g, full, rfl, h1, h2, h3, h4, _⟩
  · exact .inl ⟨rfl, rfl⟩
  · have hlen : bs.length ≤ full.length := by have := congrArg List.length h3; rw [List.length_take] at this; omega
    refine .inr ⟨g, bs.length, _, rfl, h1, h2, Nat.le_refl _, by unfold maxLen; omega, by simp [u8s]; omega, ?_⟩
    rw [Nat.mul_one]
    show (u8s full).take bs.length = u8s bs
    unfold u8s
    rw [← List.map_take, h3]
theorem two_rows {B B2 c1 c2 : Nat} {w : World} {a1 a2 : Option Addr} {bs : List Nat} (h1 : BitsIn B w a1 c1 bs) (h2 : BitsIn B2 w a2 c2 bs) (hB : B ≤ B2) (hsep : ∀ k, (Value.slice a1 bs.length c1).ownBlock = some k → k < B2) (hl : bs.length ≤ 4096) :
    ApOkX w B 5 [.slice a1 bs.length c1, .slice a2 bs.length c2] mk8 0 0 ∧ ApSep [.slice a1 bs.length c1, .slice a2 bs.length c2] := by
  have o1 := h1.owns
  have o2 := h2.owns
  refine ⟨fun i v hv => ?_, fun i j v u k hij hv hu hk hk' => ?_⟩
  · match i, hv with
    | 0, hv =>
      obtain rfl := Option.some.inj hv
      exact ⟨_, _, _, _, rfl, hl, o1, fun j _ h => by omega⟩
    | 1, hv =>
      obtain rfl := Option.some.inj hv
      exact ⟨_, _, _, _, rfl, hl, (h2.base hB).owns, fun j _ h => by omega⟩
    | n + 2, hv => simp at hv
  · match i, j, hv, hu with
    | 0, 0, _, _ => exact hij rfl
    | 1, 1, _, _ => exact hij rfl
    | 0, 1, hv, hu =>
      obtain rfl := Option.some.inj hv
      obtain rfl := Option.some.inj hu
      have := hsep k hk
      have := (World.ownsX.lt o2 k hk').1
      omega
    | 1, 0, hv, hu =>
      obtain rfl := Option.some.inj hv
      obtain rfl := Option.some.inj hu
      have := hsep k hk'
      have := (World.ownsX.lt o2 k hk).1
      omega
    | n + 2, _, hv, _ => simp at hv
    | 0, n + 2, _, hu => simp at hu
    | 1, n + 2, _, hu => simp at hu
theorem two_list {w : World} {v1 v2 : Value} {g : Nat} (hb : Box w g #[v1, v2]) (h1 : v1.ownBlock ≠ some g) (h2 : v2.ownBlock ≠ some g) : ApList w (some ⟨g, 0, none⟩) [v1, v2] := fun i v hv => by
  refine ⟨g, 0, rfl, ?_, fun j u hu => ?_⟩
  · rw [Nat.zero_add, hb.cell, List.getElem?_toArray]
    exact hv
  · match j, hu with
    | 0, hu => obtain rfl := Option.some.inj hu; exact h1
    | 1, hu => obtain rfl := Option.some.inj hu; exact h2
    | n + 2, hu => simp at hu
theorem two_H {v1 v2 : Value} {k : Nat} (h : ApH [v1, v2] k) : v1.ownBlock = some k ∨ v2.ownBlock = some k := by
  obtain ⟨i, v, hv, hk⟩ := h
  match i, hv with
  | 0, hv => obtain rfl := Option.some.inj hv; exact .inl hk
  | 1, hv => obtain rfl := Option.some.inj hv; exact .inr hk
  | n + 2, hv => simp at hv
theorem slice_two (a1 a2 : Option Addr) (n1 n2 c1 c2 : Nat) (w : World) : (Instr.buildSlice 104 2 #[(0, .slice a1 n1 c1), (1, .slice a2 n2 c2)]).run Try.prog w = .ok (.slice (some ⟨w.heap.size, 0, none⟩) 2 2) (w.alloc (.cells #[.slice a1 n1 c1, .slice a2 n2 c2] 30)) := by
  go_simp
theorem field_bits (x0 x1 : Bool) (a : Option Addr) (n c : Nat) (y0 y1 y2 y3 : Int) (w : World) : (Instr.field 35 (.agg #[.bool x0, .bool x1, .slice a n c, .int .i64 y0, .int .i64 y1, .int .i64 y2, .int .i64 y3]) 2).run Try.prog w = .ok (.slice a n c) w := by
  first | kernel_rfl | rfl | (unfold Instr.field; go_simp)
theorem Pb.bres_len {p : Pb} (h : probChk p = 0) {D : Int} {s : Bq} : (p.bres D s).bits.length ≤ 1024 := by
  unfold Pb.bres
  obtain ⟨_, l1, l2, _⟩ := probChk_ok h
  split
  · exact Nat.zero_le _
  · show (List.take _ _).length ≤ 1024
    rw [List.length_take]
    omega
set_option maxRecDepth 5000 in
set_option maxHeartbeats 1000000 in
theorem law17_Own (p : Pb) (a : Option Addr) (ca : Nat) (hp : p.Ok) (hcap : p.B.length ≤ ca) (D : Int) (D0 : -9223372036854775808 ≤ D) (D1 : D ≤ 9223372036854775807) (w : World) (hw : Bytes w a p.B) :
    Pure Try.prog 4 #[.agg (p.cells (.slice a p.B.length ca)), .int .i64 D] w (.bool true) := by
  go_enter Try.func4, Try.ntmps4
  go_upto_region 1 with fail
  refine name1 ?_
  intro w0 bp B0
  have hw0 := hw.kept B0
  obtain ⟨fk, fr, flev, fl, fwin, fcode, ftable, fall⟩ := bp.prob hp
  clear fk fr flev fl fwin fcode ftable
  go_wp2_with ((with_reducible apply ld); rfl; (with_reducible assumption); (simp only [List.set_cons_zero, List.set_cons_succ]; rfl))
  refine (se_New p a ca 300 D hp _ hw0).mono ?_
  rintro e w1 ⟨hN, B1⟩
  have B10 := bOn B0 B1
  clear fall bp
  by_cases hz : newE p 300 D = 0
  · rw [if_pos hz] at hN
    obtain ⟨bk, m, ids, A, Wy, rfl, hSe, hwk, hge⟩ := hN
    obtain ⟨hc, c1, c2, d1, d2, _⟩ := newE_zero hz
    have hge : ∀ k, A.has k ∨ Wy k → w.heap.size ≤ k := fun k hk => Nat.le_trans B0.size (hge k hk)
    clear hz
    go_wp2_with fail
    refine (law17_num 0 _).mono ?_
    rintro e w2 ⟨rfl, B2⟩
    go_wp2_with fail
    refine (law17_knows _).mono ?_
    rintro e w3 ⟨rfl, B3⟩
    have hSe3 := (hSe.kept B2).kept B3
    have B30 := bOn (bOn B10 B2) B3
    have hs0 : (Bq.start D 300).Ok p D 300 := Bq.Ok.start (by omega)
    have hwk0 : m.work = (Bq.start D 300).work := hwk.trans (Bq.put_facts (D := D) (most := 300) (by omega) (s := ⟨[], 0, 0, 0, false, none⟩) (Nat.zero_le _) ent0).2.2.2.2.symm
    have hwr : wrap64 (Bq.start D 300).work = (Bq.start D 300).work := by rw [← hwk0, hwk]; unfold wrap64; omega
    have hrun := se_Run hp hc (by omega : 1 ≤ 300) hs0 (hSe3 : Se w3 p D 300 (Bq.start D 300) bk m ids A Wy) hwk0 hwr (n := 2000) (by omega) (by omega)
    have hok : (p.brun D 300 (2000 : Int).toNat (Bq.start D 300)).Ok p D 300 := hs0.run hc (by omega) _
    clear hSe c1 c2 B2 B3
    go_wp2_with fail
    refine hrun.mono ?_
    rintro e w4 ⟨b4, m4, ids4, A4, Wy4, rfl, hSe4, N4, W4, hwk4⟩
    have hge4 : ∀ k, A4.has k ∨ Wy4 k → w.heap.size ≤ k := fun k hk => by
      have hb := B30.size
      rcases hk with (hk | hk) | hk
      · rcases N4.2.1 k hk with h | h
        · exact hge k (.inl (.inl h))
        · omega
      · refine hge k (.inl (.inr ?_))
        obtain ⟨⟨_, _, q1, q2, q3, q4, _, _⟩, _⟩ := N4
        rw [← q1, ← q2, ← q3, ← q4]
        exact hk
      · rcases W4 k hk with h | h
        · exact hge k (.inr h)
        · omega
    have B40 : Below w.heap.size w w4 := B30.trans (N4.2.2.below' B30.size fun k _ hk => hge k (.inl (.inl hk)))
    obtain ⟨sk, hsk⟩ : ∃ sk, sk = p.brun D 300 (2000 : Int).toNat (Bq.start D 300) := ⟨_, rfl⟩
    rw [← hsk] at hok hSe4 hwk4
    have hf : (p.brun D 300 (2000 : Int).toNat (Bq.start D 300)).found = sk.found := by rw [hsk]
    rw [hf]
    have hsb : A4.sb = A.sb := N4.1.1
    have hr1 := se_Result hc hok hSe4 hwk4
    have hbl := Pb.bres_len hc (D := D) (s := sk)
    obtain ⟨r, hr⟩ : ∃ r, r = p.bres D sk := ⟨_, rfl⟩
    rw [← hr, hsb] at hr1
    rw [← hr] at hbl
    have HR := Lib.hid hr
    clear hrun hf hwk hwk0 hwr hSe3 hsk hr hge N4 W4 hs0
    go_wp2_with fail
    refine hr1.mono ?_
    rintro e w5 ⟨⟨a5, e5, rfl, hO5⟩, B5⟩
    have B50 := bOn B40 B5
    have hSe5 := hSe4.kept B5
    obtain ⟨R, hR⟩ : ∃ R, R = r.cells (.slice a5 r.bits.length e5) := ⟨_, rfl⟩
    have hRs : R.size = 7 := by rw [hR]; rfl
    have hfl : Flat R := by rw [hR]; exact flatR
    rw [← hR]
    have HRS := Lib.hid hRs
    have HRR := Lib.hid hR
    have bn := Box.new w5 #[.bool false, .bool false, .slice none 0 0, .int .i64 0, .int .i64 0, .int .i64 0, .int .i64 0] 35
    clear hRs hR hr1
    go_upto_region 6 with (first | ((with_reducible apply ld); rfl; (with_reducible assumption); (simp only [List.set_cons_zero, List.set_cons_succ]; rfl)) | ((with_reducible apply stO); rfl; rfl; exact bn; rfl; exact HRS.out; exact hfl; intro w6 x6 B6 ho6 hs6))
    have B65 : Below w5.heap.size w5 w6 := ((Below.refl _ w5).alloc (Nat.le_refl _) _).trans B6
    have B60 := bOn B50 B65
    have hSe6 := hSe5.kept B65
    have hO6 := hO5.kept (w' := w6) fun k hk hl => B65.block k hl
    obtain ⟨ra, hra⟩ : ∃ ra, ra = w5.heap.size := ⟨_, rfl⟩
    have hra1 : w4.heap.size ≤ ra := by rw [hra]; exact B5.size
    rw [← hra] at x6 ⊢
    have hral : ra < w6.heap.size := x6.lt
    have hsep5 : ∀ k, (Value.slice a5 r.bits.length e5).ownBlock = some k → w4.heap.size ≤ k ∧ k < ra := fun k hk => by
      have := World.ownsX.lt hO5.owns k hk
      omega
    have hr2 := se_Result hc hok hSe6 hwk4
    rw [← HR.out, hsb] at hr2
    clear bn ho6 hs6 B6 hfl HRS hO5 hra hSe5 B65
    go_wp2_with fail
    refine hr2.mono ?_
    rintro e w7 ⟨⟨a7, e7, rfl, hO7⟩, B7⟩
    have B70 := bOn B60 B7
    have hSe7 := hSe6.kept B7
    have x7 := x6.kept B7
    have hO57 := hO6.kept (w' := w7) fun k hk hl => B7.block k hl
    obtain ⟨R2, hR2⟩ : ∃ R, R = r.cells (.slice a7 r.bits.length e7) := ⟨_, rfl⟩
    have hRs : R2.size = 7 := by rw [hR2]; rfl
    have hfl : Flat R2 := by rw [hR2]; exact flatR
    rw [← hR2]
    have HRS := Lib.hid hRs
    have HRR2 := Lib.hid hR2
    have bn := Box.new w7 #[.bool false, .bool false, .slice none 0 0, .int .i64 0, .int .i64 0, .int .i64 0, .int .i64 0] 35
    clear hRs hR2 hr2 hO6 x6 hSe6
    go_upto_region 7 with (first | ((with_reducible apply ld); rfl; (with_reducible assumption); (simp only [List.set_cons_zero, List.set_cons_succ]; rfl)) | ((with_reducible apply stO); rfl; rfl; exact bn; rfl; exact HRS.out; exact hfl; intro w8 y8 B8 ho8 hs8))
    have B87 : Below w7.heap.size w7 w8 := ((Below.refl _ w7).alloc (Nat.le_refl _) _).trans B8
    have B80 := bOn B70 B87
    have hSe8 := hSe7.kept B87
    have x8 := x7.kept B87
    have hO58 := hO57.kept (w' := w8) fun k hk hl => B87.block k hl
    have hO78 := hO7.kept (w' := w8) fun k hk hl => B87.block k hl
    obtain ⟨rb, hrb⟩ : ∃ rb, rb = w7.heap.size := ⟨_, rfl⟩
    have hrb1 : w6.heap.size ≤ rb := by rw [hrb]; exact B7.size
    rw [← hrb] at y8 ⊢
    have hrbl : rb < w8.heap.size := y8.lt
    have hsep7 : ∀ k, (Value.slice a7 r.bits.length e7).ownBlock = some k → w6.heap.size ≤ k ∧ k < rb := fun k hk => by
      have := World.ownsX.lt hO7.owns k hk
      omega
    clear bn ho8 hs8 B8 hfl HRS hO7 hO57 x7 hSe7 B87 hrb
    have gx := x8.load (off := 0) (n := 7) (cs' := R) (by rw [HRR.out]; exact Nat.le_refl _) (Array.extract_eq_self_of_le (by rw [HRR.out]; exact Nat.le_refl _))
    have gy := y8.load (off := 0) (n := 7) (cs' := R2) (by rw [HRR2.out]; exact Nat.le_refl _) (Array.extract_eq_self_of_le (by rw [HRR2.out]; exact Nat.le_refl _))
    have hsame := law01_SameResults r a5 a7 e5 e7 w8 hO58.bytes hO78.bytes
    rw [← HRR.out, ← HRR2.out] at hsame
    go_wp2_with ((with_reducible apply ld); rfl; (with_reducible assumption); (simp only [List.set_cons_zero, List.set_cons_succ]; rfl))
    refine hsame.mono ?_
    rintro e w9 ⟨rfl, B9⟩
    have B90 := bOn B80 B9
    have hSe9 := hSe8.kept B9
    have x9 := x8.kept B9
    have y9 := y8.kept B9
    have hO59 := hO58.kept (w' := w9) fun k hk hl => B9.block k hl
    have hO79 := hO78.kept (w' := w9) fun k hk hl => B9.block k hl
    have hsz9 := B9.size
    rw [HRR.out] at x9
    rw [HRR2.out] at y9
    have k2 : w9.cell? ⟨ra, 2, none⟩ = some (.slice a5 r.bits.length e5) := x9.cell 2
    have l2 : w9.cell? ⟨rb, 2, none⟩ = some (.slice a7 r.bits.length e7) := y9.cell 2
    have v1 := run_conv (P := Try.prog) (src := 30) (dst := 9) (cap := e5) hO59.bytes rfl
    have sl := slice_two a5 a7 r.bits.length r.bits.length e5 e7 w9
    clear gx gy hsame hO58 hO78 x8 y8 hSe8 B9
    go_upto_region 10 with fail
    clear v1
    have hsz4 := B40.size
    have hsz5 := B5.size
    have hlt4 : ∀ k, A4.has k ∨ Wy4 k → k < w4.heap.size := fun k hk => hk.elim hSe4.sr.hasLt fun hk => (hSe4.wy k hk).2
    have hHk : ∀ k, ApH [.slice a5 r.bits.length e5, .slice a7 r.bits.length e7] k → w4.heap.size ≤ k := fun k hk => by
      rcases two_H hk with h | h
      · exact (hsep5 k h).1
      · have := (hsep7 k h).1
        omega
    have hap : ∃ V, V = w9.alloc (.cells #[.slice a5 r.bits.length e5, .slice a7 r.bits.length e7] 30) ∧ Calls Try.prog 21 #[.slice (some ⟨w9.heap.size, 0, none⟩) 2 2] V (ApAns [.slice a5 r.bits.length e5, .slice a7 r.bits.length e7] V) ∧ Below w9.heap.size w9 V := by
      have hbb := Box.new w9 #[.slice a5 r.bits.length e5, .slice a7 r.bits.length e7] 30
      have BV : Below w9.heap.size w9 (w9.alloc (.cells #[.slice a5 r.bits.length e5, .slice a7 r.bits.length e7] 30)) := (Below.refl _ _).alloc (Nat.le_refl _) _
      have hv1 := hO59.kept (w' := w9.alloc (.cells #[.slice a5 r.bits.length e5, .slice a7 r.bits.length e7] 30)) fun k hk hl => BV.block k hl
      have hv2 := hO79.kept (w' := w9.alloc (.cells #[.slice a5 r.bits.length e5, .slice a7 r.bits.length e7] 30)) fun k hk hl => BV.block k hl
      obtain ⟨q1, q2⟩ := two_rows hv1 hv2 (by omega) (fun k hk => by have := (hsep5 k hk).2; omega) (by omega)
      refine ⟨_, rfl, law01_ApartBytesX [.slice a5 r.bits.length e5, .slice a7 r.bits.length e7] _ 2 w4.heap.size _ (by show ((2 : Nat) : Int) ≤ 9223372036854775807; decide) (two_list hbb (fun hk => ?_) (fun hk => ?_)) q1 q2 (by have := BV.size; omega), BV⟩
      · have := (hsep5 _ hk).2; omega
      · have := (hsep7 _ hk).2; omega
    obtain ⟨V, hV, hap, BV⟩ := hap
    have hSeV := hSe9.kept BV
    have B9V := bOn B90 BV
    rw [hV] at hap
    clear hO59 hO79 x9 y9 hSe9 B90
    go_wp2_with fail
    refine hap.mono ?_
    rintro e w10 ⟨rfl, T⟩
    rw [← hV] at T
    have hSe10 := hSeV.turn T fun k hk hH => by have := hlt4 k hk; have := hHk k hH; omega
    have B100 : Below w.heap.size w w10 := B9V.trans (T.below' B9V.size fun k _ hk => by have := hHk k hk; omega)
    have hr3 := se_Result hc hok hSe10 hwk4
    rw [← HR.out, hsb] at hr3
    clear hV hap BV hSeV T sl k2 l2
    go_wp2_with fail
    refine hr3.mono ?_
    rintro e w11 ⟨⟨a11, e11, rfl, hO11⟩, B11⟩
    have v3 := run_conv (P := Try.prog) (src := 30) (dst := 9) (cap := e11) hO11.bytes rfl
    have B110 := bOn B100 B11
    clear hr3
    simp only [Rs.cells]
    have hfd := field_bits r.dec r.exact_ a11 r.bits.length e11 r.m r.dip r.work r.drops w11
    go_wp2
    go_ret
    exact ⟨rfl, B110⟩
  · rw [if_neg hz] at hN
    subst hN
    have hz2 : (newE p 300 D != 0) = true := by simp [hz]
    go_wp2_with fail
    refine (law17_num _ _).mono ?_
    rintro e w2 ⟨rfl, B2⟩
    go_wp2_with fail
    refine (law17_knows _).mono ?_
    rintro e w3 ⟨rfl, B3⟩
    go_wp2
    go_ret
    exact ⟨rfl, bOn (bOn B10 B2) B3⟩
end Go.Proofs.Ytnjmplapjnnjdaa
