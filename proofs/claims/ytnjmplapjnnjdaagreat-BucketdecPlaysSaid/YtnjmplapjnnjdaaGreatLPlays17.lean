/- outpostlaw17.BucketdecPlays: every answer of a search, whatever Runs there are. -/
import Derived.Test.YtnjmplapjnnjdaaGreatDuo17
import Derived.Test.YtnjmplapjnnjdaaGreatLFloors
set_option linter.unusedSimpArgs false
set_option linter.unusedVariables false
set_option linter.unnecessarySimpa false
namespace Go.Proofs.YtnjmplapjnnjdaaGreat
open Go.RowKit
set_option linter.unusedSimpArgs false
set_option linter.unusedVariables false

theorem Ops.atP {w : World} {a : Option Addr} {l : List (Int × Int)} (h : Ops w a l) {k : Nat} (hk : k < l.length) : ∃ b o x y, a = some ⟨b, o, none⟩ ∧ loadAgg w b (o + k * 2) 2 = .ok (.agg #[.int .i64 x, .int .i64 y]) w := by
  obtain ⟨b, o, h1, h2⟩ := h k hk
  exact ⟨b, o, _, _, h1, h2⟩
theorem DuoM.form {w : World} {p : Pb} {D : Int} {most : Nat} {sv dv : Value} {H : Nat → Prop} (h : DuoM w p D most sv dv H) : (sv = .pointer none ∧ dv = .pointer none) ∨ ∃ x y, sv = .pointer (some ⟨x, 0, none⟩) ∧ dv = .pointer (some ⟨y, 0, none⟩) := by
  rcases h with ⟨h1, h2, _⟩ | ⟨_, _, _, _, s, sa, sb, F, G, h1, h2, _⟩
  · exact .inl ⟨h1, h2⟩
  · exact .inr ⟨sa, sb, h1, h2⟩
theorem duo_next {H H' : Nat → Prop} {U : Nat} {w w' : World} (hH : ∀ k, H k → U ≤ k) (hU : U ≤ w.heap.size) (G : Grows H H' w w') : (∀ k, H' k → U ≤ k) ∧ Below U w w' ∧ U ≤ w'.heap.size :=
  ⟨fun k hk => (G.2 k hk).elim (hH k) fun h => by omega, G.1.below fun k hk => ⟨by omega, fun hx => by have := hH k hx; omega⟩, Nat.le_trans hU G.1.size⟩
theorem Row8.under {w w' : World} {g n U : Nat} (h : Row8 w g n) (hB : Below U w w') (hg : g < U) : Row8 w' g n := by
  obtain ⟨cs, hb, hc⟩ := h
  exact ⟨cs, hb.below hB hg, hc⟩
theorem But.turn {b : Nat} {w w' : World} (h : But b w w') : Turn (fun k => k = b) w w' := ⟨h.os, h.tape, h.output, h.size, fun k hk hn => h.block k hk hn⟩
/-- Both searches beside what the law keeps. -/
def PlI (p : Pb) (D : Int) (most U : Nat) (w : World) (sv dv : Value) (wr : World) : Prop :=
  ∃ H, DuoM wr p D most sv dv H ∧ (∀ k, H k → U ≤ k) ∧ U ≤ wr.heap.size ∧ Below w.heap.size w wr
theorem PlI.asks {p : Pb} (hp : p.Ok) {D : Int} {most U : Nat} {w wr : World} {sv dv : Value} (hU : w.heap.size ≤ U) (h : PlI p D most U w sv dv wr) (k n : Int) :
    Calls Tryz.prog 11 #[sv, dv, .agg #[.int .i64 k, .int .i64 n]] wr (fun e w' => e = .returned (.bool true) ∧ PlI p D most U w sv dv w') := by
  obtain ⟨H, h1, h2, h3, B⟩ := h
  refine (h1.asks hp k n).mono ?_
  rintro e w' ⟨rfl, H', h5, h6⟩
  obtain ⟨a1, a2, a3⟩ := duo_next h2 h3 h6
  exact ⟨rfl, H', h5, a1, a3, B.trans (a2.mono hU)⟩
set_option maxRecDepth 5000 in
set_option maxHeartbeats 1000000 in
theorem law17_Plays (p : Pb) (a : Option Addr) (ca : Nat) (hp : p.Ok) (hB : p.B.length ≤ 140737488351232) (cap : Int) (c0 : -9223372036854775808 ≤ cap) (c1 : cap ≤ 9223372036854775807) (D : Int) (D0 : -9223372036854775808 ≤ D) (D1 : D ≤ 9223372036854775807)
    (l : List (Int × Int)) (al : Option Addr) (nl : Nat) (hl63 : (l.length : Int) ≤ 9223372036854775807) (w : World) (hw : Bytes w a p.B) (hl : Ops w al l) :
    Pure Tryz.prog 3 #[.agg (p.cells (.slice a p.B.length ca)), .int .i64 cap, .int .i64 D, .slice al l.length nl] w (.bool true) := by
  obtain ⟨E, hE⟩ : ∃ E, E = newE p cap D := ⟨_, rfl⟩
  have HE := Lib.hid hE
  clear hE
  go_enter Tryz.func3, Tryz.ntmps3
  go_upto_region 1 with fail
  refine name1 ?_
  intro w0 bp B0
  have hw0 := hw.kept B0
  obtain ⟨fk, fr, flev, fl, fwin, fcode, ftable, fall⟩ := bp.prob hp
  clear fk fr flev fl fwin fcode ftable
  go_wp2_with ((with_reducible apply ld); rfl; (with_reducible assumption); (simp only [List.set_cons_zero, List.set_cons_succ]; rfl))
  refine (law01_Problem p a ca hp hB _ hw0).mono ?_
  rintro e w1 ⟨v, rfl, hv, B1⟩
  obtain ⟨g', c', hv', hrow, hgB⟩ := hv.row
  obtain ⟨g, c, rfl, hc, hgb, _, _⟩ := hv.open hp.b
  obtain ⟨rfl, rfl⟩ : g = g' ∧ c = c' := by simpa using hv'
  have hb5 := Box.new w1 zero32 32
  have hf := hp.flat (v := .slice (some ⟨g, 0, none⟩) p.B.length c) ⟨fun _ h => (by cases h), fun _ h => (by cases h)⟩
  have hs40 := hp.size (.slice (some ⟨g, 0, none⟩) p.B.length c)
  clear fall hv' hv
  go_upto_region 2 with (first | ((with_reducible apply stO); rfl; rfl; exact hb5; rfl; exact hs40; exact hf; intro w2 b5 B2 ho2 hs2))
  have B21 : Below w1.heap.size w1 w2 := ((Below.refl _ w1).alloc (Nat.le_refl _) _).trans B2
  have B20 := bOn (bOn B0 B1) B21
  have hg2 := hgb.kept B21
  have hrow2 := hrow.kept B21
  have bp2 := (bp.kept B1).kept B21
  have hw2 := hw.kept B20
  have hgl : g < w2.heap.size := by
    obtain ⟨cs, hb, _⟩ := hrow2
    exact hb.lt
  have hgw : w.heap.size ≤ g := Nat.le_trans B0.size hgB
  have hbl : w1.heap.size < w2.heap.size := b5.lt
  have hgn : g ≠ w1.heap.size := by
    obtain ⟨cs, hb, _⟩ := hrow
    have := hb.lt
    omega
  clear ho2 hs2 hb5 B2 hgb hf hs40 hrow bp hw0 B0 B1 B21 hgB
  have n1' := half_New p (some ⟨g, 0, none⟩) c cap D hp w2 hg2
  rw [← HE.out] at n1'
  obtain ⟨_, _, _, _, _, _, _, gp⟩ := b5.prob hp
  go_wp2_with ((with_reducible apply ld); rfl; (with_reducible assumption); (simp only [List.set_cons_zero, List.set_cons_succ]; rfl))
  refine n1'.mono ?_
  rintro e w3 ⟨sv, rfl, hP, B3⟩
  have n2' := duo_New p a ca cap D hp w3 (hw2.kept B3) hP (Nat.le_refl _) B3.size
  rw [← HE.out] at n2'
  have bp3 := bp2.kept B3
  obtain ⟨_, _, _, _, _, _, _, gq⟩ := bp3.prob hp
  clear n1' gp
  go_wp2_with ((with_reducible apply ld); rfl; (with_reducible assumption); (simp only [List.set_cons_zero, List.set_cons_succ]; rfl))
  refine n2'.mono ?_
  rintro e w4 ⟨dv, rfl, ⟨H, hH, hHb⟩, B4⟩
  have hHg : ∀ k, H k → w2.heap.size ≤ k := fun k hk => (hHb k hk).1
  have B42 := bOn B3 B4
  have b54 := b5.kept B42
  have hrow4 := hrow2.kept B42
  have hl4 := hl.kept (bOn B20 B42)
  have B40 := bOn B20 B42
  have hsz : w2.heap.size ≤ w4.heap.size := B42.size
  clear n2' gq bp3 bp2 b5 hrow2 hg2 hP hHb B3 B4 B42 hw2
  have HHG := Lib.hid hHg
  clear hHg
  have hfm := hH.form
  rcases hfm with ⟨rfl, rfl⟩ | ⟨sx, sy, rfl, rfl⟩
  · go_wp2_with fail
    refine (law17_num E w4).mono ?_
    rintro e w5 ⟨rfl, B5⟩
    have r1 := (hH.kept B5).looks hp
    go_wp2_with fail
    refine r1.mono ?_
    rintro e w6 ⟨rfl, H6, hH6, G6⟩
    obtain ⟨hG6, B46, hU6⟩ := duo_next (fun k hk => HHG.out k hk) (Nat.le_trans hsz B5.size) G6
    clear r1 hH G6
    go_wp2_with fail
    refine (law17_knows w6).mono ?_
    rintro e w7 ⟨rfl, B7⟩
    have hD7 := hH6.kept B7
    have b57 := ((b54.kept B5).below B46 hbl).kept B7
    have r57 := ((hrow4.kept B5).under B46 hgl).kept B7
    have c39 : w7.cell? ⟨w1.heap.size, 39, none⟩ = some (.slice (some ⟨g, 0, none⟩) p.B.length c) := (b57.cell 39).trans (hp.cell39 _)
    have r2 := law01_Spoil g p.B.length c (by have := hp.b; omega) w7 r57
    have B70 : Below w.heap.size w w7 := bOn ((bOn B40 B5).trans (B46.mono (by have := B40.size; have := hsz; omega))) B7
    have hU7 : w2.heap.size ≤ w7.heap.size := Nat.le_trans hU6 B7.size
    clear hH6 b54 hrow4 r57 B5 B46 B7 hU6
    go_wp2_with fail
    refine r2.mono ?_
    rintro e w8 ⟨rfl, S8⟩
    have hT : PlI p D cap.toNat w2.heap.size w (.pointer none) (.pointer none) w8 :=
      ⟨_, hD7.turn S8.turn (fun k hk hx => by have := hG6 k hk; omega), hG6, Nat.le_trans hU7 S8.size, B70.trans (S8.below w.heap.size hgw B70.size)⟩
    have hUU : w.heap.size ≤ w2.heap.size := by omega
    clear r2 hD7 B70 hU7 S8 c39 b57 hG6
    go_wp2_with fail
    go_loopw [14] (fun i wr => ∃ k : Nat, k ≤ l.length ∧ i = .int .i64 k ∧ PlI p D cap.toNat w2.heap.size w (.pointer none) (.pointer none) wr) (fun i _ => l.length - (intOf i).toNat)
    case atStart => exact ⟨0, Nat.zero_le _, rfl, hT⟩
    case round =>
      clear hT
      obtain ⟨k, hk, rfl, hT⟩ := hrel
      have hAll := hT
      obtain ⟨_, _, _, _, BR⟩ := hAll
      by_cases k1 : k < l.length
      · obtain ⟨x1, x2⟩ := ap_lt k1
        obtain ⟨b1, o1, y1, y2, rfl, g1⟩ := (hl.kept BR).atP k1
        have r1 := hT.asks hp hUU y1 y2
        have hb := ap_bd k1 hl63
        clear BR
        go_wp2_with ((with_reducible apply ldG17); rfl; rfl; (with_reducible assumption); (simp only [List.set_cons_zero, List.set_cons_succ]; rfl))
        refine r1.mono ?_
        rintro e w9 ⟨rfl, hT9⟩
        clear r1 g1 hT
        go_wp2_with fail
        go_roundw
        case measure => simp only [intOf]; omega
        case rel => exact ⟨k + 1, by omega, (by first | rfl | exact congrArg (Value.int .i64) (ap_succ hb)), hT9⟩
      · have x1 : decide ((k : Int) < (l.length : Int)) = false := by simp; omega
        have x2 : ¬ (k : Int) < (l.length : Int) := by omega
        go_wp2
        go_ret
        exact ⟨rfl, BR⟩
  · go_wp2_with fail
    refine (law17_num E w4).mono ?_
    rintro e w5 ⟨rfl, B5⟩
    have r1 := (hH.kept B5).looks hp
    go_wp2_with fail
    refine r1.mono ?_
    rintro e w6 ⟨rfl, H6, hH6, G6⟩
    obtain ⟨hG6, B46, hU6⟩ := duo_next (fun k hk => HHG.out k hk) (Nat.le_trans hsz B5.size) G6
    clear r1 hH G6
    go_wp2_with fail
    refine (law17_knows w6).mono ?_
    rintro e w7 ⟨rfl, B7⟩
    have hD7 := hH6.kept B7
    have b57 := ((b54.kept B5).below B46 hbl).kept B7
    have r57 := ((hrow4.kept B5).under B46 hgl).kept B7
    have c39 : w7.cell? ⟨w1.heap.size, 39, none⟩ = some (.slice (some ⟨g, 0, none⟩) p.B.length c) := (b57.cell 39).trans (hp.cell39 _)
    have r2 := law01_Spoil g p.B.length c (by have := hp.b; omega) w7 r57
    have B70 : Below w.heap.size w w7 := bOn ((bOn B40 B5).trans (B46.mono (by have := B40.size; have := hsz; omega))) B7
    have hU7 : w2.heap.size ≤ w7.heap.size := Nat.le_trans hU6 B7.size
    clear hH6 b54 hrow4 r57 B5 B46 B7 hU6
    go_wp2_with fail
    refine r2.mono ?_
    rintro e w8 ⟨rfl, S8⟩
    have hT : PlI p D cap.toNat w2.heap.size w (.pointer (some ⟨sx, 0, none⟩)) (.pointer (some ⟨sy, 0, none⟩)) w8 :=
      ⟨_, hD7.turn S8.turn (fun k hk hx => by have := hG6 k hk; omega), hG6, Nat.le_trans hU7 S8.size, B70.trans (S8.below w.heap.size hgw B70.size)⟩
    have hUU : w.heap.size ≤ w2.heap.size := by omega
    clear r2 hD7 B70 hU7 S8 c39 b57 hG6
    go_wp2_with fail
    go_loopw [14] (fun i wr => ∃ k : Nat, k ≤ l.length ∧ i = .int .i64 k ∧ PlI p D cap.toNat w2.heap.size w (.pointer (some ⟨sx, 0, none⟩)) (.pointer (some ⟨sy, 0, none⟩)) wr) (fun i _ => l.length - (intOf i).toNat)
    case atStart => exact ⟨0, Nat.zero_le _, rfl, hT⟩
    case round =>
      clear hT
      obtain ⟨k, hk, rfl, hT⟩ := hrel
      have hAll := hT
      obtain ⟨_, _, _, _, BR⟩ := hAll
      by_cases k1 : k < l.length
      · obtain ⟨x1, x2⟩ := ap_lt k1
        obtain ⟨b1, o1, y1, y2, rfl, g1⟩ := (hl.kept BR).atP k1
        have r1 := hT.asks hp hUU y1 y2
        have hb := ap_bd k1 hl63
        clear BR
        go_wp2_with ((with_reducible apply ldG17); rfl; rfl; (with_reducible assumption); (simp only [List.set_cons_zero, List.set_cons_succ]; rfl))
        refine r1.mono ?_
        rintro e w9 ⟨rfl, hT9⟩
        clear r1 g1 hT
        go_wp2_with fail
        go_roundw
        case measure => simp only [intOf]; omega
        case rel => exact ⟨k + 1, by omega, (by first | rfl | exact congrArg (Value.int .i64) (ap_succ hb)), hT9⟩
      · have x1 : decide ((k : Int) < (l.length : Int)) = false := by simp; omega
        have x2 : ¬ (k : Int) < (l.length : Int) := by omega
        go_wp2
        go_ret
        exact ⟨rfl, BR⟩
end Go.Proofs.YtnjmplapjnnjdaaGreat
