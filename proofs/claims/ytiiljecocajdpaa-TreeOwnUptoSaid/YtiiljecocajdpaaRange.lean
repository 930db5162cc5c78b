/- The walk of the least and the greatest metric of a table: the program's. -/
import Derived.Test.YtiiljecocajdpaaBranch
namespace Go.Proofs.Ytiiljecocajdpaa
open Go.RowKit

/-- THE ARM for a slice of the first n elements of an array in a variable. -/
theorem slArr {P : Program} {ops : Array Oper} {rest : List Oper} {l l' : List Value} {ds : List Deferred} {w : World} {Q : Exit → Act → World → Prop} {t e len d b n : Nat} {x y : Operand} {k : IntKind} {ty : TypeId} {ps : String} {af : Array Edge}
    (hu : P.underlying t = some (.array len e)) (T : CellTy P e) (hx : (Act.mk l.toArray ds).eval x = .pointer (some ⟨b, 0, none⟩)) (hy : (Act.mk l.toArray ds).eval y = .int k (n : Int)) (hi : n ≤ len) (hs : l.set d (.slice (some ⟨b, 0, none⟩) n len) = l')
    (h : wpList P ops Q rest ⟨l'.toArray, ds⟩ w) : wpList P ops Q (⟨some d, .slice t x none (some y) none, ty, ps, af, none⟩ :: rest) ⟨l.toArray, ds⟩ w := by
  refine wpList_plain rfl fun K hK => ?_
  unfold Oper.wp execOp
  have hr : (Instr.sliceAt t (.pointer (some ⟨b, 0, none⟩)) none (some (.int k (n : Int))) none).run P w = .ok (.slice (some ⟨b, 0, none⟩) n len) w := by
    have hi' : (n : Int) ≤ len := by omega
    have hi2 : ¬ len < n := by omega
    simp [Instr.sliceAt, Sem.run_bind, run_underlying hu, Instr.sureAddr, Instr.sliceBounds, Instr.sliceBound, asIntOf, Sem.run_pure, hi', hi2, hi, run_sizeCell T, Addr.add]
  simp only [hx, hy, Option.map_none, Option.map_some, Sem.run_bind, hr, Result.andThen_ok, Sem.run_pure]
  rw [Oper.upon_value, put_list, hs]
  exact hK _ _ h

theorem results_tmp3 {P : Program} {fn : Func} {t0 t1 t2 : Nat} {tmps : Array Value} {w : World} {v0 v1 v2 : Value} (h : fn.results = #[.tmp t0, .tmp t1, .tmp t2]) (h0 : tmps.getD t0 undef = v0) (h1 : tmps.getD t1 undef = v1) (h2 : tmps.getD t2 undef = v2) :
    (results fn tmps).run P w = .ok (.tuple #[v0, v1, v2]) w := by
  simp only [Array.getD_eq_getD_getElem?] at h0 h1 h2
  simp [results, h, h0, h1, h2]
theorem mul_bd {n m : Int} (n0 : 0 ≤ n) (n1 : n ≤ 1055) (m0 : -4096 ≤ m) (m1 : m ≤ 4096) : -4321280 ≤ n * m ∧ n * m ≤ 4321280 := by
  have h1 := Int.mul_le_mul_of_nonneg_left m1 n0
  have h2 := Int.mul_le_mul_of_nonneg_left m0 n0
  omega
def Tb.loRow (t : Tb) (k : Nat) (a : Int) : Nat → Int
  | 0 => a
  | r + 1 => min (t.loRow k a r) (t.m k r)
def Tb.hiRow (t : Tb) (k : Nat) (a : Int) : Nat → Int
  | 0 => a
  | r + 1 => max (t.hiRow k a r) (t.m k r)
/-- The least metric of the first k rows. -/
def Tb.loK (t : Tb) : Nat → Int
  | 0 => t.m 0 0
  | k + 1 => t.loRow k (t.loK k) t.lev.toNat
def Tb.hiK (t : Tb) : Nat → Int
  | 0 => t.m 0 0
  | k + 1 => t.hiRow k (t.hiK k) t.lev.toNat
def Tb.lo (t : Tb) : Int := t.loK 2
def Tb.hi (t : Tb) : Int := t.hiK 2
theorem Tb.loRow_bd (t : Tb) {k : Nat} {a : Int} (h : tabChk t = 0) (hk : k < 2) (a0 : -4096 ≤ a) (a1 : a ≤ 4096) : ∀ r, r ≤ 16 → -4096 ≤ t.loRow k a r ∧ t.loRow k a r ≤ 4096
  | 0, _ => ⟨a0, a1⟩
  | r + 1, hr => by
    have ih := t.loRow_bd h hk a0 a1 r (by omega)
    have := tabChk_m h hk (show r < 16 by omega)
    simp only [Tb.loRow]
    omega
theorem Tb.hiRow_bd (t : Tb) {k : Nat} {a : Int} (h : tabChk t = 0) (hk : k < 2) (a0 : -4096 ≤ a) (a1 : a ≤ 4096) : ∀ r, r ≤ 16 → -4096 ≤ t.hiRow k a r ∧ t.hiRow k a r ≤ 4096
  | 0, _ => ⟨a0, a1⟩
  | r + 1, hr => by
    have ih := t.hiRow_bd h hk a0 a1 r (by omega)
    have := tabChk_m h hk (show r < 16 by omega)
    simp only [Tb.hiRow]
    omega
theorem Tb.loK_bd (t : Tb) (h : tabChk t = 0) : ∀ k, k ≤ 2 → -4096 ≤ t.loK k ∧ t.loK k ≤ 4096
  | 0, _ => tabChk_m h (by omega) (by omega)
  | k + 1, hk => by
    have ih := t.loK_bd h k (by omega)
    have := (tabChk_ok h)
    exact t.loRow_bd h (by omega) ih.1 ih.2 _ (by omega)
theorem Tb.hiK_bd (t : Tb) (h : tabChk t = 0) : ∀ k, k ≤ 2 → -4096 ≤ t.hiK k ∧ t.hiK k ≤ 4096
  | 0, _ => tabChk_m h (by omega) (by omega)
  | k + 1, hk => by
    have ih := t.hiK_bd h k (by omega)
    have := (tabChk_ok h)
    exact t.hiRow_bd h (by omega) ih.1 ih.2 _ (by omega)

set_option maxRecDepth 5000 in
set_option maxHeartbeats 1000000 in
theorem metric_Range (t : Tb) (ht : t.Ok) (h0 : tabChk t = 0) (R : Int) (hR : R = 2 ∨ R = 3) (n : Int) (n0 : 0 ≤ n) (n1 : n ≤ 1055) (w : World) :
    Pure Try.prog 57 #[.agg t.cells, .int .i64 R, .int .i64 n] w (.tuple #[.int .i64 (R * n * t.lo), .int .i64 (R * n * t.hi), .int .i64 0]) := by
  obtain ⟨l1, l2⟩ := tabChk_ok h0
  obtain ⟨L, hL⟩ : ∃ L : Nat, t.lev = L := ⟨t.lev.toNat, by omega⟩
  have hLt : t.lev.toNat = L := by omega
  have HL := Lib.hid hL
  have HLt := Lib.hid hLt
  clear hLt
  go_enter Try.func57, Try.ntmps57
  go_upto_region 1 with (fail)
  refine name1 ?_
  intro w0 b3 B0
  obtain ⟨g0, gA, gM⟩ := b3.table ht
  go_wp2_with ((with_reducible apply ld); rfl; (with_reducible assumption); (simp only [List.set_cons_zero, List.set_cons_succ]; rfl))
  refine (metric_Check t ht _).mono ?_
  rintro e w1 ⟨rfl, B1⟩
  rw [h0]
  clear g0 gA gM
  have b31 := b3.kept B1
  have B10 := B0.trans (B1.mono B0.size)
  obtain ⟨g0, gA, gM⟩ := b31.table ht
  have g00 : w1.cell? ⟨w.heap.size, 1, none⟩ = some (.int .i64 (t.m 0 0)) := by rw [b31.cell, show 1 = 1 + 0 * 16 + 0 from rfl, ht.cellm (by omega) (by omega)]
  have hr1 : (((R != 2) && (R != 3)) || decide (n < 0) || decide (1055 < n)) = false := by rcases hR with h | h <;> simp [h] <;> omega
  have hr2 : (((R != 2) && (R != 3)) || decide (n < 0)) = false := by rcases hR with h | h <;> simp [h] <;> omega
  have hr3 : ((R != 2) && (R != 3)) = false := by rcases hR with h | h <;> simp [h]
  have hwr : ∀ m : Int, -4096 ≤ m → m ≤ 4096 → wrap64 (R * n * m) = R * n * m := by
    intro m m0 m1
    have := mul_bd n0 n1 m0 m1
    rw [Int.mul_assoc]
    rcases hR with h | h <;> rw [h] <;> unfold wrap64 <;> omega
  have HR := Lib.hid hR
  rcases hR with hR | hR
  all_goals
    subst hR
    go_wp2_with ((with_reducible apply ld); rfl; (with_reducible assumption); (simp only [List.set_cons_zero, List.set_cons_succ]; rfl))
    refine wp_region_kept (by kernel_rfl) (by kernel_rfl) ?_
    have q0 := KeptW.cell g00
    repeat first
      | ((with_reducible apply q_ld); rfl; (with_reducible assumption); (simp only [List.set_cons_zero, List.set_cons_succ]; rfl))
      | go_big_quiet_step (fail)
    refine wpQuiet_nil ?_
    intro w2 B2
    clear q0 g0 gA gM g00
    have b32 := b31.kept B2
    have B20 := B10.trans (B2.mono B10.size)
    obtain ⟨g0, gA, gM⟩ := b32.table ht
    go_wp2_with ((with_reducible apply ld); rfl; (with_reducible assumption); (simp only [List.set_cons_zero, List.set_cons_succ]; rfl))
    clear g0 gA gM
    go_loopw [6, 7, 11, 13, 43] (fun lo hi _ _ i wr => ∃ k : Nat, k ≤ 2 ∧ i = .int .i64 k ∧ lo = .int .i64 (t.loK k) ∧ hi = .int .i64 (t.hiK k) ∧ Below w2.heap.size w2 wr) (fun _ _ _ _ i _ => 2 - (intOf i).toNat)
    case atStart => exact ⟨0, by omega, rfl, rfl, rfl, Below.refl _ _⟩
    case round =>
      obtain ⟨k, hk, rfl, rfl, rfl, HW⟩ := hrel
      have hlb := t.loK_bd h0 k hk
      have hhb := t.hiK_bd h0 k hk
      have hlo := hwr _ hlb.1 hlb.2
      have hhi := hwr _ hhb.1 hhb.2
      by_cases hkl : k < 2
      · have hk3 : (k : Int) < (2 : Nat) := by omega
        have hk2 : decide ((k : Int) < 2) = true := by simp; omega
        have b33 := b32.kept HW
        obtain ⟨g0, gA, gM⟩ := b33.table ht
        have g0a : (wr.alloc (.cells #[.int .i64 0, .int .i64 0, .int .i64 0, .int .i64 0, .int .i64 0, .int .i64 0, .int .i64 0, .int .i64 0, .int .i64 0, .int .i64 0, .int .i64 0, .int .i64 0, .int .i64 0, .int .i64 0, .int .i64 0, .int .i64 0] 26)).cell? ⟨w.heap.size, 0, none⟩ = some (.int .i64 (L : Int)) := by rw [← HL.out]; exact ((Below.refl _ wr).alloc (Nat.le_refl _) _ |>.cell (lt_of_cell g0)).trans g0
        go_wp2_with (first | ((with_reducible apply ixAgg); exact Try.underlying27; infer_instance; rfl; rfl; omega; omega; exact t.row_ex k; (simp only [List.set_cons_zero, List.set_cons_succ]; rfl)) | ((with_reducible apply st); rfl; rfl; exact Box.new _ _ _; rfl; exact ht.row_size hkl; exact t.row_flat k; intro w4 hb4 B4; have g04 := (B4.cell (p := ⟨w.heap.size, 0, none⟩) b33.lt).trans g0a; clear g0 gA gM g0a) | ((with_reducible apply slArr); exact Try.underlying26; infer_instance; rfl; rfl; omega; (simp only [List.set_cons_zero, List.set_cons_succ]; rfl)))
        have B5 : Below w2.heap.size w2 w4 := HW.trans (((Below.refl _ wr).alloc (Nat.le_refl _) _ |>.trans B4).mono HW.size)
        clear g04
        obtain ⟨wo, hwo⟩ : ∃ wo : World, wo = wr := ⟨_, rfl⟩
        rw [← hwo] at hb4 ⊢
        clear hwo
        go_loop [6, 7, 13, 50] (fun lo hi _ i => ∃ r : Nat, r ≤ L ∧ i = .int .i64 r ∧ lo = .int .i64 (t.loRow k (t.loK k) r) ∧ hi = .int .i64 (t.hiRow k (t.hiK k) r)) (fun _ _ _ i => L - (intOf i).toNat)
        case atStart => exact ⟨0, by omega, rfl, rfl, rfl⟩
        case round =>
          obtain ⟨r, hr, rfl, rfl, rfl⟩ := hrel
          by_cases hrl : r < L
          · have hg := hb4.cell r
            rw [ht.row_get hkl (by omega)] at hg
            have hr3 : (r : Int) < (L : Nat) := by omega
            have hr2 : decide ((r : Int) < (L : Nat)) = true := by simp; omega
            go_wp2
            go_round
            case measure => simp only [intOf]; omega
            case rel => exact ⟨r + 1, by omega, by go_num, by first | rfl | (congr 1; simp only [Tb.loRow]; split <;> omega), by first | rfl | (congr 1; simp only [Tb.hiRow]; split <;> omega)⟩
          · have H1 : Hid (t.loRow k (t.loK k) r = t.loK (k + 1)) := by
              obtain rfl : r = L := by omega
              show _ = _
              simp only [Tb.loK, HLt.out]
            have H2 : Hid (t.hiRow k (t.hiK k) r = t.hiK (k + 1)) := by
              obtain rfl : r = L := by omega
              show _ = _
              simp only [Tb.hiK, HLt.out]
            go_wp2
            go_roundw
            case measure => simp only [intOf]; omega
            case rel => exact ⟨k + 1, by omega, by go_num, by rw [H1.out], by rw [H2.out], B5⟩
      · have HK : Hid (k = 2) := by show _ = _; omega
        go_wp2
        refine bodyPost_ret (results_tmp3 rfl rfl rfl rfl) rfl ?_
        refine ⟨?_, B20.trans (HW.mono B20.size)⟩
        have e := HK.out
        subst e
        rw [hlo, hhi]; rfl
end Go.Proofs.Ytiiljecocajdpaa
