/- The walk of a tree's kid by a bit: the program's closure. -/
import Derived.Test.YtiiljecocajdpaaTree
import Derived.Test.YtiiljecocajdpaaTrel3
namespace Go.Proofs.Ytiiljecocajdpaa
open Go.RowKit

/-- THE ARM, in a region that draws, for a part of a slice whose elements are one cell. -/
theorem q_sl {P : Program} {ops : Array Oper} {rest : List Oper} {l l' : List Value} {ds : List Deferred} {w : World} {Q : Act → Prop} {t e d g o n cap i j m o' : Nat} {x lo hi : Operand} {k k' : IntKind} {ty : TypeId} {ps : String} {af : Array Edge}
    [S : SlTy P t e] [T : CellTy P e] (hx : (Act.mk l.toArray ds).eval x = .slice (some ⟨g, o, none⟩) n cap) (hlo : (Act.mk l.toArray ds).eval lo = .int k (i : Int)) (hhi : (Act.mk l.toArray ds).eval hi = .int k' (j : Int)) (h1 : i < j) (h2 : j ≤ cap) (hm : j - i = m) (ho : o + i = o') (hs : l.set d (.slice (some ⟨g, o', none⟩) m (cap - i)) = l')
    (h : wpQuiet P ops (fun w' => ∃ s : KeptW w, w' = s.val) Q rest ⟨l'.toArray, ds⟩) : wpQuiet P ops (fun w' => ∃ s : KeptW w, w' = s.val) Q (⟨some d, .slice t x (some lo) (some hi) none, ty, ps, af, none⟩ :: rest) ⟨l.toArray, ds⟩ := by
  subst hm ho
  refine BigFrame.wpQuiet_want rfl fun K hK => ⟨.slice (some ⟨g, o + i, none⟩) (j - i) (cap - i), fun w' ⟨s, hw⟩ => ?_, hK _ (by rw [put_list, hs]; exact h)⟩
  have hr : (Instr.sliceAt t (.slice (some ⟨g, o, none⟩) n cap) (some (.int k (i : Int))) (some (.int k' (j : Int))) none).run P w' = .ok (.slice (some ⟨g, o + i, none⟩) (j - i) (cap - i)) w' := by
    have hi1 : ¬ cap < j := by omega
    have hi2 : ¬ j < i := by omega
    have hi3 : ¬ cap = i := by omega
    simp [Instr.sliceAt, Instr.slice, Sem.run_bind, run_underlying S.out, Instr.sliceBounds, Instr.sliceBound, asIntOf, Sem.run_pure, hi1, hi2, hi3, run_sizeCell T, Addr.add, show j ≤ cap from h2, show i ≤ j by omega]
  unfold Oper.quietAt execOp
  simp [hx, hlo, hhi, Sem.run_bind, hr, Oper.quietUpon]
/-- A part of a row of bytes. -/
theorem Bytes.part {w : World} {g o : Nat} {l : List Nat} (h : Bytes w (some ⟨g, o, none⟩) l) (i r : Nat) : Bytes w (some ⟨g, o + i, none⟩) ((l.drop i).take r) :=
  ⟨fun k hk => by
    have hk' : i + k < l.length := by simp at hk; omega
    obtain ⟨b, o', ha, hc⟩ := h.cell (i + k) hk'
    obtain ⟨rfl, rfl⟩ : g = b ∧ o = o' := by simpa using ha
    refine ⟨g, o + i, rfl, ?_⟩
    rw [Nat.add_assoc, hc]
    simp, fun x hx => h.lt x (List.mem_of_mem_drop (List.mem_of_mem_take hx))⟩

/-- The levels of step d. -/
def Pb.lv (p : Pb) (d : Nat) : List Nat := (p.B.drop (d * p.C.R.toNat)).take p.C.R.toNat
/-- The metric of step d with register v. -/
def Pb.br (p : Pb) (d v : Nat) : Int := brS p.T (p.C.y v) (p.lv d) p.C.R.toNat
def nodeCells (s d m : Int) : Array Value := #[.int .u32 s, .int .i64 d, .int .i64 m]
theorem nodeCells_flat (s d m : Int) : Flat (nodeCells s d m) := by
  intro u hu
  simp [nodeCells] at hu
  rcases hu with rfl | rfl | rfl <;> exact ⟨fun _ h => (by cases h), fun _ h => (by cases h)⟩
theorem Pb.lv_len {p : Pb} (h : probChk p = 0) {d : Nat} (hd : (d : Int) < p.N) : (p.lv d).length = p.C.R.toNat := by
  obtain ⟨⟨k1, k2⟩, l1, l2, cr, hwin, ⟨v1, v2⟩, hlev, hcc, htt⟩ := probChk_ok h
  unfold Pb.lv
  rw [List.length_take, List.length_drop]
  have : (d + 1) * p.C.R.toNat ≤ p.B.length := by
    obtain ⟨r, hr⟩ : ∃ r : Nat, p.C.R = r := ⟨p.C.R.toNat, by omega⟩
    obtain ⟨N, hN⟩ : ∃ N : Nat, p.N = N := ⟨p.N.toNat, by unfold Pb.N; omega⟩
    have e : p.C.R.toNat = r := by omega
    rw [hr, hN] at hwin
    rw [e, show p.B.length = N * r by exact_mod_cast hwin]
    exact Nat.mul_le_mul_right _ (by omega)
  rw [Nat.add_mul, Nat.one_mul] at this
  omega

set_option maxRecDepth 5000 in
set_option maxHeartbeats 1000000 in
theorem tree_kid (p : Pb) (hp : p.Ok) (h : probChk p = 0) (tb pb rb g c : Nat) (s : Int) (s0 : 0 ≤ s) (s1 : s < 2 ^ (p.C.K.toNat - 1)) (d : Nat) (hd : (d : Int) < p.N) (m : Int) (b : Int) (b0 : 0 ≤ b) (b1 : b < 2) (w : World) (hT : TreeIn w p tb pb rb g c) :
    Pure Try.prog 58 #[.agg (nodeCells s d m), .int .u8 b, .pointer (some ⟨pb, 0, none⟩), .pointer (some ⟨rb, 0, none⟩)] w (.agg (nodeCells ((2 * s + b) % 2 ^ (p.C.K.toNat - 1)) (d + 1) (wrap64 (m + p.br d (2 * s + b).toNat)))) := by
  obtain ⟨⟨k1, k2⟩, l1, l2, cr, hwin, ⟨v1, v2⟩, hlev, hcc, htt⟩ := probChk_ok h
  have hlen := Pb.lv_len h hd
  have HWIN := Lib.hid hwin; clear hwin
  have HCR := Lib.hid cr
  have HLEN := Lib.hid hlen; clear hlen
  have hc := hT.cap
  have hNb : p.N ≤ 1055 := by unfold Pb.N; omega
  go_enter Try.func58, Try.ntmps58
  go_upto_region 1 with (fail)
  refine name2 ?_
  intro w0 b4 b6 B0
  have hT0 := hT.kept B0
  obtain ⟨fk, fr, flev, fl, fwin, fcode, ftable, fall⟩ := hT0.prob.prob hp
  have n0 := b4.cell 0
  have n1 := b4.cell 1
  have n2 := b4.cell 2
  simp only [nodeCells, List.getElem?_toArray, List.getElem?_cons_zero, List.getElem?_cons_succ] at n0 n1 n2
  go_wp2_with ((with_reducible apply ld); rfl; (with_reducible assumption); (simp only [List.set_cons_zero, List.set_cons_succ]; rfl))
  refine (trellis_Step p.C hp.c hcc s b s0 s1 b0 b1 _).mono ?_
  rintro e w1 ⟨rfl, B1⟩
  clear fk fr flev fl fwin fcode ftable fall n0 n1 n2
  have hv0 : 0 ≤ 2 * s + b := by omega
  obtain ⟨v, hv⟩ : ∃ v : Nat, v = (2 * s + b).toNat := ⟨_, rfl⟩
  rw [← hv]
  have HV := Lib.hid hv; clear hv
  have hsz : (p.C.yv v).size = 3 := rfl
  have hfl := p.C.ys_flat v p.C.R.toNat
  have hT1 := hT0.kept B1
  have b41 := b4.kept B1
  have b61 := b6.kept B1
  have B10 := B0.trans (B1.mono B0.size)
  go_upto_region 2 with ((with_reducible apply st); rfl; rfl; exact Box.new _ _ _; rfl; exact hsz; exact hfl; intro w2 b8 B2)
  have B12 : Below w1.heap.size w1 w2 := ((Below.refl _ _).alloc (Nat.le_refl _) _).trans B2
  have B20 := B10.trans (B12.mono B10.size)
  have hT2 := hT1.kept B12
  have b42 := b41.kept B12
  have b62 := b61.kept B12
  obtain ⟨fk, fr, flev, fl, fwin, fcode, ftable, fall⟩ := hT2.prob.prob hp
  have n0 := b42.cell 0
  have n1 := b42.cell 1
  have n2 := b42.cell 2
  have r0 := hT2.rate.cell 0
  simp only [nodeCells, List.getElem?_toArray, List.getElem?_cons_zero, List.getElem?_cons_succ] at n0 n1 n2 r0
  have gY := b8.load (off := 0) (n := 3) (cs' := p.C.yv v) (by rw [hsz]; omega) (Array.extract_eq_self_of_le (by rw [hsz]; omega))
  obtain ⟨r, hr⟩ : ∃ r : Nat, p.C.R = r := ⟨p.C.R.toNat, by omega⟩
  have hrn : p.C.R.toNat = r := by omega
  obtain ⟨N, hN⟩ : ∃ N : Nat, p.N = N := ⟨p.N.toNat, by unfold Pb.N; omega⟩
  have hw1 := HWIN.out
  rw [hr, hN] at hw1
  have hBl : p.B.length = N * r := by exact_mod_cast hw1
  have hle : (d + 1) * r ≤ N * r := Nat.mul_le_mul_right _ (by omega)
  have hr3 : r ≤ 3 := by omega
  have hr2 : 2 ≤ r := by omega
  have hdr : (d + 1) * r = d * r + r := by rw [Nat.add_mul, Nat.one_mul]
  have hd3 : d * r ≤ 3165 := by
    have : d * r ≤ 1055 * 3 := Nat.mul_le_mul (by omega) hr3
    omega
  have hlv : p.lv d = (p.B.drop (d * r)).take r := by unfold Pb.lv; rw [hrn]
  have hbr : p.br d v = brS p.T (p.C.y v) (p.lv d) (p.lv d).length := by unfold Pb.br; rw [HLEN.out]
  have hlr : (p.lv d).length = r := by rw [HLEN.out, hrn]
  obtain ⟨i, hi⟩ : ∃ i : Nat, d * r = i := ⟨_, rfl⟩
  have e1 : (d : Int) * p.C.R = (i : Int) := by rw [hr, ← hi]; push_cast; rfl
  have e2 : ((d : Int) + 1) * p.C.R = ((i + r : Nat) : Int) := by rw [hr, ← hi]; push_cast; rw [Int.add_mul, Int.one_mul]
  have hi4 : (i : Int) ≤ 4000 := by omega
  obtain ⟨j, hj⟩ : ∃ j : Nat, i + r = j := ⟨_, rfl⟩
  rw [hj] at e2
  have hj4 : (j : Int) ≤ 4003 := by omega
  have hji : j - i = r := by omega
  have hlt : i < j := by omega
  have hjc : j ≤ c := by omega
  have hbytes : Bytes w2 (some ⟨g, i, none⟩) (p.lv d) := by rw [hlv, hi]; simpa using hT2.win.part i r
  have HBY := Lib.hid hbytes; clear hbytes
  have HLV := Lib.hid hlv; clear hlv
  have HBR := Lib.hid hbr; clear hbr
  have HLR := Lib.hid hlr; clear hlr
  have HJI := Lib.hid hji; clear hji
  have HR := Lib.hid hr; clear hr
  have HN := Lib.hid hN; clear hN
  clear hrn hBl hdr hi hw1
  have hd4 : (d : Int) ≤ 2000 := by omega
  refine wp_region_kept (by kernel_rfl) (by kernel_rfl) ?_
  have q39 := KeptW.cell fwin
  have q1 := KeptW.cell n1
  have qr := KeptW.cell r0
  clear fk fr flev fl fwin n0 n1 n2 r0
  repeat first
    | ((with_reducible apply q_ld); rfl; (with_reducible assumption); (simp only [List.set_cons_zero, List.set_cons_succ]; rfl))
    | ((with_reducible apply q_sl); rfl; rfl; rfl; exact hlt; exact hjc; exact HJI.out.trans HLR.out.symm; exact Nat.zero_add i; (simp only [List.set_cons_zero, List.set_cons_succ]; rfl))
    | go_big_quiet_step (exact Calls.kept (metric_Branch p.T hp.t htt p.C.R HCR.out (p.lv d) (some ⟨g, i, none⟩) (c - i) (p.C.y v) (p.C.y_lt v) (by rw [HLR.out, HR.out]) (fun x hx => hlev x (List.mem_of_mem_drop (List.mem_of_mem_take (HLV.out ▸ hx)))) _ (HBY.out.kept (Subtype.property _))))
  refine wpQuiet_nil ?_
  intro w3 B3
  rw [← HBR.out]
  have b43 := b42.kept B3
  have b63 := b62.kept B3
  have B30 := B20.trans (B3.mono B20.size)
  have n0 := b43.cell 0
  have n1 := b43.cell 1
  have n2 := b43.cell 2
  simp only [nodeCells, List.getElem?_toArray, List.getElem?_cons_zero, List.getElem?_cons_succ] at n0 n1 n2
  clear fcode ftable fall gY q39 q1 qr e1 e2 hj hle hd3
  go_wp2_with ((with_reducible apply st); rfl; rfl; exact b63; rfl; rfl; exact nodeCells_flat _ _ _; intro w4 b64 B4)
  refine bodyPost_ret (results_cellAgg rfl rfl (b64.load (off := 0) (n := 3) (Nat.le_refl _) (Array.extract_eq_self_of_le (Nat.le_refl _)))) rfl ?_
  refine ⟨?_, B30.trans (B4.mono (by omega))⟩
  rw [HV.out]; rfl
end Go.Proofs.Ytiiljecocajdpaa
