/- The walks of the document's symbols of a path, and of the wrong places. -/
import Derived.Test.YtiiljecocajdpaaRPref
import Derived.Test.YtiiljecocajdpaaCleanL
import Derived.Test.YtiiljecocajdpaaErrs
namespace Go.Proofs.Ytiiljecocajdpaa
open Go.RowKit

set_option maxRecDepth 5000 in
theorem ref07_wrong0 (c : Cd) (hc : c.Ok) (hk : codeChk c = 0) (w : World) : Pure Try.prog 109 #[.agg c.cells, .int .u32 0, .int .u8 0] w (.int .i64 0) := by
  obtain ⟨k1, k2, cr⟩ := codeChk_ok hk
  clear cr
  go_enter Try.func109, Try.ntmps109
  go_upto_region 1 with (fail)
  refine name1 ?_
  intro w0 b3 B0
  obtain ⟨h0, h1, h2, hA⟩ := b3.code
  clear h1 h2
  go_wp2_with ((with_reducible apply ld); rfl; (with_reducible assumption); (simp only [List.set_cons_zero, List.set_cons_succ]; rfl))
  refine (ref05_Check c hc _).mono ?_
  rintro e w1 ⟨rfl, B1⟩
  rw [hk]
  clear h0 hA
  obtain ⟨h0, h1, h2, hA⟩ := (b3.kept B1).code
  clear h1 h2 hA hk
  have hz : (0 : Int) / 2 ^ (c.K.toNat - 1) = 0 := Int.zero_ediv _
  go_wp2
  go_ret
  exact ⟨rfl, bOn B0 B1⟩
/-- The symbols of the first steps of a path. -/
def Pb.symsTo (p : Pb) (bs : List Nat) (k : Nat) : List Nat := (List.range k).flatMap fun j => p.C.syms (p.reg bs j)
theorem Pb.symsTo_succ (p : Pb) (bs : List Nat) (k : Nat) : p.symsTo bs (k + 1) = p.symsTo bs k ++ p.C.syms (p.reg bs k) := by
  unfold Pb.symsTo
  rw [List.range_succ, List.flatMap_append]
  simp
theorem Pb.symsTo_len (p : Pb) (bs : List Nat) : ∀ k, (p.symsTo bs k).length = k * p.C.R.toNat
  | 0 => by simp [Pb.symsTo]
  | k + 1 => by rw [p.symsTo_succ, List.length_append, p.symsTo_len bs k, p.C.syms_len, Nat.succ_mul]
theorem Pb.symsTo_lt (p : Pb) (bs : List Nat) (k : Nat) : ∀ x ∈ p.symsTo bs k, x < 2 := by
  intro x hx
  obtain ⟨j, _, hj⟩ := List.mem_flatMap.1 hx
  exact p.C.syms_lt _ x hj
theorem sy_bytes {w : World} {b : Nat} {c : Cd} {v : Nat} (h : Box w b (c.yv v)) (hR : c.R.toNat ≤ 3) : Bytes w (some ⟨b, 0, none⟩) (c.syms v) :=
  ⟨fun k hk => ⟨b, 0, rfl, by
    rw [c.syms_len] at hk
    rw [Nat.zero_add, h.cell, c.yv_ya, ya_get _ (by omega)]
    simp [Cd.syms]⟩, fun x hx => Nat.lt_trans (c.syms_lt v x hx) (by decide)⟩
theorem sy_room {k N r : Nat} (h : k < N) (hN : N ≤ 1055) (hr : r ≤ 3) : k * r + r ≤ 140737488355328 := by
  have : k * r ≤ 1055 * 3 := Nat.mul_le_mul (by omega) hr
  omega
set_option maxRecDepth 5000 in
set_option maxHeartbeats 2000000 in
theorem ref07_Walk (p : Pb) (hp : p.Ok) (hch : probChk p = 0) (bs : List Nat) (hpath : p.Path bs) (u : List Nat) (hu : u.length = p.N.toNat) (hub : ∀ k (h : k < u.length), u[k] = p.bit bs k) (au : Option Addr) (cu : Nat) (w : World) (hby : Bytes w au u) :
    Calls Try.prog 105 #[.agg p.C.cells, .int .u32 0, .slice au u.length cu] w fun e w' => (∃ s g c, e = .returned (.tuple #[.int .u32 s, .slice (some ⟨g, 0, none⟩) (p.symsTo bs p.N.toNat).length c, .int .i64 0]) ∧ Bytes w' (some ⟨g, 0, none⟩) (p.symsTo bs p.N.toNat)) ∧ Below w.heap.size w w' := by
  obtain ⟨⟨k1, k2⟩, l1, l2, cr, hwin, ⟨v1, v2⟩, hlev, hcc, htt⟩ := probChk_ok hch
  obtain ⟨hN3, hN5⟩ := Pb.N_le hch
  have hu5 : u.length ≤ 1055 := by omega
  have hu3 : 3 ≤ u.length := by omega
  obtain ⟨r, hr⟩ : ∃ r : Nat, p.C.R = (r : Int) := ⟨p.C.R.toNat, by omega⟩
  have hrn : p.C.R.toNat = r := by omega
  have hr3 : r ≤ 3 := by omega
  have hr2 : 2 ≤ r := by omega
  have HR := Lib.hid cr
  have HRR := Lib.hid hr
  have HRN := Lib.hid hrn
  have HU := Lib.hid hu
  clear cr hwin v1 v2 hlev htt hr hrn hu hN3 hN5
  go_enter Try.func105, Try.ntmps105
  go_upto_region 1 with (fail)
  refine name1 ?_
  intro w0 b3 B0
  obtain ⟨h0, h1, h2, hA⟩ := b3.code
  clear h0 h1 h2
  go_wp2_with ((with_reducible apply ld); rfl; (with_reducible assumption); (simp only [List.set_cons_zero, List.set_cons_succ]; rfl))
  refine (ref07_wrong0 p.C hp.c hcc _).mono ?_
  rintro e w1 ⟨rfl, B1⟩
  clear hA
  have b31 := b3.kept B1
  have hb1 := (hby.kept B0).kept B1
  have B10 := bOn B0 B1
  go_wp2_with fail
  go_loop [10] (fun i => ∃ k : Nat, k ≤ u.length ∧ i = .int .i64 (k : Int)) (fun i => u.length - (intOf i).toNat)
  case atStart => exact ⟨0, Nat.zero_le _, rfl⟩
  case round =>
    obtain ⟨k, hk, rfl⟩ := hrel
    by_cases hkl : k < u.length
    · obtain ⟨j1, j2⟩ := ap_lt hkl
      have hb' : (k : Int) + 1 ≤ 9223372036854775807 := by omega
      obtain ⟨bb, oo, rfl, cb⟩ := hb1.cell k hkl
      rw [hub k hkl] at cb
      have hbt := Pb.bit_lt hpath k
      have hb0 : ¬ (1 : Int) < ((p.bit bs k : Nat) : Int) := by omega
      go_wp2
      go_round
      case measure => first | exact ap_meas' hkl | exact ap_meas hkl hb'
      case rel => exact ⟨k + 1, hkl, (by first | rfl | exact congrArg (Value.int .i64) (ap_succ hb'))⟩
    · obtain rfl := ap_end hkl hk
      have hdd : decide ((u.length : Int) < (u.length : Int)) = false := by simp
      have hdd2 : decide ((1055 : Int) < (u.length : Int)) = false := by simp; omega
      go_wp2_with fail
      go_loopw [1, 11, 12] (fun st v i wr => ∃ k : Nat, k ≤ u.length ∧ i = .int .i64 (k : Int) ∧ st = .int .u32 (p.st bs k) ∧ wr.ownsRow w1.heap.size 5 1 v (k * r) (u8s (p.symsTo bs k)) ∧ Below w1.heap.size w1 wr) (fun _ _ i _ => u.length - (intOf i).toNat)
      case atStart => exact ⟨0, Nat.zero_le _, rfl, rfl, by rw [Nat.zero_mul]; exact World.ownsRow_nil _ _ _ _, Below.refl _ _⟩
      case round =>
        clear hkl hk hdd
        obtain ⟨k, hk, rfl, rfl, hO, hB⟩ := hrel
        by_cases hkl : k < u.length
        · obtain ⟨j1, j2⟩ := ap_lt hkl
          have hb' : (k : Int) + 1 ≤ 9223372036854775807 := by omega
          obtain ⟨bb, oo, rfl, cb⟩ := (hb1.kept hB).cell k hkl
          rw [hub k hkl] at cb
          have hbt := Pb.bit_lt hpath k
          have hbt2 : ((p.bit bs k : Nat) : Int) < 2 := by omega
          have hbt0 : (0 : Int) ≤ ((p.bit bs k : Nat) : Int) := by omega
          obtain ⟨s0, s1⟩ := p.st_in bs k
          have b3r := b31.kept hB
          obtain ⟨h0, h1, h2, hA⟩ := b3r.code
          clear h0 h1 h2
          go_upto_region 15 with (fail)
          refine wp_region_free_tail 10 2 (by kernel_rfl) (by kernel_rfl) ?_
          simp only [List.take_succ_cons, List.take_zero, List.drop_succ_cons, List.drop_zero]
          have q0 := KeptW.cell cb
          repeat first
            | ((refine det_plain rfl ?_); ((with_reducible apply q_ld); rfl; (with_reducible assumption); (simp only [List.set_cons_zero, List.set_cons_succ]; rfl)); (refine wpQuiet_nil ?_))
            | ((with_reducible apply det_nilG); rfl; rfl; (simp only [List.set_cons_zero, List.set_cons_succ]; rfl))
            | ((with_reducible apply det_call); rfl; infer_instance; rfl; (intro w1 B1; exact ref07_Next p.C hp.c k1 k2 HR.out (p.st bs k) (p.bit bs k) s0 s1 hbt0 hbt2 _); (simp only [List.set_cons_zero, List.set_cons_succ]; rfl))
            | ((refine det_plain rfl ?_); (go_big_quiet_step (fail)); (refine wpQuiet_nil ?_))
          refine wpDet_nil ?_
          clear q0 hA cb
          obtain ⟨rg, hrg⟩ : ∃ rg : Nat, rg = (2 * p.st bs k + (p.bit bs k : Int)).toNat := ⟨_, rfl⟩
          obtain ⟨sn, hsn⟩ : ∃ sn, sn = (2 * p.st bs k + (p.bit bs k : Int)) % 2 ^ (p.C.K.toNat - 1) := ⟨_, rfl⟩
          rw [← hrg, ← hsn]
          have HRG : Hid (p.reg bs k = rg) := hrg.symm
          have HSN : Hid (p.st bs (k + 1) = sn) := hsn.symm
          clear hrg hsn s0 s1
          have hsz : (p.C.yv rg).size = 3 := rfl
          have hfl := p.C.ys_flat rg p.C.R.toNat
          refine free_alloc anti_list (cs := #[.int .u8 0, .int .u8 0, .int .u8 0]) (by intro w1; go_simp) ?_
          intro b8 h8
          simp only [List.set_cons_zero, List.set_cons_succ]
          ((with_reducible apply free_assignT); exact anti_list; rfl; (simp only [List.set_cons_zero, List.set_cons_succ]; rfl))
          intro w2 B2 hS
          obtain ⟨_, x8⟩ := hS
          refine stO rfl rfl x8 rfl hsz hfl ?_
          intro w3 y8 B3 o3 s3
          have B30 := B2.trans (B3.mono h8)
          have hB3 := hB.trans (B30.mono hB.size)
          have hO3 := owns_block hO (w' := w3) (fun k hk => B30.block k (World.ownsRow.lt hO k hk).2)
          have b33 := b3r.kept B30
          have yS := sy_bytes y8 (by rw [HRN.out]; exact hr3)
          have ySl := (p.C.syms_len rg).trans HRN.out
          obtain ⟨h0, h1, h2, hA⟩ := b33.code
          rw [HRR.out] at h1
          have hsz3 := hB3.size
          have hr33 : r ≤ 3 := hr3
          clear o3 s3 x8 hO hB b3r h0 h2 hA
          go_wp2_with (first
            | ((with_reducible apply slArr); exact Try.underlying97; infer_instance; rfl; rfl; exact hr33; (simp only [List.set_cons_zero, List.set_cons_succ]; rfl))
            | (at_builtin; refine apB hO3 yS rfl rfl ySl (sy_room hkl hu5 hr3) hsz3 ?_; intro v9 w9 hown9 hgr9 _))
          have hB9 := hB3.trans (own_below hO3 hgr9 hsz3)
          have hown' : w9.ownsRow w1.heap.size 5 1 v9 ((k + 1) * r) (u8s (p.symsTo bs (k + 1))) := by
            rw [Nat.succ_mul, p.symsTo_succ, HRG.out]
            simpa [u8s] using hown9
          go_roundw
          case measure => first | exact ap_meas' hkl | exact ap_meas hkl hb'
          case rel => exact ⟨k + 1, hkl, (by first | rfl | exact congrArg (Value.int .i64) (ap_succ hb')), by rw [HSN.out], hown', hB9⟩
        · obtain rfl := ap_end hkl hk
          have hdd : decide ((u.length : Int) < (u.length : Int)) = false := by simp
          have hlen := p.symsTo_len bs u.length
          rw [HRN.out] at hlen
          have hur : 0 < u.length * r := Nat.mul_pos (by omega) (by omega)
          obtain ⟨gy, cy, rfl⟩ : ∃ g c, u11 = .slice (some ⟨g, 0, none⟩) (u.length * r) c := by
            rcases hO.2 with ⟨_, h⟩ | ⟨g, c, cur, hv, _⟩
            · omega
            · exact ⟨g, c, hv⟩
          have yY : Bytes wr (some ⟨gy, 0, none⟩) (p.symsTo bs u.length) := ⟨fun j hj => ⟨gy, 0, rfl, by rw [Nat.zero_add]; exact own_cell hO (u8s_get hj)⟩, fun x hx => by have := p.symsTo_lt bs _ x hx; omega⟩
          have HLEN := Lib.hid hlen
          clear hlen hO
          go_wp2
          refine bodyPost_ret (results_tmp3 rfl rfl rfl rfl) rfl ?_
          rw [← HU.out]
          exact ⟨⟨_, gy, cy, by rw [HLEN.out]; rfl, yY⟩, B10.trans (hB.mono B10.size)⟩
end Go.Proofs.Ytiiljecocajdpaa
