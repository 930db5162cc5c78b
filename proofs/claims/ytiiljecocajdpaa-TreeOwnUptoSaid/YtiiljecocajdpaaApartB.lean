/- The walks of the checks that rows share nothing. -/
import Derived.Test.YtiiljecocajdpaaApart
namespace Go.Proofs.Ytiiljecocajdpaa
open Go.RowKit

def m8 (i j : Nat) : Int := wrap64 (wrap64 (wrap64 (31 * (i : Int)) + wrap64 (7 * (j : Int))) + 1) % 256
def mk8 (i j : Nat) : Value := .int .u8 (m8 i j)
theorem law01_mark (i j : Nat) (w : World) : Pure Try.prog 65 #[.int .i64 i, .int .i64 j] w (.int .u8 (m8 i j)) := by
  go_enter Try.func65, Try.ntmps65
  go_wp2
  go_ret
  exact ⟨rfl, Below.refl _ _⟩
set_option maxRecDepth 5000 in
set_option maxHeartbeats 1000000 in
theorem law01_ApartBytes (vs : List Value) (al : Option Addr) (cl B : Nat) (w : World) (h63 : (vs.length : Int) ≤ 9223372036854775807) (hl : ApList w al vs) (hok : ApOk w B 5 vs mk8 0 0) (hs : ApSep vs) (hB : B ≤ w.heap.size) :
    Calls Try.prog 23 #[.slice al vs.length cl] w (ApAns vs w) := by
  have hlt : ∀ b, ApH vs b → b < w.heap.size := fun b ⟨i, v, hv, hb⟩ => (hok.lt hv hb).2
  go_enter Try.func23, Try.ntmps23
  go_wp2_with fail
  go_loopw [3] (fun i wr => ∃ c : Nat, c ≤ vs.length ∧ i = .int .i64 c ∧ ApOk wr B 5 vs mk8 c 0 ∧ Turn (ApH vs) w wr) (fun i _ => vs.length - (intOf i).toNat)
  case atStart => exact ⟨0, Nat.zero_le _, rfl, hok, Turn.refl _ _⟩
  case round =>
    obtain ⟨c, hc, rfl, hO, hT⟩ := hrel
    by_cases hcl : c < vs.length
    · obtain ⟨k1, k2⟩ := ap_lt hcl
      have hb1 := ap_bd hcl h63
      obtain ⟨v, hv⟩ : ∃ v, vs[c]? = some v := ⟨_, List.getElem?_eq_getElem hcl⟩
      obtain ⟨a, n, cc, rfl, hn, _⟩ := hO.at_ hv
      go_wp2_with fail
      go_loopw [4] (fun i wr => ∃ j : Nat, j ≤ n ∧ i = .int .i64 j ∧ ApOk wr B 5 vs mk8 c j ∧ Turn (ApH vs) w wr) (fun i _ => n - (intOf i).toNat)
      case atStart => exact ⟨0, Nat.zero_le _, rfl, hO, hT⟩
      case round =>
        clear hO hT
        obtain ⟨j, hj, rfl, hO, hT⟩ := hrel
        obtain ⟨gl, ol, rfl, q1, hgl⟩ := hl.turn hT c _ hv
        by_cases hjn : j < n
        · obtain ⟨a', n', c', he, _, hat⟩ := hO.at_ hv
          obtain ⟨rfl, rfl, rfl⟩ : a = a' ∧ n = n' ∧ cc = c' := by simpa using he
          obtain ⟨g, u, rfl, q2, q3, _⟩ := hat j hjn
          clear hat he
          obtain ⟨k3, k4⟩ := ap_lt hjn
          have hb2 := ap_bd hjn (Int.le_trans (Int.ofNat_le.2 hn) (by decide))
          have Q1 := KeptW.cell q1
          go_upto_region 7 with (fail)
          (refine wp_region_kept_tail 9 (by kernel_rfl) (by kernel_rfl) ?_; simp only [List.take_succ_cons, List.take_zero, List.drop_succ_cons, List.drop_zero])
          repeat first
            | go_big_quiet_step (exact Calls.kept (law01_mark c j _))
          refine wpQuiet_nil ?_
          intro w6 B6
          have hT6 := hT.trans (Turn.ofBelow (H := ApH vs) B6)
          have hO6 := hO.turn (W := w6) fun i v k hv hk => B6.block k (hO.lt hv hk).2
          have q26 := (B6.cell (lt_of_cell q2)).trans q2
          have q36 := (B6.frozen (p := ⟨g, j, none⟩) (lt_of_cell q2)).trans q3
          clear hO hT q1 Q1 q2 q3
          have N1 := hO6.set hs hv hjn
          have N2 := hT6.trans (Turn.setCell w6 ⟨g, j, none⟩ (mk8 c j) (H := ApH vs) ⟨c, _, hv, rfl⟩)
          unfold mk8 at N1 N2
          go_wp2
          go_roundw
          case measure => first | exact ap_meas' hjn | exact ap_meas hjn hb2
          case rel => exact ⟨j + 1, hjn, (by first | rfl | exact congrArg (Value.int .i64) (ap_succ hb2)), N1, N2⟩
        · obtain rfl := ap_end hjn hj
          have k3 : decide ((j : Int) < (j : Int)) = false := by simp
          go_wp2
          go_roundw
          case measure => first | exact ap_meas' hcl | exact ap_meas hcl hb1
          case rel => exact ⟨c + 1, hcl, (by first | rfl | exact congrArg (Value.int .i64) (ap_succ hb1)), hO.next hv, hT⟩
    · obtain rfl := ap_end hcl hc
      have k3 : decide ((vs.length : Int) < (vs.length : Int)) = false := by simp
      go_wp2_with fail
      go_loopw [5] (fun i wr => ∃ c : Nat, c ≤ vs.length ∧ i = .int .i64 c ∧ ApOk wr B 5 vs mk8 vs.length 0 ∧ Turn (ApH vs) w wr) (fun i _ => vs.length - (intOf i).toNat)
      case atStart => exact ⟨0, Nat.zero_le _, rfl, hO, hT⟩
      case round =>
        clear hO hT
        obtain ⟨c, hc, rfl, hO, hT⟩ := hrel
        by_cases hcl : c < vs.length
        · obtain ⟨k1, k2⟩ := ap_lt hcl
          have hb1 := ap_bd hcl h63
          obtain ⟨v, hv⟩ : ∃ v, vs[c]? = some v := ⟨_, List.getElem?_eq_getElem hcl⟩
          have hM := hO.more (S := w.heap.size) hcl hv
          obtain ⟨gl, ol, rfl, q1, hgl⟩ := hl.turn hT c _ hv
          go_wp2_with fail
          go_loopw [6, 7] (fun m i wr => ∃ k : Nat, k ≤ 40 ∧ i = .int .i64 k ∧ ApMore wr w.heap.size B 5 vs mk8 c m k ∧ ApOk wr B 5 vs mk8 vs.length 0 ∧ Turn (ApH vs) w wr) (fun _ i _ => 40 - (intOf i).toNat)
          case atStart => exact ⟨0, Nat.zero_le _, rfl, hM, hO, hT⟩
          case round =>
            clear hO hT hM
            obtain ⟨k, hk, rfl, hM, hO, hT⟩ := hrel
            by_cases hk4 : k < 40
            · obtain ⟨a, n, cc, hv', hn, ys, hown, hys, hwh⟩ := hM
              have k3 : decide ((k : Int) < 40) = true := by simp; omega
              have hb2 : (k : Int) + 1 ≤ 9223372036854775807 := by omega
              have hm40 : n + k + 1 ≤ 5000 := by omega
              have hsz := hT.size
              have hBw : B ≤ wr.heap.size := Nat.le_trans hB hsz
              go_wp2_with (at_builtin; refine apP (us := [.int .u8 254]) (m := 1) hown (by decide) (by decide) rfl rfl rfl (by intro u hu; simp at hu; subst hu; rfl) (by omega) (by omega) hBw ?_; intro v2 w2 hown2 hgr2)
              have hst := ApMore.step hO hs hsz hlt hv' hn hown hys hwh hown2 hgr2
              have hT2 := hT.apart hst.2.2
              go_roundw
              case measure => first | exact ap_meas' hk4 | exact ap_meas hk4 hb2
              case rel => exact ⟨k + 1, hk4, (by first | rfl | exact congrArg (Value.int .i64) (ap_succ hb2)), hst.1, hst.2.1, hT2⟩
            · obtain rfl := ap_end hk4 hk
              go_wp2
              go_roundw
              case measure => first | exact ap_meas' hcl | exact ap_meas hcl hb1
              case rel => exact ⟨c + 1, hcl, (by first | rfl | exact congrArg (Value.int .i64) (ap_succ hb1)), hO, hT⟩
        · obtain rfl := ap_end hcl hc
          go_wp2_with fail
          go_loopw [8] (fun i wr => ∃ c : Nat, c ≤ vs.length ∧ i = .int .i64 c ∧ ApOk wr B 5 vs mk8 vs.length 0 ∧ Turn (ApH vs) w wr) (fun i _ => vs.length - (intOf i).toNat)
          case atStart => exact ⟨0, Nat.zero_le _, rfl, hO, hT⟩
          case round =>
            clear hO hT
            obtain ⟨c, hc, rfl, hO, hT⟩ := hrel
            by_cases hcl : c < vs.length
            · obtain ⟨k1, k2⟩ := ap_lt hcl
              have hb1 := ap_bd hcl h63
              obtain ⟨v, hv⟩ : ∃ v, vs[c]? = some v := ⟨_, List.getElem?_eq_getElem hcl⟩
              obtain ⟨a, n, cc, rfl, hn, _⟩ := hO.at_ hv
              go_wp2_with fail
              go_loopw [9] (fun i wr => ∃ j : Nat, j ≤ n ∧ i = .int .i64 j ∧ ApOk wr B 5 vs mk8 vs.length 0 ∧ Turn (ApH vs) w wr) (fun i _ => n - (intOf i).toNat)
              case atStart => exact ⟨0, Nat.zero_le _, rfl, hO, hT⟩
              case round =>
                clear hO hT
                obtain ⟨j, hj, rfl, hO, hT⟩ := hrel
                obtain ⟨gl, ol, rfl, q1, hgl⟩ := hl.turn hT c _ hv
                by_cases hjn : j < n
                · obtain ⟨a', n', c', he, _, hat⟩ := hO.at_ hv
                  obtain ⟨rfl, rfl, rfl⟩ : a = a' ∧ n = n' ∧ cc = c' := by simpa using he
                  obtain ⟨g, u, rfl, q2, q3, hu⟩ := hat j hjn
                  obtain rfl := hu (.inl hcl)
                  clear hat he hu
                  obtain ⟨k3, k4⟩ := ap_lt hjn
                  have hb2 := ap_bd hjn (Int.le_trans (Int.ofNat_le.2 hn) (by decide))
                  have Q1 := KeptW.cell q1
                  unfold mk8 at q2
                  have Q2 := KeptW.cell q2
                  go_upto_region 22 with (fail)
                  refine wp_region_kept (by kernel_rfl) (by kernel_rfl) ?_
                  repeat first
                    | go_big_quiet_step (exact Calls.kept (law01_mark c j _))
                  refine wpQuiet_nil ?_
                  intro w6 B6
                  have N2 := hT.trans (Turn.ofBelow (H := ApH vs) B6)
                  have N1 := hO.turn (W := w6) fun i v k hv hk => B6.block k (hO.lt hv hk).2
                  clear hO hT q1 Q1 q2 q3 Q2
                  go_wp2
                  go_roundw
                  case measure => first | exact ap_meas' hjn | exact ap_meas hjn hb2
                  case rel => exact ⟨j + 1, hjn, (by first | rfl | exact congrArg (Value.int .i64) (ap_succ hb2)), N1, N2⟩
                · obtain rfl := ap_end hjn hj
                  have k3 : decide ((j : Int) < (j : Int)) = false := by simp
                  go_wp2
                  go_roundw
                  case measure => first | exact ap_meas' hcl | exact ap_meas hcl hb1
                  case rel => exact ⟨c + 1, hcl, (by first | rfl | exact congrArg (Value.int .i64) (ap_succ hb1)), hO, hT⟩
            · obtain rfl := ap_end hcl hc
              go_wp2
              go_ret
              exact ⟨rfl, hT⟩
end Go.Proofs.Ytiiljecocajdpaa
