/- The walk of the check that rows of numbers share nothing. -/
import Derived.Test.YtiiljecocajdpaaApart
namespace Go.Proofs.Ytiiljecocajdpaa
open Go.RowKit

def mk64 (i j : Nat) : Value := .int .i64 (wrap64 (wrap64 (1000 * (i : Int)) + (j : Int)))
set_option maxRecDepth 5000 in
set_option maxHeartbeats 1000000 in
theorem law01_ApartInts (vs : List Value) (al : Option Addr) (cl B : Nat) (w : World) (h63 : (vs.length : Int) ≤ 9223372036854775807) (hl : ApList w al vs) (hok : ApOk w B 3 vs mk64 0 0) (hs : ApSep vs) (hB : B ≤ w.heap.size) :
    Calls Try.prog 48 #[.slice al vs.length cl] w (ApAns vs w) := by
  have hlt : ∀ b, ApH vs b → b < w.heap.size := fun b ⟨i, v, hv, hb⟩ => (hok.lt hv hb).2
  go_enter Try.func48, Try.ntmps48
  go_wp2_with fail
  go_loopw [3] (fun i wr => ∃ c : Nat, c ≤ vs.length ∧ i = .int .i64 c ∧ ApOk wr B 3 vs mk64 c 0 ∧ Turn (ApH vs) w wr) (fun i _ => vs.length - (intOf i).toNat)
  case atStart => exact ⟨0, Nat.zero_le _, rfl, hok, Turn.refl _ _⟩
  case round =>
    obtain ⟨c, hc, rfl, hO, hT⟩ := hrel
    by_cases hcl : c < vs.length
    · obtain ⟨k1, k2⟩ := ap_lt hcl
      have hb1 := ap_bd hcl h63
      obtain ⟨v, hv⟩ : ∃ v, vs[c]? = some v := ⟨_, List.getElem?_eq_getElem hcl⟩
      obtain ⟨a, n, cc, rfl, hn, _⟩ := hO.at_ hv
      go_wp2_with fail
      go_loopw [4] (fun i wr => ∃ j : Nat, j ≤ n ∧ i = .int .i64 j ∧ ApOk wr B 3 vs mk64 c j ∧ Turn (ApH vs) w wr) (fun i _ => n - (intOf i).toNat)
      case atStart => exact ⟨0, Nat.zero_le _, rfl, hO, hT⟩
      case round =>
        clear hO hT
        obtain ⟨j, hj, rfl, hO, hT⟩ := hrel
        obtain ⟨gl, ol, rfl, q1, hgl⟩ := hl.turn hT c _ hv
        by_cases hjn : j < n
        · obtain ⟨a', n', c', he, _, hat⟩ := hO.at_ hv
          obtain ⟨rfl, rfl, rfl⟩ : a = a' ∧ n = n' ∧ cc = c' := by simpa using he
          obtain ⟨g, u, rfl, q2, q3, _⟩ := hat j hjn
          clear hat he
          obtain ⟨k3, k4⟩ := ap_lt hjn
          have hb2 := ap_bd hjn (Int.le_trans (Int.ofNat_le.2 hn) (by decide))
          have N1 := hO.set hs hv hjn
          have N2 := hT.trans (Turn.setCell wr ⟨g, j, none⟩ (mk64 c j) (H := ApH vs) ⟨c, _, hv, rfl⟩)
          unfold mk64 at N1 N2
          go_wp2
          go_roundw
          case measure => first | exact ap_meas' hjn | exact ap_meas hjn hb2
          case rel => exact ⟨j + 1, hjn, (by first | rfl | exact congrArg (Value.int .i64) (ap_succ hb2)), N1, N2⟩
        · obtain rfl := ap_end hjn hj
          have k3 : decide ((j : Int) < (j : Int)) = false := by simp
          go_wp2
          go_roundw
          case measure => first | exact ap_meas' hcl | exact ap_meas hcl hb1
          case rel => exact ⟨c + 1, hcl, (by first | rfl | exact congrArg (Value.int .i64) (ap_succ hb1)), hO.next hv, hT⟩
    · obtain rfl := ap_end hcl hc
      have k3 : decide ((vs.length : Int) < (vs.length : Int)) = false := by simp
      go_wp2_with fail
      go_loopw [5] (fun i wr => ∃ c : Nat, c ≤ vs.length ∧ i = .int .i64 c ∧ ApOk wr B 3 vs mk64 vs.length 0 ∧ Turn (ApH vs) w wr) (fun i _ => vs.length - (intOf i).toNat)
      case atStart => exact ⟨0, Nat.zero_le _, rfl, hO, hT⟩
      case round =>
        clear hO hT
        obtain ⟨c, hc, rfl, hO, hT⟩ := hrel
        by_cases hcl : c < vs.length
        · obtain ⟨k1, k2⟩ := ap_lt hcl
          have hb1 := ap_bd hcl h63
          obtain ⟨v, hv⟩ : ∃ v, vs[c]? = some v := ⟨_, List.getElem?_eq_getElem hcl⟩
          have hM := hO.more (S := w.heap.size) hcl hv
          obtain ⟨gl, ol, rfl, q1, hgl⟩ := hl.turn hT c _ hv
          go_wp2_with fail
          go_loopw [6, 7] (fun m i wr => ∃ k : Nat, k ≤ 40 ∧ i = .int .i64 k ∧ ApMore wr w.heap.size B 3 vs mk64 c m k ∧ ApOk wr B 3 vs mk64 vs.length 0 ∧ Turn (ApH vs) w wr) (fun _ i _ => 40 - (intOf i).toNat)
          case atStart => exact ⟨0, Nat.zero_le _, rfl, hM, hO, hT⟩
          case round =>
            clear hO hT hM
            obtain ⟨k, hk, rfl, hM, hO, hT⟩ := hrel
            by_cases hk4 : k < 40
            · obtain ⟨a, n, cc, hv', hn, ys, hown, hys, hwh⟩ := hM
              have k3 : decide ((k : Int) < 40) = true := by simp; omega
              have hb2 : (k : Int) + 1 ≤ 9223372036854775807 := by omega
              have hm40 : n + k + 1 ≤ 5000 := by omega
              have hsz := hT.size
              have hBw : B ≤ wr.heap.size := Nat.le_trans hB hsz
              go_wp2_with (at_builtin; refine apP (us := [.int .i64 (-1)]) (m := 1) hown (by decide) (by decide) rfl rfl rfl (by intro u hu; simp at hu; subst hu; rfl) (by omega) (by omega) hBw ?_; intro v2 w2 hown2 hgr2)
              have hst := ApMore.step hO hs hsz hlt hv' hn hown hys hwh hown2 hgr2
              have hT2 := hT.apart hst.2.2
              go_roundw
              case measure => first | exact ap_meas' hk4 | exact ap_meas hk4 hb2
              case rel => exact ⟨k + 1, hk4, (by first | rfl | exact congrArg (Value.int .i64) (ap_succ hb2)), hst.1, hst.2.1, hT2⟩
            · obtain rfl := ap_end hk4 hk
              go_wp2
              go_roundw
              case measure => first | exact ap_meas' hcl | exact ap_meas hcl hb1
              case rel => exact ⟨c + 1, hcl, (by first | rfl | exact congrArg (Value.int .i64) (ap_succ hb1)), hO, hT⟩
        · obtain rfl := ap_end hcl hc
          go_wp2_with fail
          go_loopw [8] (fun i wr => ∃ c : Nat, c ≤ vs.length ∧ i = .int .i64 c ∧ ApOk wr B 3 vs mk64 vs.length 0 ∧ Turn (ApH vs) w wr) (fun i _ => vs.length - (intOf i).toNat)
          case atStart => exact ⟨0, Nat.zero_le _, rfl, hO, hT⟩
          case round =>
            clear hO hT
            obtain ⟨c, hc, rfl, hO, hT⟩ := hrel
            by_cases hcl : c < vs.length
            · obtain ⟨k1, k2⟩ := ap_lt hcl
              have hb1 := ap_bd hcl h63
              obtain ⟨v, hv⟩ : ∃ v, vs[c]? = some v := ⟨_, List.getElem?_eq_getElem hcl⟩
              obtain ⟨a, n, cc, rfl, hn, _⟩ := hO.at_ hv
              go_wp2_with fail
              go_loopw [9] (fun i wr => ∃ j : Nat, j ≤ n ∧ i = .int .i64 j ∧ ApOk wr B 3 vs mk64 vs.length 0 ∧ Turn (ApH vs) w wr) (fun i _ => n - (intOf i).toNat)
              case atStart => exact ⟨0, Nat.zero_le _, rfl, hO, hT⟩
              case round =>
                clear hO hT
                obtain ⟨j, hj, rfl, hO, hT⟩ := hrel
                obtain ⟨gl, ol, rfl, q1, hgl⟩ := hl.turn hT c _ hv
                by_cases hjn : j < n
                · obtain ⟨a', n', c', he, _, hat⟩ := hO.at_ hv
                  obtain ⟨rfl, rfl, rfl⟩ : a = a' ∧ n = n' ∧ cc = c' := by simpa using he
                  obtain ⟨g, u, rfl, q2, q3, hu⟩ := hat j hjn
                  obtain rfl := hu (.inl hcl)
                  clear hat he hu
                  obtain ⟨k3, k4⟩ := ap_lt hjn
                  have hb2 := ap_bd hjn (Int.le_trans (Int.ofNat_le.2 hn) (by decide))
                  have N1 := hO
                  have N2 := hT
                  unfold mk64 at q2
                  go_wp2
                  go_roundw
                  case measure => first | exact ap_meas' hjn | exact ap_meas hjn hb2
                  case rel => exact ⟨j + 1, hjn, (by first | rfl | exact congrArg (Value.int .i64) (ap_succ hb2)), N1, N2⟩
                · obtain rfl := ap_end hjn hj
                  have k3 : decide ((j : Int) < (j : Int)) = false := by simp
                  go_wp2
                  go_roundw
                  case measure => first | exact ap_meas' hcl | exact ap_meas hcl hb1
                  case rel => exact ⟨c + 1, hcl, (by first | rfl | exact congrArg (Value.int .i64) (ap_succ hb1)), hO, hT⟩
            · obtain rfl := ap_end hcl hc
              go_wp2
              go_ret
              exact ⟨rfl, hT⟩
end Go.Proofs.Ytiiljecocajdpaa
