/- The walk of the comparison of two rows of numbers. -/
import Derived.Test.YtiiljecocajdpaaApart
namespace Go.Proofs.Ytiiljecocajdpaa
open Go.RowKit

def Ints (w : World) (a : Option Addr) (l : List Int) : Prop := ∀ (k : Nat) (x : Int), l[k]? = some x → ∃ b o, a = some ⟨b, o, none⟩ ∧ w.cell? ⟨b, o + k, none⟩ = some (.int .i64 x)
theorem Ints.kept {w w' : World} {a : Option Addr} {l : List Int} (h : Ints w a l) (hB : Below w.heap.size w w') : Ints w' a l := fun k x hk => by
  obtain ⟨b, o, ha, hc⟩ := h k x hk
  exact ⟨b, o, ha, (hB.cell (lt_of_cell hc)).trans hc⟩
theorem Ints.nil (w : World) (a : Option Addr) : Ints w a [] := fun k x hk => by simp at hk
set_option maxRecDepth 5000 in
theorem law01_SameInts (a1 a2 : Option Addr) (l m : List Int) (c1 c2 : Nat) (hn : (l.length : Int) ≤ 9223372036854775807) (w : World) (h1 : Ints w a1 l) (h2 : Ints w a2 m) :
    Pure Try.prog 47 #[.slice a1 l.length c1, .slice a2 m.length c2] w (.bool (l == m)) := by
  go_enter Try.func47, Try.ntmps47
  by_cases hl : l.length = m.length
  · have HL := Lib.hid hl
    have hl3 : ((l.length : Int) != m.length) = false := by simp [hl]
    clear hl
    go_wp2_with fail
    go_loopw [5] (fun i wr => ∃ k : Nat, k ≤ l.length ∧ i = .int .i64 k ∧ Hid (∀ j, j < k → l[j]? = m[j]?) ∧ Below w.heap.size w wr) (fun i _ => l.length - (intOf i).toNat)
    case atStart => exact ⟨0, Nat.zero_le _, rfl, Lib.hid (fun j h => by omega), Below.refl _ _⟩
    case round =>
      obtain ⟨k, hk, rfl, hall, B⟩ := hrel
      by_cases hkl : k < l.length
      · have hkm : k < m.length := HL.out ▸ hkl
        obtain ⟨k1, k2⟩ := ap_lt hkl
        obtain ⟨k3, k4⟩ := ap_lt hkm
        have hb := ap_bd hkl hn
        obtain ⟨x, hx⟩ : ∃ x, l[k]? = some x := ⟨_, List.getElem?_eq_getElem hkl⟩
        obtain ⟨y, hy⟩ : ∃ y, m[k]? = some y := ⟨_, List.getElem?_eq_getElem hkm⟩
        obtain ⟨b1, o1, rfl, e1⟩ := h1.kept B k x hx
        obtain ⟨b2, o2, rfl, e2⟩ := h2.kept B k y hy
        have q1 := KeptW.cell e1
        have q2 := KeptW.cell e2
        have HX := Lib.hid hx
        have HY := Lib.hid hy
        clear hx hy
        by_cases hs : x = y
        · subst hs
          go_upto_region 6 with (fail)
          refine wp_region_kept (by kernel_rfl) (by kernel_rfl) ?_
          repeat first
            | go_big_quiet_step (fail)
          refine wpQuiet_nil ?_
          intro w3 B3
          have B30 := B.trans (B3.mono B.size)
          go_wp2
          go_roundw
          case measure => first | exact ap_meas' hkl | exact ap_meas hkl hb
          case rel =>
            refine ⟨k + 1, hkl, by first | rfl | exact congrArg (Value.int .i64) (ap_succ hb), Lib.hid (fun j hj => ?_), B30⟩
            by_cases hjk : j = k
            · subst hjk; rw [HX.out, HY.out]
            · exact hall.out j (by omega)
        · have hne : (x != y) = true := by simpa using hs
          have hz := Lib.hid (show (l == m) = false by
            rw [beq_eq_false_iff_ne]
            rintro rfl
            have h1 := HX.out
            rw [HY.out] at h1
            exact hs (Option.some.inj h1).symm)
          go_upto_region 6 with (fail)
          refine wp_region_kept (by kernel_rfl) (by kernel_rfl) ?_
          repeat first
            | go_big_quiet_step (fail)
          refine wpQuiet_nil ?_
          intro w3 B3
          have B30 := B.trans (B3.mono B.size)
          go_wp2
          go_ret
          exact ⟨by rw [hz.out]; rfl, B30⟩
      · obtain rfl := ap_end hkl hk
        have hz := Lib.hid (show (l == m) = true by
          rw [beq_iff_eq]
          apply List.ext_getElem?
          intro j
          rcases Nat.lt_or_ge j l.length with h | h
          · exact hall.out j h
          · rw [List.getElem?_eq_none h, List.getElem?_eq_none (HL.out ▸ h)])
        have k3 : decide ((l.length : Int) < (l.length : Int)) = false := by simp
        go_wp2
        go_ret
        exact ⟨by rw [hz.out]; rfl, B⟩
  · have hl3 : ((l.length : Int) != m.length) = true := by simp; omega
    have hz := Lib.hid (show (l == m) = false by
      rw [beq_eq_false_iff_ne]
      rintro rfl
      exact hl rfl)
    clear hl
    go_wp2
    go_ret
    exact ⟨by rw [hz.out]; rfl, Below.refl _ _⟩
end Go.Proofs.Ytiiljecocajdpaa
