/- The walk of the spoiling of a row that was lent. -/
import Derived.Test.YtiiljecocajdpaaCount
import Derived.Test.YtiiljecocajdpaaLaw01
namespace Go.Proofs.Ytiiljecocajdpaa
open Go.RowKit

/-- A row of n bytes at the head of a block. -/
def Row8 (w : World) (g n : Nat) : Prop := ∃ cs, Box w g cs ∧ ∀ j, j < n → ∃ u : Int, cs[j]? = some (.int .u8 u)
theorem Row8.kept {w w' : World} {g n : Nat} (h : Row8 w g n) (hB : Below w.heap.size w w') : Row8 w' g n := by
  obtain ⟨cs, hb, hc⟩ := h
  exact ⟨cs, hb.kept hB, hc⟩
theorem Row8.set {w : World} {g n j : Nat} (h : Row8 w g n) (u : Int) : Row8 (w.setCell ⟨g, j, none⟩ (.int .u8 u)) g n := by
  obtain ⟨cs, hb, hc⟩ := h
  refine ⟨_, hb.setCell _, fun k hk => ?_⟩
  by_cases hkj : k = j
  · subst hkj
    obtain ⟨u', hu'⟩ := hc k hk
    have hlt := (Array.getElem?_eq_some_iff.1 hu').1
    exact ⟨u, by simp [Array.getElem?_setIfInBounds, hlt]⟩
  · rw [Array.getElem?_setIfInBounds_ne (Ne.symm hkj)]
    exact hc k hk
theorem Row8.at_ {w : World} {g n j : Nat} (h : Row8 w g n) (hj : j < n) : (∃ u : Int, w.cell? ⟨g, j, none⟩ = some (.int .u8 u)) ∧ w.frozen? ⟨g, j, none⟩ = false := by
  obtain ⟨cs, hb, hc⟩ := h
  obtain ⟨u, hu⟩ := hc j hj
  exact ⟨⟨u, (hb.cell j).trans hu⟩, hb.frozen j⟩
theorem law01_Spoil (g n c : Nat) (hn : (n : Int) ≤ 9223372036854775807) (w : World) (hr : Row8 w g n) :
    Calls Try.prog 34 #[.slice (some ⟨g, 0, none⟩) n c] w fun e w' => e = .returned (.tuple #[]) ∧ But g w w' := by
  go_enter Try.func34, Try.ntmps34
  go_wp2_with fail
  go_loopw [2] (fun i wr => ∃ k : Nat, k ≤ n ∧ i = .int .i64 k ∧ Row8 wr g n ∧ But g w wr) (fun i _ => n - (intOf i).toNat)
  case atStart => exact ⟨0, by omega, rfl, hr, But.refl _ _⟩
  case round =>
    obtain ⟨k, hk, rfl, hR, hB⟩ := hrel
    by_cases hkl : k < n
    · obtain ⟨⟨u, hu⟩, hz⟩ := hR.at_ hkl
      have hk2 : decide ((k : Int) < n) = true := by simp; omega
      have hk3 : (k : Int) < n := by omega
      have hset := fun v => hR.set (j := k) v
      have hb2 := fun v => hB.trans (But.setCell wr ⟨g, k, none⟩ (.int .u8 v))
      go_wp2
      go_roundw
      case measure => simp only [intOf]; omega
      case rel => exact ⟨k + 1, by omega, by go_num, hset _, hb2 _⟩
    · go_wp2
      refine bodyPost_end (results_nil rfl) rfl ?_
      exact ⟨rfl, hB⟩
/-- What was lent, as a row. -/
theorem Lend.row {w : World} {B : Nat} {v : Value} {l : List Nat} (h : Lend w B v l) : ∃ g c, v = .slice (some ⟨g, 0, none⟩) l.length c ∧ Row8 w g l.length ∧ B ≤ g := by
  obtain ⟨g, c, hv, hc, ho⟩ := h
  have hl := ho.1
  rcases ho.2 with ⟨h, _⟩ | ⟨g', cap, cur, h1, h2, h3, h4, h5, h6, h7⟩
  · cases h
  obtain ⟨rfl, rfl⟩ : g = g' ∧ c = cap := by simpa using h1
  refine ⟨g, c, hv, ⟨cur, ⟨_, h3⟩, fun j hj => ?_⟩, h2⟩
  have e1 : cur[j]? = (u8s (l ++ marks8))[j]? := by
    rw [← h7, Nat.mul_one, List.getElem?_take, if_pos (by omega), Array.getElem?_toList]
  have hj2 : j < (l ++ marks8).length := by rw [List.length_append]; omega
  exact ⟨_, e1.trans (u8s_get hj2)⟩
end Go.Proofs.Ytiiljecocajdpaa
