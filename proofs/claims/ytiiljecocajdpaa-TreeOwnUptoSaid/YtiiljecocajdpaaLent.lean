/- The walks of the copies that are lent. -/
import Derived.Test.YtiiljecocajdpaaElems
namespace Go.Proofs.Ytiiljecocajdpaa
open Go.RowKit

def u8s (l : List Nat) : List Value := l.map fun b => Value.int .u8 (b : Nat)
theorem u8s_len (l : List Nat) : (u8s l).length = l.length := by simp [u8s]
def marks8 : List Nat := [200, 201, 202, 203, 204, 205, 206, 207]
theorem own_form {w : World} {base e size n k : Nat} {v : Value} {xs : List Value} (h : w.ownsRow base e size v n xs) (hk : v.ownBlock = some k) : ∃ c, v = .slice (some ⟨k, 0, none⟩) n c ∧ n ≤ c := by
  rcases h.2 with ⟨rfl, _⟩ | ⟨g, cap, cur, rfl, hb, hg, hnc, _⟩
  · cases hk
  · obtain rfl : g = k := by simpa [Value.ownBlock] using hk
    exact ⟨cap, rfl, hnc⟩
/-- A lent copy: its memory holds the bytes and eight marks behind them. -/
def Lend (w : World) (B : Nat) (v : Value) (l : List Nat) : Prop :=
  ∃ g c, v = .slice (some ⟨g, 0, none⟩) l.length c ∧ l.length + 8 ≤ c ∧ w.ownsRow B 5 1 (.slice (some ⟨g, 0, none⟩) (l.length + 8) c) (l.length + 8) (u8s (l ++ marks8))
theorem marks_take {k : Nat} (h : k < 8) : marks8.take (k + 1) = marks8.take k ++ [200 + k] := by
  match k, h with
  | 0, _ => rfl
  | 1, _ => rfl
  | 2, _ => rfl
  | 3, _ => rfl
  | 4, _ => rfl
  | 5, _ => rfl
  | 6, _ => rfl
  | 7, _ => rfl
theorem lent_step {l : List Nat} {k : Nat} (h : k < 8) : u8s (l ++ marks8.take k) ++ [Value.int .u8 ((200 + k : Nat) : Int)] = u8s (l ++ marks8.take (k + 1)) := by
  rw [marks_take h]
  simp [u8s]
theorem lent_byte {k : Nat} (h : k < 8) : ((200 + k : Nat) : Int) = (200 + (k : Int)) % 256 := by omega

set_option maxHeartbeats 400000 in
theorem law01_Lent (a : Option Addr) (l : List Nat) (cap : Nat) (hn : l.length ≤ 140737488351232) (w : World) (hb : Bytes w a l) :
    Calls Try.prog 66 #[.slice a l.length cap] w fun e w' => ∃ v, e = .returned v ∧ Lend w' w.heap.size v l ∧ Below w.heap.size w w' := by
  have hb1 := fun o => hb.below ((Below.refl w.heap.size w).alloc (Nat.le_refl _) o) (Nat.le_refl _)
  have hown := World.ownsRow_made (base := w.heap.size) (size := 1) (e := 5) w #[] 0 (Nat.le_refl _) (by decide) rfl
  go_enter Try.func66, Try.ntmps66
  go_wp2_with (at_builtin; refine apB hown (hb1 _) rfl rfl rfl (by omega) (by simp) ?_; intro v1 w1 hown1 hgr1 hat1)
  obtain ⟨c1, g1, rfl, hc1⟩ : ∃ c g, v1 = .slice (some ⟨g, 0, none⟩) l.length c ∧ l.length ≤ c := by
    rcases hat1 with h | h
    · obtain ⟨c, h1, h2⟩ := own_form hown1 h
      exact ⟨c, _, by simpa using h1, by omega⟩
    · obtain ⟨c, h1, h2⟩ := own_form hown1 h
      exact ⟨c, _, by simpa using h1, by omega⟩
  have B1 : Below w.heap.size w w1 := ((Below.refl _ _).alloc (Nat.le_refl _) _).trans (own_below hown hgr1 (by simp))
  have HO : Hid (w1.ownsRow w.heap.size 5 1 (.slice (some ⟨g1, 0, none⟩) (l.length + 0) c1) (l.length + 0) (u8s (l ++ marks8.take 0))) := by
    show World.ownsRow _ _ _ _ _ _ _
    simpa [u8s] using hown1
  clear hown1 hgr1 hat1 hown hb1
  go_loopw [3, 4] (fun v i wr => ∃ k g c : Nat, k ≤ 8 ∧ i = .int .i64 k ∧ v = .slice (some ⟨g, 0, none⟩) (l.length + k) c ∧ Hid (wr.ownsRow w.heap.size 5 1 (.slice (some ⟨g, 0, none⟩) (l.length + k) c) (l.length + k) (u8s (l ++ marks8.take k))) ∧ Below w.heap.size w wr) (fun _ i _ => 8 - (intOf i).toNat)
  case atStart => exact ⟨0, g1, c1, by omega, rfl, rfl, HO, B1⟩
  case round =>
    clear HO B1 hc1
    obtain ⟨k, g, c, hk, rfl, rfl, HO, B1⟩ := hrel
    by_cases hkl : k < 8
    · have hk2 : decide ((k : Int) < 8) = true := by simp; omega
      have hcv : (200 + (k : Int)) % 256 = 200 + k := by omega
      have hsz := B1.size
      go_wp2_with (at_builtin; refine ap (us := [.int .u8 (200 + (k : Int))]) (m := 1) HO.out (by decide) rfl rfl rfl (by intro u hu; simp at hu; subst hu; rfl) (by omega) (by omega) (by omega) ?_; intro v2 w2 hown2 hgr2 hat2)
      obtain ⟨c2, g2, rfl⟩ : ∃ c g, v2 = .slice (some ⟨g, 0, none⟩) (l.length + k + 1) c := by
        rcases hat2 with h | h
        · obtain ⟨c, h1, _⟩ := own_form hown2 h
          exact ⟨c, _, h1⟩
        · obtain ⟨c, h1, _⟩ := own_form hown2 h
          exact ⟨c, _, h1⟩
      have HN := B1.trans (own_below HO.out hgr2 B1.size)
      have h2 := lent_step (l := l) hkl
      go_roundw
      case measure => simp only [intOf]; omega
      case rel => exact ⟨k + 1, g2, c2, by omega, by go_num, rfl, by show World.ownsRow _ _ _ _ _ _ _; rw [← h2]; exact hown2, HN⟩
    · have hk8 : k = 8 := by omega
      have hcc : l.length + k ≤ c := by
        obtain ⟨c', h1, h2⟩ := own_form HO.out rfl
        simp at h1
        omega
      go_wp2
      go_ret
      refine ⟨_, rfl, ⟨g, c, ?_, by omega, ?_⟩, B1⟩
      · rfl
      · subst hk8
        exact HO.out
theorem Lend.below {w w' : World} {B : Nat} {v : Value} {l : List Nat} (h : Lend w B v l) {A : Nat} (hB : Below A w w') (hA : w.heap.size ≤ A) : Lend w' B v l := by
  obtain ⟨g, c, hv, hc, ho⟩ := h
  refine ⟨g, c, hv, hc, ho.1, ?_⟩
  rcases ho.2 with ⟨h, _⟩ | ⟨g', cap, cur, h1, h2, h3, h4⟩
  · cases h
  · exact .inr ⟨g', cap, cur, h1, h2, (hB.block g' (Nat.lt_of_lt_of_le (Array.getElem?_eq_some_iff.1 h3).1 hA)).trans h3, h4⟩
theorem own_cell {w : World} {base e g n c j : Nat} {xs : List Value} {u : Value} (h : w.ownsRow base e 1 (.slice (some ⟨g, 0, none⟩) n c) n xs) (hu : xs[j]? = some u) : w.cell? ⟨g, j, none⟩ = some u := by
  have := h.cells (g := g) rfl j u hu
  have hadd : (⟨g, 0, none⟩ : Addr).add j = ⟨g, j, none⟩ := by unfold Addr.add; split <;> simp_all
  rwa [hadd] at this
theorem u8s_get {l : List Nat} {k : Nat} (h : k < l.length) : (u8s l)[k]? = some (.int .u8 ((l[k] : Nat) : Int)) := by simp [u8s, List.getElem?_eq_getElem h]
theorem marks_get {k : Nat} (h : k < 8) : marks8[k]? = some (200 + k) := by
  match k, h with
  | 0, _ => rfl
  | 1, _ => rfl
  | 2, _ => rfl
  | 3, _ => rfl
  | 4, _ => rfl
  | 5, _ => rfl
  | 6, _ => rfl
  | 7, _ => rfl
/-- What a walk wants of a lent copy. -/
theorem Lend.open {w : World} {B : Nat} {v : Value} {l : List Nat} (h : Lend w B v l) (hl : ∀ x ∈ l, x < 256) :
    ∃ g c, v = .slice (some ⟨g, 0, none⟩) l.length c ∧ l.length + 8 ≤ c ∧ Bytes w (some ⟨g, 0, none⟩) l ∧ B ≤ g ∧ ∀ k, k < 8 → w.cell? ⟨g, l.length + k, none⟩ = some (.int .u8 (200 + (k : Int))) := by
  obtain ⟨g, c, hv, hc, ho⟩ := h
  refine ⟨g, c, hv, hc, ⟨fun k hk => ⟨g, 0, rfl, ?_⟩, hl⟩, (ho.lt g rfl).1, fun k hk => ?_⟩
  · rw [Nat.zero_add, own_cell ho (j := k) (u8s_get (by simp; omega))]
    simp [List.getElem_append_left hk]
  · rw [own_cell ho (j := l.length + k) (u := .int .u8 (200 + (k : Int)))]
    rw [u8s_get (by simp [marks8]; omega)]
    have := marks_get hk
    have h2 : (l ++ marks8)[l.length + k]? = some (200 + k) := by rw [List.getElem?_append_right (by omega)]; simpa using this
    rw [List.getElem?_eq_getElem (by simp [marks8]; omega)] at h2
    injection h2 with h2
    rw [h2]
    simp

set_option maxHeartbeats 400000 in
theorem law01_Stays (a : Option Addr) (l : List Nat) (cap : Nat) (hn : l.length ≤ 140737488351232) (v : Value) (B : Nat) (w : World) (hb : Bytes w a l) (hv : Lend w B v l) :
    Pure Try.prog 31 #[v, .slice a l.length cap] w (.bool true) := by
  obtain ⟨g, c, rfl, hc, hg, _, hm⟩ := hv.open hb.lt
  have hw : wrap64 ((l.length : Int) + 8) = l.length + 8 := by unfold wrap64; omega
  go_enter Try.func31, Try.ntmps31
  go_wp2_with fail
  go_loop [6] (fun i => ∃ k : Nat, k ≤ 8 ∧ i = .int .i64 k) (fun i => 8 - (intOf i).toNat)
  case atStart => exact ⟨0, by omega, rfl⟩
  case round =>
    obtain ⟨k, hk, rfl⟩ := hrel
    by_cases hkl : k < 8
    · have hcell := hm k hkl
      have hk2 : decide ((k : Int) < 8) = true := by simp; omega
      have hk3 : (k : Int) < 8 := by omega
      have hcv : (200 + (k : Int)) % 256 = 200 + k := by omega
      have hwk : wrap64 ((l.length : Int) + k) = l.length + k := by unfold wrap64; omega
      go_wp2
      go_round
      case measure => simp only [intOf]; omega
      case rel => exact ⟨k + 1, by omega, by go_num⟩
    · go_wp2
      refine wp_region_kept (by kernel_rfl) (by kernel_rfl) ?_
      repeat first
        | ((with_reducible apply q_cv); rfl; (with_reducible assumption); rfl; (simp only [List.set_cons_zero, List.set_cons_succ]; rfl))
        | go_big_quiet_step (fail)
      refine wpQuiet_nil ?_
      intro w1 B1
      go_wp2
      go_ret
      refine ⟨?_, B1⟩
      simp
end Go.Proofs.Ytiiljecocajdpaa
