/- Two lists of nodes compared; the root of a tree; the number of an answer. -/
import Derived.Test.YtiiljecocajdpaaKids4
import Derived.Laws.StructEq
namespace Go.Proofs.Ytiiljecocajdpaa
open Go.RowKit

def Nd.same (a b : Nd) : Bool := a.s == b.s && (a.d == b.d && a.m == b.m)
theorem Nd.same_iff {a b : Nd} : a.same b = true ↔ a = b := by cases a; cases b; simp [Nd.same]
theorem eqNode (a b : Nd) (w : World) : (Op.equalIn 10000 34 (.agg a.cells) (.agg b.cells)).run Try.prog w = .ok (a.same b) w := by
  have u3 := Try.underlying3
  have u22 := Try.underlying22
  have a3 := fun w => run_isCell (P := Try.prog) (t := 3) (by infer_instance) w
  have z3 := fun w => run_sizeCell (P := Try.prog) (t := 3) (by infer_instance) w
  have a22 := fun w => run_isCell (P := Try.prog) (t := 22) (by infer_instance) w
  have z22 := fun w => run_sizeCell (P := Try.prog) (t := 22) (by infer_instance) w
  have hS : Try.prog.underlying 34 = some (.struct (Try.prog.fieldsOf 34)) := by kernel_rfl
  rw [show (10000 : Nat) = 9999 + 1 from rfl, run_equalIn_agg w 9999 34 _ _ hS (by kernel_rfl)]
  simp only [Program.fieldsOf, Try.underlying34, Nd.cells, nodeCells]
  go_simp
  unfold Nd.same
  by_cases h1 : a.s = b.s <;> by_cases h2 : a.d = b.d <;> by_cases h3 : a.m = b.m <;> simp [h1, h2, h3]
theorem neqNode (a b : Nd) (w : World) : (binOp .neq 34 (.agg a.cells) (.agg b.cells)).run Try.prog w = .ok (.bool (!a.same b)) w := by
  rw [run_neq_struct, eqNode]; rfl
theorem eqlNode (a b : Nd) (w : World) : (binOp .eql 34 (.agg a.cells) (.agg b.cells)).run Try.prog w = .ok (.bool (a.same b)) w := by
  rw [run_eql_struct, eqNode]; rfl

/-- Nodes in memory. -/
def Nodes (w : World) (a : Option Addr) (l : List Nd) : Prop := ∀ k (h : k < l.length), ∃ b o, a = some ⟨b, o, none⟩ ∧ loadAgg w b (o + k * 3) 3 = .ok (.agg (l[k]).cells) w
theorem Nodes.kept {w w' : World} {a : Option Addr} {l : List Nd} (h : Nodes w a l) (hB : Below w.heap.size w w') : Nodes w' a l := fun k hk => by
  obtain ⟨b, o, h1, h2⟩ := h k hk
  exact ⟨b, o, h1, Below.loadAgg hB (lt_of_loadAgg h2) h2⟩
theorem Nodes.nil (w : World) : Nodes w none [] := fun k hk => by simp at hk
def sameNds : List Nd → List Nd → Bool
  | [], [] => true
  | a :: l, b :: m => a.same b && sameNds l m
  | _, _ => false
theorem sameNds_iff : ∀ {l m : List Nd}, sameNds l m = true ↔ l = m
  | [], [] => by simp [sameNds]
  | [], _ :: _ => by simp [sameNds]
  | _ :: _, [] => by simp [sameNds]
  | a :: l, b :: m => by simp [sameNds, Nd.same_iff, sameNds_iff]
theorem sameNds_len {l m : List Nd} (h : l.length ≠ m.length) : sameNds l m = false := by
  cases hs : sameNds l m with
  | false => rfl
  | true => rw [sameNds_iff] at hs; subst hs; exact absurd rfl h
theorem sameNds_ne {l m : List Nd} (k : Nat) (h1 : k < l.length) (h2 : k < m.length) (h : (l[k]).same m[k] = false) : sameNds l m = false := by
  cases hs : sameNds l m with
  | false => rfl
  | true => rw [sameNds_iff] at hs; subst hs; rw [Nd.same_iff.2 rfl] at h; cases h
theorem sameNds_all {l m : List Nd} (hl : l.length = m.length) (h : ∀ k (h1 : k < l.length) (h2 : k < m.length), (l[k]).same m[k] = true) : sameNds l m = true := by
  rw [sameNds_iff]
  exact List.ext_getElem hl fun k h1 h2 => Nd.same_iff.1 (h k h1 h2)

theorem law01_SameNodes (a1 a2 : Option Addr) (l m : List Nd) (c1 c2 : Nat) (hn : l.length ≤ 9223372036854775807) (w : World) (h1 : Nodes w a1 l) (h2 : Nodes w a2 m) :
    Pure Try.prog 22 #[.slice a1 l.length c1, .slice a2 m.length c2] w (.bool (sameNds l m)) := by
  go_enter Try.func22, Try.ntmps22
  by_cases hl : l.length = m.length
  · have HL := Lib.hid hl
    have hl3 : ((l.length : Int) != m.length) = false := by simp [hl]
    clear hl
    go_wp2_with fail
    go_loopw [5] (fun i wr => ∃ k : Nat, k ≤ l.length ∧ i = .int .i64 k ∧ Hid (∀ j (g1 : j < l.length) (g2 : j < m.length), j < k → (l[j]).same m[j] = true) ∧ Below w.heap.size w wr) (fun i _ => l.length - (intOf i).toNat)
    case atStart => exact ⟨0, by omega, rfl, Lib.hid (fun j _ _ h => by omega), Below.refl _ _⟩
    case round =>
      obtain ⟨k, hk, rfl, hall, B⟩ := hrel
      by_cases hkl : k < l.length
      · have hkm : k < m.length := HL.out ▸ hkl
        obtain ⟨b1, o1, rfl, e1⟩ := h1.kept B k hkl
        obtain ⟨b2, o2, rfl, e2⟩ := h2.kept B k hkm
        have hk2 : decide ((k : Int) < l.length) = true := by simp; omega
        have hk3 : (k : Int) < l.length := by omega
        have hk4 : (k : Int) < m.length := by omega
        have hne := neqNode l[k] m[k]
        by_cases hs : (l[k]).same m[k] = true
        · rw [hs] at hne
          simp only [Bool.not_true] at hne
          have HS := Lib.hid hs
          clear hs
          go_wp2_with fail
          refine wp_region_kept (by kernel_rfl) (by kernel_rfl) ?_
          repeat first
            | ((with_reducible apply q_ld); rfl; (with_reducible assumption); (simp only [List.set_cons_zero, List.set_cons_succ]; rfl))
            | go_big_quiet_step (fail)
          refine wpQuiet_nil ?_
          intro w3 B3
          have B30 := B.trans (B3.mono B.size)
          go_wp2
          go_round
          case measure => simp only [intOf]; omega
          case rel =>
            refine ⟨k + 1, by omega, by go_num, Lib.hid (fun j g1 g2 hj => ?_), B30⟩
            by_cases hjk : j = k
            · subst hjk; exact HS.out
            · exact hall.out j g1 g2 (by omega)
        · have hs : (l[k]).same m[k] = false := by simpa using hs
          have hz := Lib.hid (sameNds_ne k hkl hkm hs)
          rw [hs] at hne
          simp only [Bool.not_false] at hne
          clear hs
          go_wp2_with fail
          refine wp_region_kept (by kernel_rfl) (by kernel_rfl) ?_
          repeat first
            | ((with_reducible apply q_ld); rfl; (with_reducible assumption); (simp only [List.set_cons_zero, List.set_cons_succ]; rfl))
            | go_big_quiet_step (fail)
          refine wpQuiet_nil ?_
          intro w3 B3
          have B30 := B.trans (B3.mono B.size)
          go_wp2
          go_ret
          exact ⟨by rw [hz.out]; rfl, B30⟩
      · obtain rfl : k = l.length := by omega
        have hz := Lib.hid (sameNds_all HL.out fun j g1 g2 => hall.out j g1 g2 g1)
        go_wp2
        go_ret
        exact ⟨by rw [hz.out]; rfl, B⟩
  · have hl3 : ((l.length : Int) != m.length) = true := by simp; omega
    have hz := Lib.hid (sameNds_len hl)
    clear hl
    go_wp2
    go_ret
    exact ⟨by rw [hz.out]; rfl, Below.refl _ _⟩

theorem tree_Root (v : Value) (w : World) : Pure Try.prog 24 #[v] w (.agg (Nd.mk 0 0 0).cells) := by
  go_enter Try.func24, Try.ntmps24
  have b2 := Box.new w #[.int .u32 0, .int .i64 0, .int .i64 0] 34
  go_wp2_with (first | ((with_reducible apply ld); rfl; (with_reducible assumption); (simp only [List.set_cons_zero, List.set_cons_succ]; rfl)) | ((with_reducible apply stO); rfl; rfl; (with_reducible assumption); rfl; rfl; exact nodeCells_flat 0 0 0; intro w2 hb5 B2 ho2 hs2))
  refine bodyPost_ret (results_cellAgg rfl rfl (hb5.load (off := 0) (n := 3) (cs' := nodeCells 0 0 0) (Nat.le_refl _) rfl)) rfl ?_
  exact ⟨rfl, ((Below.refl _ w).alloc (Nat.le_refl _) _).trans (B2.mono (by simp))⟩
theorem law15_num (e : Int) (w : World) : Pure Try.prog 18 #[.int .i64 e] w (.int .i64 e) := by
  go_enter Try.func18, Try.ntmps18
  go_wp2
  go_ret
  exact ⟨rfl, Below.refl _ _⟩
end Go.Proofs.Ytiiljecocajdpaa
