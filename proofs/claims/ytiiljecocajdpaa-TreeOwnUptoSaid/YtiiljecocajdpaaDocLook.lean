/- The walks of the document's Range and Count. -/
import Derived.Test.YtiiljecocajdpaaDocKids
import Derived.Test.YtiiljecocajdpaaCount
namespace Go.Proofs.Ytiiljecocajdpaa
open Go.RowKit

theorem ret_two {a b c d : Int} (h1 : a = c) (h2 : b = d) : Ending.returned (.tuple #[.int .i64 a, .int .i64 b]) = .returned (.tuple #[.int .i64 c, .int .i64 d]) := by rw [h1, h2]
theorem doc_Range (p : Pb) (hp : p.Ok) (h : probChk p = 0) {tb g c : Nat} (w : World) (hT : DocIn w p tb g c) : Pure Try.prog 36 #[.pointer (some ⟨tb, 0, none⟩)] w (.tuple #[.int .i64 (min (p.C.R * p.N * p.T.lo) 0), .int .i64 (max (p.C.R * p.N * p.T.hi) 0)]) := by
  obtain ⟨⟨k1, k2⟩, l1, l2, cr, hwin, ⟨v1, v2⟩, hlev, hcc, htt⟩ := probChk_ok h
  obtain ⟨fk, fr, flev, fl, fwin, fcode, ftable, fall⟩ := hT.tree.prob hp
  clear fk flev fl fwin fcode fall
  have hN : 0 ≤ p.N ∧ p.N ≤ 1055 := by unfold Pb.N; omega
  have HCR := Lib.hid cr
  clear cr hwin
  go_enter Try.func36, Try.ntmps36
  go_wp2_with fail
  refine wp_region_kept (by kernel_rfl) (by kernel_rfl) ?_
  have q1 := KeptW.cell fr
  repeat first
    | ((with_reducible apply q_ld); rfl; (with_reducible assumption); (simp only [List.set_cons_zero, List.set_cons_succ]; rfl))
    | go_big_quiet_skip
    | go_big_quiet_step (first | exact Calls.kept (doc_Steps p hp h _ (hT.kept (Subtype.property _))) | exact Calls.kept (ref10_Range p.T hp.t htt p.C.R HCR.out p.N hN.1 hN.2 _))
  refine wpQuiet_nil ?_
  intro w2 B2
  go_wp2
  all_goals go_ret2
  all_goals refine ⟨ret_two ?_ ?_, B2⟩
  all_goals omega

/-- How many ways begin with the one to a node. -/
def Pb.ways (p : Pb) (dip : Int) : Nat → Nd → Int
  | 0, x => if x.m < dip then 0 else 1
  | f + 1, x => if x.m < dip then 0 else (p.kids x).foldl (fun c k => c + p.ways dip f k) 1
theorem foldl_ge {α : Type} {F : α → Int} : ∀ (l : List α) (v : Int), (∀ k ∈ l, 0 ≤ F k) → v ≤ l.foldl (fun c k => c + F k) v
  | [], v, _ => Int.le_refl _
  | a :: l, v, h => by
    have h1 := h a (by simp)
    have := foldl_ge l (v + F a) (fun k hk => h k (by simp [hk]))
    simp only [List.foldl_cons]
    omega
theorem Pb.ways_nonneg (p : Pb) (dip : Int) : ∀ (f : Nat) (x : Nd), 0 ≤ p.ways dip f x
  | 0, x => by unfold Pb.ways; split <;> omega
  | f + 1, x => by
    unfold Pb.ways
    split
    · omega
    · have := foldl_ge (p.kids x) (F := p.ways dip f) 1 (fun k _ => p.ways_nonneg dip f k)
      omega
/-- What is counted up to a bound. -/
theorem foldl_look {α : Type} {G : α → Int → Int} {F : α → Int} {M : Int} : ∀ (l : List α) (v : Int), (∀ k ∈ l, 0 ≤ F k) → (∀ k ∈ l, ∀ c, c ≤ M → G k c = min M (c + F k)) → v ≤ M → l.foldl (fun c k => G k c) v = min M (l.foldl (fun c k => c + F k) v)
  | [], v, _, _, h => by simp only [List.foldl_nil]; omega
  | a :: l, v, hF, h, hv => by
    simp only [List.foldl_cons]
    rw [h a (by simp) v hv, foldl_look l _ (fun k hk => hF k (by simp [hk])) (fun k hk => h k (by simp [hk])) (by omega)]
    by_cases hc : v + F a ≤ M
    · rw [show min M (v + F a) = v + F a by omega]
    · rw [show min M (v + F a) = M by omega]
      have h1 := foldl_ge l M (F := F) (fun k hk => hF k (by simp [hk]))
      have h2 := foldl_ge l (v + F a) (F := F) (fun k hk => hF k (by simp [hk]))
      omega
theorem Pb.look_eq (p : Pb) (dip M : Int) : ∀ (f : Nat) (x : Nd) (v : Int), v ≤ M → p.look dip M f x v = min M (v + p.ways dip f x)
  | 0, x, v, h => by
    unfold Pb.look Pb.ways
    by_cases h1 : x.m < dip
    · rw [if_pos (.inr h1), if_pos h1]; omega
    · by_cases h2 : M ≤ v
      · rw [if_pos (.inl h2), if_neg h1]; omega
      · rw [if_neg (by omega), if_neg h1]; omega
  | f + 1, x, v, h => by
    unfold Pb.look Pb.ways
    by_cases h1 : x.m < dip
    · rw [if_pos (.inr h1), if_pos h1]; omega
    · rw [if_neg h1]
      have hs : ∀ (l : List Nd) (a b : Int), l.foldl (fun c k => c + p.ways dip f k) (a + b) = a + l.foldl (fun c k => c + p.ways dip f k) b := fun l => by
        induction l with
        | nil => intro a b; rfl
        | cons k l ih => intro a b; simp only [List.foldl_cons]; rw [Int.add_assoc, ih]
      have hg := foldl_ge (p.kids x) 1 (F := p.ways dip f) (fun k _ => p.ways_nonneg dip f k)
      by_cases h2 : M ≤ v
      · rw [if_pos (.inl h2)]; omega
      · rw [if_neg (by omega), foldl_look (p.kids x) (v + 1) (fun k _ => p.ways_nonneg dip f k) (fun k _ c hc => p.look_eq dip M f k c hc) (by omega), hs]
/-- Of the count: what it comes to. -/
theorem Pb.count_eq (p : Pb) (dip most : Int) : p.count dip most = if most < 1 then 0 else min (min most 1048577) (p.ways dip p.N.toNat ⟨0, 0, 0⟩) := by
  unfold Pb.count
  by_cases h : most < 1
  · rw [if_pos h]
    have hm : min most 1048577 ≤ 0 := by omega
    generalize min most 1048577 = M at hm ⊢
    cases p.N.toNat with
    | zero => unfold Pb.look; rw [if_pos (.inl hm)]
    | succ f => unfold Pb.look; rw [if_pos (.inl hm)]
  · rw [if_neg h, p.look_eq _ _ _ _ _ (by omega), Int.zero_add]
end Go.Proofs.Ytiiljecocajdpaa
