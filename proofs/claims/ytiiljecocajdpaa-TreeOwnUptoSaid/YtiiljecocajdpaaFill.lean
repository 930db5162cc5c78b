/- A struct of one field, built of that field's value. No program's text is named here. -/
import Derived.Test.YtiiljecocajdpaaMore
import Derived.Laws.Tables
namespace Go.Proofs.Ytiiljecocajdpaa
open Go.RowKit

theorem fold_set : ∀ (l : List Value) (k : Nat) (zs : Array Value) (i : Nat), k + l.length ≤ zs.size → ((l.zipIdx k).foldl (fun cs x => cs.setIfInBounds (0 + x.2) x.1) zs)[i]? = if k ≤ i ∧ i < k + l.length then l[i - k]? else zs[i]?
  | [], k, zs, i, _ => by simp; omega
  | v :: l, k, zs, i, h => by
    simp only [List.length_cons] at h
    rw [List.zipIdx_cons, List.foldl_cons, fold_set l (k + 1) _ i (by simp; omega)]
    simp only [List.length_cons, Nat.zero_add]
    by_cases h1 : i = k
    · subst h1
      rw [if_neg (by omega), if_pos (by omega)]
      simp [Array.getElem?_setIfInBounds]
      omega
    · by_cases h2 : k + 1 ≤ i ∧ i < k + 1 + l.length
      · rw [if_pos h2, if_pos (by omega), show i - k = (i - (k + 1)) + 1 by omega, List.getElem?_cons_succ]
      · rw [if_neg h2, if_neg (by omega), Array.getElem?_setIfInBounds_ne (Ne.symm h1)]
theorem fill_one {cs zs : Array Value} (h : cs.size = zs.size) : cs.zipIdx.foldl (fun cs (x : Value × Nat) => cs.setIfInBounds (0 + x.2) x.1) zs = cs := by
  rw [← Array.foldl_toList, Array.toList_zipIdx]
  apply Array.ext_getElem?
  intro i
  rw [fold_set cs.toList 0 zs i (by simp [h])]
  split
  · simp
  · rw [Array.getElem?_eq_none (by simp at *; omega), Array.getElem?_eq_none (by simp at *; omega)]
theorem run_build_one {P : Program} {t : TypeId} {f : Field} {n : Nat} {z : Value} (hu : P.underlying t = some (.struct #[f])) (hf : f.offset = 0) (hi : (P.info? t).map (·.zero) = some (some z)) (hz : z.cells.size = n) (hs : (P.info? f.type).map (·.size) = some n) {cs : Array Value} (hc : cs.size = n) (w : World) :
    (Instr.build t #[(0, .agg cs)]).run P w = .ok (.agg cs) w := by
  refine run_build w t _ cs ?_
  unfold Program.built
  cases h1 : P.info? t with
  | none => simp [h1] at hi
  | some it =>
    cases h2 : P.info? f.type with
    | none => simp [h2] at hs
    | some jt =>
      have hz' : it.zero = some z := by simpa [h1] using hi
      have hs' : jt.size = n := by simpa [h2] using hs
      simp only [hu, hz']
      simp only [List.mapM_cons, List.mapM_nil, h2, Option.map_some, hf, hs']
      have := fill_one (cs := cs) (zs := z.cells) (by rw [hc, hz])
      show Instr.fill _ z.cells [(0, .agg cs)] = some cs
      have hvc : (Value.agg cs).cells.size = n := hc
      unfold Instr.fill
      simp only [List.getElem?_toArray, List.getElem?_cons_zero]
      split
      · rename_i hbad
        exfalso
        rcases (by simpa using hbad : (Value.agg cs).cells.size ≠ n ∨ _) with h | h
        · exact h hvc
        · omega
      · unfold Instr.fill
        exact congrArg some this
end Go.Proofs.Ytiiljecocajdpaa
