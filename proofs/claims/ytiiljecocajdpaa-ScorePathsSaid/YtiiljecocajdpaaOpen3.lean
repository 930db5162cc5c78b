/- A row of bytes that came in, and how long it may be in the forms' own reach. -/
import Derived.Test.YtiiljecocajdpaaOpen2
namespace Go.Proofs.Ytiiljecocajdpaa
open Go.RowKit Go.ChangeShapes Go.WideShapes Go.ChangeAt

set_option maxRecDepth 10000 in
theorem open_bytesZ {H : Type} {enc : TypeId × Value → H} {w : World} {base : Nat} {sp : Nat → Bool} {held : Bool} {r : Reach} {b0 : Nat} {v : Value} {d : DataW H} {ps : List MemPlace}
    (hval : Value.okWide Try.prog w r b0 30 v) (hd : DataW.Trod enc Try.prog w base sp held 30 v d ps) :
    ∃ (a : Option Addr) (cap : Nat) (l : List Nat), Bytes w a l ∧ v = .slice a l.length cap ∧ ((∀ n ∈ d.weights Try.prog 30, n ≤ reachBytes) → l.length ≤ 140737488351232) := by
  obtain ⟨a, len, cap, rfl⟩ := okWide_slice Try.underlying30 hval
  obtain ⟨fuel, hf⟩ := hd
  obtain ⟨a', cap', l, hc, hb, hn, hx⟩ := open_bytes Try.underlying30 Try.underlying5 (by kernel_rfl) hf
  have h : Value.slice a len cap = .slice a' l.length cap' := by simpa [Value.cells] using hc
  refine ⟨a', cap', l, hb, h, fun hw => ?_⟩
  rcases hx with rfl | ⟨el, sp', hx, hl⟩
  · simp
  · have h1 := hw ((el.length + sp'.length) * Try.prog.bytesOf 5) (by
      have hx' : d = .slice el sp' := hx
      rw [hx']
      simp only [DataW.weights, Try.underlying30]
      exact List.mem_cons_self ..)
    rw [show Try.prog.bytesOf 5 = 1 by kernel_rfl] at h1
    simp only [reachBytes] at h1
    omega
end Go.Proofs.Ytiiljecocajdpaa
