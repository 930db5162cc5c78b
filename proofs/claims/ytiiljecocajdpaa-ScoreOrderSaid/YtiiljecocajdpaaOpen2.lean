/- More on arguments that come in: a window's room; bytes. -/
import Derived.Test.YtiiljecocajdpaaOpen
namespace Go.Proofs.Ytiiljecocajdpaa
open Go.WideShapes Go.ChangeShapes Go.ChangeAt Go.RowKit

theorem drop_last {α : Type} {X : List α} {v : α} {n : Nat} (h : (X ++ [v]).length = n + 1) : ((X ++ [v]).drop n).take 1 = [v] := by
  have hX : X.length = n := by simpa using h
  rw [← hX, List.drop_left]
  rfl
theorem open_cap {H : Type} {enc : TypeId × Value → H} {w : World} {base : Nat} {sp : Nat → Bool} {held : Bool} {p : Pb} {a : Option Addr} {len cap : Nat} {d : DataW H} {ps : List MemPlace}
    (hd : DataW.Trod enc Try.prog w base sp held 32 (.agg (p.cells (.slice a len cap))) d ps) : len ≤ cap := by
  obtain ⟨fuel, hf⟩ := hd
  obtain ⟨xs, n, rfl, hx, hl, hxs, hall⟩ := DataW.trod_struct Try.underlying32 hf
  have h40 := hl.trans (show _ = 40 by kernel_rfl)
  have f3 : DataW.trod enc Try.prog w base sp held n 30 (((Value.agg (p.cells (.slice a len cap))).cells.toList.drop 39).take (Try.prog.cellsOf 30)) = xs[3]? := hall 3 _ rfl
  obtain ⟨y3, e3⟩ := get_some (i := 3) hxs (by decide)
  rw [e3, show Try.prog.cellsOf 30 = 1 by kernel_rfl] at f3
  have hc : (Value.agg (p.cells (.slice a len cap))).cells.toList = (p.C.cells ++ p.T.cells ++ #[Value.int IntKind.i64 p.L]).toList ++ [.slice a len cap] := by
    simp [Value.cells, Pb.cells]
  rw [hc] at f3 h40
  rw [drop_last h40] at f3
  rcases open_ints Try.underlying30 Try.underlying5 (by kernel_rfl) f3 with ⟨h, _⟩ | ⟨a', len', cap', zs, h, _, hle, _⟩
  · simp at h; omega
  · simp at h; omega
set_option maxRecDepth 5000 in
theorem open_bytesV {H : Type} {enc : TypeId × Value → H} {w : World} {base : Nat} {sp : Nat → Bool} {held : Bool} {r : Reach} {b0 : Nat} {v : Value} {d : DataW H} {ps : List MemPlace}
    (hval : Value.okWide Try.prog w r b0 30 v) (hd : DataW.Trod enc Try.prog w base sp held 30 v d ps) :
    ∃ (a : Option Addr) (cap : Nat) (l : List Nat), Bytes w a l ∧ v = .slice a l.length cap ∧ (l.length : Int) ≤ 9223372036854775807 := by
  obtain ⟨a, len, cap, rfl⟩ := okWide_slice Try.underlying30 hval
  obtain ⟨fuel, hf⟩ := hd
  obtain ⟨a', cap', l, hc, hb, hn, _⟩ := open_bytes Try.underlying30 Try.underlying5 (by kernel_rfl) hf
  have h : Value.slice a len cap = .slice a' l.length cap' := by simpa [Value.cells] using hc
  exact ⟨a', cap', l, hb, h, hn⟩
end Go.Proofs.Ytiiljecocajdpaa
