/- Arms for guarded loads of structs and guarded conversions of bytes to strings, in regions that keep what lay there. No program's text is named here. -/
import Derived.Test.YtiiljecocajdpaaNoTree
namespace Go.Proofs.Ytiiljecocajdpaa
open Go.RowKit

section
variable {P : Program} {ops : Array Oper} {w : World} {Q : Act → Prop} {rest : List Oper} {ty : TypeId} {ps : String} {af : Array Edge} {d : Nat} {gd : Option (Nat × Bool)}
theorem q_ldG {l l' : List Value} {ds : List Deferred} {t n b off : Nat} {x : Operand} {v : Value} (hw : Region.wanted ⟨some d, .load t x, ty, ps, af, gd⟩ (yielded ops l.toArray) = true) (hx : (Act.mk l.toArray ds).eval x = .pointer (some ⟨b, off, none⟩)) [T : AggTy P t n] (hl : loadAgg w b off n = .ok v w) (hs : l.set d v = l')
    (h : wpQuiet P ops (fun w' => ∃ s : KeptW w, w' = s.val) Q rest ⟨l'.toArray, ds⟩) : wpQuiet P ops (fun w' => ∃ s : KeptW w, w' = s.val) Q (⟨some d, .load t x, ty, ps, af, gd⟩ :: rest) ⟨l.toArray, ds⟩ := by
  obtain ⟨d, h1, h2, h3⟩ := T.out
  refine BigFrame.wpQuiet_want hw fun K hK => ⟨v, fun w' ⟨s, hs⟩ => ?_, hK _ (by rw [put_list, hs]; exact h)⟩
  subst hs
  have hl' := Below.loadAgg s.property (lt_of_loadAgg hl) hl
  have := run_loadVar_agg (P := P) (w := s.val) (b := b) (off := off) h1 h2 h3 (by rw [hl']; rfl)
  unfold Oper.quietAt execOp
  simp [hx, Instr.loadAt, Instr.sureAddr, Sem.run_bind, this, hl', Oper.quietUpon]
theorem q_cvG {l l' : List Value} {ds : List Deferred} {src dst e n cap : Nat} {x : Operand} {a : Option Addr} {xs : List Nat} (hg : Region.wanted ⟨some d, .convert src dst x, ty, ps, af, gd⟩ (yielded ops l.toArray) = true)
    (hx : (Act.mk l.toArray ds).eval x = .slice a n cap) [S : SlTy P src e] [E : IntTy P e .u8] [D : StrTy P dst] (hb : Bytes w a xs) (hn : xs.length = n) (hs : l.set d (.string (byteStr xs)) = l')
    (h : wpQuiet P ops (fun w' => ∃ s : KeptW w, w' = s.val) Q rest ⟨l'.toArray, ds⟩) : wpQuiet P ops (fun w' => ∃ s : KeptW w, w' = s.val) Q (⟨some d, .convert src dst x, ty, ps, af, gd⟩ :: rest) ⟨l.toArray, ds⟩ := by
  refine BigFrame.wpQuiet_want hg fun K hK => ⟨.string (byteStr xs), fun w' ⟨s, hw⟩ => ?_, hK _ (by rw [put_list, hs]; exact h)⟩
  subst hw
  have := run_conv (P := P) (src := src) (dst := dst) (cap := cap) (hb.kept s.property) hn
  unfold Oper.quietAt execOp
  simp [hx, Sem.run_bind, this, Oper.quietUpon]
end
end Go.Proofs.Ytiiljecocajdpaa
