/- Facts on this seat's types: slices and their elements, integers, strings. By gen_types.py. -/
import Derived.Test.YtiiljecocajdpaaMem
import Derived.Test.YtiiljecocajdpaaTypes
namespace Go.Proofs.Ytiiljecocajdpaa
open Go.RowKit

instance iT2 : IntTy Try.prog 2 .i64 := ⟨Try.underlying2⟩
instance iT3 : IntTy Try.prog 3 .i64 := ⟨Try.underlying3⟩
instance iT5 : IntTy Try.prog 5 .u8 := ⟨Try.underlying5⟩
instance iT6 : IntTy Try.prog 6 .u8 := ⟨Try.underlying6⟩
instance gT9 : StrTy Try.prog 9 := ⟨Try.underlying9⟩
instance gT10 : StrTy Try.prog 10 := ⟨Try.underlying10⟩
instance gT11 : StrTy Try.prog 11 := ⟨Try.underlying11⟩
instance iT12 : IntTy Try.prog 12 .u64 := ⟨Try.underlying12⟩
instance iT21 : IntTy Try.prog 21 .i32 := ⟨Try.underlying21⟩
instance iT22 : IntTy Try.prog 22 .u32 := ⟨Try.underlying22⟩
instance sT30 : SlTy Try.prog 30 5 := ⟨Try.underlying30⟩
instance iT36 : IntTy Try.prog 36 .i64 := ⟨Try.underlying36⟩
instance iT42 : IntTy Try.prog 42 .u64 := ⟨Try.underlying42⟩
instance iT43 : IntTy Try.prog 43 .u64 := ⟨Try.underlying43⟩
instance sT44 : SlTy Try.prog 44 34 := ⟨Try.underlying44⟩
instance sT48 : SlTy Try.prog 48 30 := ⟨Try.underlying48⟩
instance sT72 : SlTy Try.prog 72 3 := ⟨Try.underlying72⟩
instance sT117 : SlTy Try.prog 117 72 := ⟨Try.underlying117⟩
instance sT133 : SlTy Try.prog 133 22 := ⟨Try.underlying133⟩
instance iT159 : IntTy Try.prog 159 .u8 := ⟨Try.underlying159⟩
instance iT160 : IntTy Try.prog 160 .u8 := ⟨Try.underlying160⟩
instance iT163 : IntTy Try.prog 163 .i32 := ⟨Try.underlying163⟩
instance iT164 : IntTy Try.prog 164 .i32 := ⟨Try.underlying164⟩
instance zT5 : ElTy Try.prog 5 (.int .u8 0) 1 1 := .mk' (by kernel_rfl) rfl
instance zT34 : ElTy Try.prog 34 (.agg #[(.int .u32 0), (.int .i64 0), (.int .i64 0)]) 3 24 := .mk' (by kernel_rfl) rfl
instance zT30 : ElTy Try.prog 30 (.slice none 0 0) 1 24 := .mk' (by kernel_rfl) rfl
instance zT3 : ElTy Try.prog 3 (.int .i64 0) 1 8 := .mk' (by kernel_rfl) rfl
instance zT72 : ElTy Try.prog 72 (.slice none 0 0) 1 24 := .mk' (by kernel_rfl) rfl
instance zT22 : ElTy Try.prog 22 (.int .u32 0) 1 4 := .mk' (by kernel_rfl) rfl
end Go.Proofs.Ytiiljecocajdpaa
