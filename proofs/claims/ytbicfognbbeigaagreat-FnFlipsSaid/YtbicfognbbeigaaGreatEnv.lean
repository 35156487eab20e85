/-
  The types of the translated program, and the environment of the library, are proved to be what they are said to be.
  It holds no condition of its own.
-/
import Derived.Test.YtbicfognbbeigaaGreatChecked
import Derived.Test.YtbicfognbbeigaaGreatGX
import Derived.KernelRfl
import Derived.ProofKit
import Derived.ChangeOld
import Derived.Below
namespace Go.Proofs.YtbicfognbbeigaaGreat
open Go.Proofs.YtbicfognbbeigaaGreat.Ab
set_option linter.unusedVariables false
set_option linter.unusedSimpArgs false

def ti3 : TI := ⟨.int .i64, 1, 8, .int .i64 0⟩
def ti4 : TI := ⟨.bool, 1, 1, .bool false⟩
def ti5 : TI := ⟨.int .u8, 1, 1, .int .u8 0⟩
def ti9 : TI := ⟨.string, 1, 16, .string ⟨#[]⟩⟩
def ti22 : TI := ⟨.slice 5, 1, 24, .slice none 0 0⟩
def ti24 : TI := ⟨.slice 40, 1, 24, .slice none 0 0⟩
def ti30 : TI := ⟨.slice 24, 1, 24, .slice none 0 0⟩
def ti35 : TI := ⟨.slice 9, 1, 24, .slice none 0 0⟩
def ti40 : TI := ⟨.slice 3, 1, 24, .slice none 0 0⟩
def ti61 : TI := ⟨.pointer 101, 1, 8, .pointer none⟩
def ti69 : TI := ⟨.func #[40, 40] #[3] false, 1, 8, .nilFunc⟩
def ti73 : TI := ⟨.pointer 112, 1, 8, .pointer none⟩
def ti77 : TI := ⟨.func #[9, 3] #[9, 4] false, 1, 8, .nilFunc⟩
def ti86 : TI := ⟨.map 9 3, 1, 8, .map none⟩
def ti90 : TI := ⟨.map 9 9, 1, 8, .map none⟩
def ti101 : TI := ⟨.struct #[{ name := "b", type := 22, offset := 0, embedded := false, tag := "", pkgPath := "loop.example/g03401/spec", byteOffset := 0 }, { name := "i", type := 3, offset := 1, embedded := false, tag := "", pkgPath := "loop.example/g03401/spec", byteOffset := 24 }, { name := "h", type := 3, offset := 2, embedded := false, tag := "", pkgPath := "loop.example/g03401/spec", byteOffset := 32 }], 3, 40, .agg #[.slice none 0 0, .int .i64 0, .int .i64 0]⟩
def ti108 : TI := ⟨.int .u64, 1, 8, .int .u64 0⟩
def ti112 : TI := ⟨.struct #[{ name := "left", type := 73, offset := 0, embedded := false, tag := "", pkgPath := "loop.example/g03401/impl", byteOffset := 0 }, { name := "right", type := 73, offset := 1, embedded := false, tag := "", pkgPath := "loop.example/g03401/impl", byteOffset := 8 }], 2, 16, .agg #[.pointer none, .pointer none]⟩
def ti128 : TI := ⟨.int .i64, 1, 8, .int .i64 0⟩
def ti135 : TI := ⟨.int .u32, 1, 4, .int .u32 0⟩
def ti137 : TI := ⟨.int .u64, 1, 8, .int .u64 0⟩
def ti146 : TI := ⟨.func #[9, 3, 3] #[] false, 1, 8, .nilFunc⟩
def ti150 : TI := ⟨.int .u64, 1, 8, .int .u64 0⟩
def ti154 : TI := ⟨.pointer 3, 1, 8, .pointer none⟩

theorem tok3 : TOk1 Tryz.prog 3 ti3 := ⟨by kernel_rfl, by kernel_rfl, by kernel_rfl⟩
theorem tok4 : TOk1 Tryz.prog 4 ti4 := ⟨by kernel_rfl, by kernel_rfl, by kernel_rfl⟩
theorem tok5 : TOk1 Tryz.prog 5 ti5 := ⟨by kernel_rfl, by kernel_rfl, by kernel_rfl⟩
theorem tok9 : TOk1 Tryz.prog 9 ti9 := ⟨by kernel_rfl, by kernel_rfl, by kernel_rfl⟩
theorem tok22 : TOk1 Tryz.prog 22 ti22 := ⟨by kernel_rfl, by kernel_rfl, by kernel_rfl⟩
theorem tok24 : TOk1 Tryz.prog 24 ti24 := ⟨by kernel_rfl, by kernel_rfl, by kernel_rfl⟩
theorem tok30 : TOk1 Tryz.prog 30 ti30 := ⟨by kernel_rfl, by kernel_rfl, by kernel_rfl⟩
theorem tok35 : TOk1 Tryz.prog 35 ti35 := ⟨by kernel_rfl, by kernel_rfl, by kernel_rfl⟩
theorem tok40 : TOk1 Tryz.prog 40 ti40 := ⟨by kernel_rfl, by kernel_rfl, by kernel_rfl⟩
theorem tok61 : TOk1 Tryz.prog 61 ti61 := ⟨by kernel_rfl, by kernel_rfl, by kernel_rfl⟩
theorem tok69 : TOk1 Tryz.prog 69 ti69 := ⟨by kernel_rfl, by kernel_rfl, by kernel_rfl⟩
theorem tok73 : TOk1 Tryz.prog 73 ti73 := ⟨by kernel_rfl, by kernel_rfl, by kernel_rfl⟩
theorem tok77 : TOk1 Tryz.prog 77 ti77 := ⟨by kernel_rfl, by kernel_rfl, by kernel_rfl⟩
theorem tok86 : TOk1 Tryz.prog 86 ti86 := ⟨by kernel_rfl, by kernel_rfl, by kernel_rfl⟩
theorem tok90 : TOk1 Tryz.prog 90 ti90 := ⟨by kernel_rfl, by kernel_rfl, by kernel_rfl⟩
theorem tok101 : TOk1 Tryz.prog 101 ti101 := ⟨by kernel_rfl, by kernel_rfl, by kernel_rfl⟩
theorem tok108 : TOk1 Tryz.prog 108 ti108 := ⟨by kernel_rfl, by kernel_rfl, by kernel_rfl⟩
theorem tok112 : TOk1 Tryz.prog 112 ti112 := ⟨by kernel_rfl, by kernel_rfl, by kernel_rfl⟩
theorem tok128 : TOk1 Tryz.prog 128 ti128 := ⟨by kernel_rfl, by kernel_rfl, by kernel_rfl⟩
theorem tok135 : TOk1 Tryz.prog 135 ti135 := ⟨by kernel_rfl, by kernel_rfl, by kernel_rfl⟩
theorem tok137 : TOk1 Tryz.prog 137 ti137 := ⟨by kernel_rfl, by kernel_rfl, by kernel_rfl⟩
theorem tok146 : TOk1 Tryz.prog 146 ti146 := ⟨by kernel_rfl, by kernel_rfl, by kernel_rfl⟩
theorem tok150 : TOk1 Tryz.prog 150 ti150 := ⟨by kernel_rfl, by kernel_rfl, by kernel_rfl⟩
theorem tok154 : TOk1 Tryz.prog 154 ti154 := ⟨by kernel_rfl, by kernel_rfl, by kernel_rfl⟩

def tt : TT := [(3, ti3), (4, ti4), (5, ti5), (9, ti9), (22, ti22), (24, ti24), (30, ti30), (35, ti35), (40, ti40), (61, ti61), (69, ti69), (73, ti73), (77, ti77), (86, ti86), (90, ti90), (101, ti101), (108, ti108), (112, ti112), (128, ti128), (135, ti135), (137, ti137), (146, ti146), (150, ti150), (154, ti154)]
theorem ttOk : TOk Tryz.prog tt := TOk.cons tok3 (TOk.cons tok4 (TOk.cons tok5 (TOk.cons tok9 (TOk.cons tok22 (TOk.cons tok24 (TOk.cons tok30 (TOk.cons tok35 (TOk.cons tok40 (TOk.cons tok61 (TOk.cons tok69 (TOk.cons tok73 (TOk.cons tok77 (TOk.cons tok86 (TOk.cons tok90 (TOk.cons tok101 (TOk.cons tok108 (TOk.cons tok112 (TOk.cons tok128 (TOk.cons tok135 (TOk.cons tok137 (TOk.cons tok146 (TOk.cons tok150 (TOk.cons tok154 (TOk.nil _))))))))))))))))))))))))
theorem mixed : Tryz.prog.follows .mixedOrders = true := by kernel_rfl
theorem own : ownKnob Tryz.prog.godebug = none := by kernel_rfl
theorem laidOut : laidOutB Tryz.prog = true := by kernel_rfl
noncomputable def env : Env := ⟨Tryz.prog, tt, ttOk, mixed⟩
end Go.Proofs.YtbicfognbbeigaaGreat
