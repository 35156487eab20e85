/-
  The types of the translated program, and the environment of the library, are proved to be what they are said to be.
  It holds no condition of its own.
-/
import Derived.Test.YtbicfognbbeigaaChecked
import Derived.Test.YtbicfognbbeigaaGX
import Derived.KernelRfl
import Derived.ProofKit
import Derived.ChangeOld
import Derived.Below
namespace Go.Proofs.Ytbicfognbbeigaa
open Go.Proofs.Ytbicfognbbeigaa.Ab
set_option linter.unusedVariables false
set_option linter.unusedSimpArgs false

def ti3 : TI := ⟨.int .i64, 1, 8, .int .i64 0⟩
def ti4 : TI := ⟨.bool, 1, 1, .bool false⟩
def ti5 : TI := ⟨.int .u8, 1, 1, .int .u8 0⟩
def ti9 : TI := ⟨.string, 1, 16, .string ⟨#[]⟩⟩
def ti22 : TI := ⟨.slice 5, 1, 24, .slice none 0 0⟩
def ti24 : TI := ⟨.slice 27, 1, 24, .slice none 0 0⟩
def ti27 : TI := ⟨.slice 3, 1, 24, .slice none 0 0⟩
def ti47 : TI := ⟨.func #[27, 27] #[3] false, 1, 8, .nilFunc⟩
def ti51 : TI := ⟨.pointer 71, 1, 8, .pointer none⟩
def ti59 : TI := ⟨.pointer 78, 1, 8, .pointer none⟩
def ti66 : TI := ⟨.int .u64, 1, 8, .int .u64 0⟩
def ti71 : TI := ⟨.struct #[{ name := "b", type := 22, offset := 0, embedded := false, tag := "", pkgPath := "loop.example/g03401/spec", byteOffset := 0 }, { name := "i", type := 3, offset := 1, embedded := false, tag := "", pkgPath := "loop.example/g03401/spec", byteOffset := 24 }, { name := "h", type := 3, offset := 2, embedded := false, tag := "", pkgPath := "loop.example/g03401/spec", byteOffset := 32 }], 3, 40, .agg #[.slice none 0 0, .int .i64 0, .int .i64 0]⟩
def ti78 : TI := ⟨.struct #[{ name := "left", type := 59, offset := 0, embedded := false, tag := "", pkgPath := "loop.example/g03401/impl", byteOffset := 0 }, { name := "right", type := 59, offset := 1, embedded := false, tag := "", pkgPath := "loop.example/g03401/impl", byteOffset := 8 }], 2, 16, .agg #[.pointer none, .pointer none]⟩
def ti81 : TI := ⟨.int .i64, 1, 8, .int .i64 0⟩
def ti89 : TI := ⟨.int .u32, 1, 4, .int .u32 0⟩
def ti91 : TI := ⟨.int .u64, 1, 8, .int .u64 0⟩
def ti97 : TI := ⟨.int .u64, 1, 8, .int .u64 0⟩
def ti101 : TI := ⟨.pointer 3, 1, 8, .pointer none⟩

theorem tok3 : TOk1 Try.prog 3 ti3 := ⟨by kernel_rfl, by kernel_rfl, by kernel_rfl⟩
theorem tok4 : TOk1 Try.prog 4 ti4 := ⟨by kernel_rfl, by kernel_rfl, by kernel_rfl⟩
theorem tok5 : TOk1 Try.prog 5 ti5 := ⟨by kernel_rfl, by kernel_rfl, by kernel_rfl⟩
theorem tok9 : TOk1 Try.prog 9 ti9 := ⟨by kernel_rfl, by kernel_rfl, by kernel_rfl⟩
theorem tok22 : TOk1 Try.prog 22 ti22 := ⟨by kernel_rfl, by kernel_rfl, by kernel_rfl⟩
theorem tok24 : TOk1 Try.prog 24 ti24 := ⟨by kernel_rfl, by kernel_rfl, by kernel_rfl⟩
theorem tok27 : TOk1 Try.prog 27 ti27 := ⟨by kernel_rfl, by kernel_rfl, by kernel_rfl⟩
theorem tok47 : TOk1 Try.prog 47 ti47 := ⟨by kernel_rfl, by kernel_rfl, by kernel_rfl⟩
theorem tok51 : TOk1 Try.prog 51 ti51 := ⟨by kernel_rfl, by kernel_rfl, by kernel_rfl⟩
theorem tok59 : TOk1 Try.prog 59 ti59 := ⟨by kernel_rfl, by kernel_rfl, by kernel_rfl⟩
theorem tok66 : TOk1 Try.prog 66 ti66 := ⟨by kernel_rfl, by kernel_rfl, by kernel_rfl⟩
theorem tok71 : TOk1 Try.prog 71 ti71 := ⟨by kernel_rfl, by kernel_rfl, by kernel_rfl⟩
theorem tok78 : TOk1 Try.prog 78 ti78 := ⟨by kernel_rfl, by kernel_rfl, by kernel_rfl⟩
theorem tok81 : TOk1 Try.prog 81 ti81 := ⟨by kernel_rfl, by kernel_rfl, by kernel_rfl⟩
theorem tok89 : TOk1 Try.prog 89 ti89 := ⟨by kernel_rfl, by kernel_rfl, by kernel_rfl⟩
theorem tok91 : TOk1 Try.prog 91 ti91 := ⟨by kernel_rfl, by kernel_rfl, by kernel_rfl⟩
theorem tok97 : TOk1 Try.prog 97 ti97 := ⟨by kernel_rfl, by kernel_rfl, by kernel_rfl⟩
theorem tok101 : TOk1 Try.prog 101 ti101 := ⟨by kernel_rfl, by kernel_rfl, by kernel_rfl⟩

def tt : TT := [(3, ti3), (4, ti4), (5, ti5), (9, ti9), (22, ti22), (24, ti24), (27, ti27), (47, ti47), (51, ti51), (59, ti59), (66, ti66), (71, ti71), (78, ti78), (81, ti81), (89, ti89), (91, ti91), (97, ti97), (101, ti101)]
theorem ttOk : TOk Try.prog tt := TOk.cons tok3 (TOk.cons tok4 (TOk.cons tok5 (TOk.cons tok9 (TOk.cons tok22 (TOk.cons tok24 (TOk.cons tok27 (TOk.cons tok47 (TOk.cons tok51 (TOk.cons tok59 (TOk.cons tok66 (TOk.cons tok71 (TOk.cons tok78 (TOk.cons tok81 (TOk.cons tok89 (TOk.cons tok91 (TOk.cons tok97 (TOk.cons tok101 (TOk.nil _))))))))))))))))))
theorem mixed : Try.prog.follows .mixedOrders = true := by kernel_rfl
theorem own : ownKnob Try.prog.godebug = none := by kernel_rfl
theorem laidOut : laidOutB Try.prog = true := by kernel_rfl
noncomputable def env : Env := ⟨Try.prog, tt, ttOk, mixed⟩
end Go.Proofs.Ytbicfognbbeigaa
