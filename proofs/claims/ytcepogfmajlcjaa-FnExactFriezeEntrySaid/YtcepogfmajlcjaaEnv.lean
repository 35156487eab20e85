/-
  The types of the translated program, and the environment of the library, are proved to be what they are said to be.
  It holds no condition of its own.
-/
import Derived.Test.YtcepogfmajlcjaaChecked
import Derived.Test.YtcepogfmajlcjaaGX
import Derived.KernelRfl
import Derived.ProofKit
import Derived.ChangeOld
import Derived.Below
namespace Go.Proofs.Ytcepogfmajlcjaa
open Go.Proofs.Ytcepogfmajlcjaa.Ab
set_option linter.unusedVariables false
set_option linter.unusedSimpArgs false

def ti3 : TI := ⟨.int .i64, 1, 8, .int .i64 0⟩
def ti4 : TI := ⟨.bool, 1, 1, .bool false⟩
def ti5 : TI := ⟨.int .u8, 1, 1, .int .u8 0⟩
def ti9 : TI := ⟨.string, 1, 16, .string ⟨#[]⟩⟩
def ti24 : TI := ⟨.slice 3, 1, 24, .slice none 0 0⟩
def ti28 : TI := ⟨.slice 24, 1, 24, .slice none 0 0⟩
def ti45 : TI := ⟨.slice 28, 1, 24, .slice none 0 0⟩
def ti54 : TI := ⟨.func #[3, 3] #[3] false, 1, 8, .nilFunc⟩
def ti55 : TI := ⟨.map 56 3, 1, 8, .map none⟩
def ti56 : TI := ⟨.array 2 3, 2, 16, .agg #[.int .i64 0, .int .i64 0]⟩
def ti63 : TI := ⟨.func #[24, 24] #[3] false, 1, 8, .nilFunc⟩
def ti72 : TI := ⟨.map 9 3, 1, 8, .map none⟩
def ti76 : TI := ⟨.int .u64, 1, 8, .int .u64 0⟩
def ti80 : TI := ⟨.pointer 108, 1, 8, .pointer none⟩
def ti88 : TI := ⟨.slice 9, 1, 24, .slice none 0 0⟩
def ti94 : TI := ⟨.int .i64, 1, 8, .int .i64 0⟩
def ti101 : TI := ⟨.int .u32, 1, 4, .int .u32 0⟩
def ti103 : TI := ⟨.int .u64, 1, 8, .int .u64 0⟩
def ti108 : TI := ⟨.struct #[{ name := "left", type := 80, offset := 0, embedded := false, tag := "", pkgPath := "loop.example/g03401/impl", byteOffset := 0 }, { name := "right", type := 80, offset := 1, embedded := false, tag := "", pkgPath := "loop.example/g03401/impl", byteOffset := 8 }], 2, 16, .agg #[.pointer none, .pointer none]⟩
def ti111 : TI := ⟨.slice 5, 1, 24, .slice none 0 0⟩
def ti112 : TI := ⟨.int .u64, 1, 8, .int .u64 0⟩
def ti116 : TI := ⟨.pointer 3, 1, 8, .pointer none⟩

theorem tok3 : TOk1 Try.prog 3 ti3 := ⟨by kernel_rfl, by kernel_rfl, by kernel_rfl⟩
theorem tok4 : TOk1 Try.prog 4 ti4 := ⟨by kernel_rfl, by kernel_rfl, by kernel_rfl⟩
theorem tok5 : TOk1 Try.prog 5 ti5 := ⟨by kernel_rfl, by kernel_rfl, by kernel_rfl⟩
theorem tok9 : TOk1 Try.prog 9 ti9 := ⟨by kernel_rfl, by kernel_rfl, by kernel_rfl⟩
theorem tok24 : TOk1 Try.prog 24 ti24 := ⟨by kernel_rfl, by kernel_rfl, by kernel_rfl⟩
theorem tok28 : TOk1 Try.prog 28 ti28 := ⟨by kernel_rfl, by kernel_rfl, by kernel_rfl⟩
theorem tok45 : TOk1 Try.prog 45 ti45 := ⟨by kernel_rfl, by kernel_rfl, by kernel_rfl⟩
theorem tok54 : TOk1 Try.prog 54 ti54 := ⟨by kernel_rfl, by kernel_rfl, by kernel_rfl⟩
theorem tok55 : TOk1 Try.prog 55 ti55 := ⟨by kernel_rfl, by kernel_rfl, by kernel_rfl⟩
theorem tok56 : TOk1 Try.prog 56 ti56 := ⟨by kernel_rfl, by kernel_rfl, by kernel_rfl⟩
theorem tok63 : TOk1 Try.prog 63 ti63 := ⟨by kernel_rfl, by kernel_rfl, by kernel_rfl⟩
theorem tok72 : TOk1 Try.prog 72 ti72 := ⟨by kernel_rfl, by kernel_rfl, by kernel_rfl⟩
theorem tok76 : TOk1 Try.prog 76 ti76 := ⟨by kernel_rfl, by kernel_rfl, by kernel_rfl⟩
theorem tok80 : TOk1 Try.prog 80 ti80 := ⟨by kernel_rfl, by kernel_rfl, by kernel_rfl⟩
theorem tok88 : TOk1 Try.prog 88 ti88 := ⟨by kernel_rfl, by kernel_rfl, by kernel_rfl⟩
theorem tok94 : TOk1 Try.prog 94 ti94 := ⟨by kernel_rfl, by kernel_rfl, by kernel_rfl⟩
theorem tok101 : TOk1 Try.prog 101 ti101 := ⟨by kernel_rfl, by kernel_rfl, by kernel_rfl⟩
theorem tok103 : TOk1 Try.prog 103 ti103 := ⟨by kernel_rfl, by kernel_rfl, by kernel_rfl⟩
theorem tok108 : TOk1 Try.prog 108 ti108 := ⟨by kernel_rfl, by kernel_rfl, by kernel_rfl⟩
theorem tok111 : TOk1 Try.prog 111 ti111 := ⟨by kernel_rfl, by kernel_rfl, by kernel_rfl⟩
theorem tok112 : TOk1 Try.prog 112 ti112 := ⟨by kernel_rfl, by kernel_rfl, by kernel_rfl⟩
theorem tok116 : TOk1 Try.prog 116 ti116 := ⟨by kernel_rfl, by kernel_rfl, by kernel_rfl⟩

def tt : TT := [(3, ti3), (4, ti4), (5, ti5), (9, ti9), (24, ti24), (28, ti28), (45, ti45), (54, ti54), (55, ti55), (56, ti56), (63, ti63), (72, ti72), (76, ti76), (80, ti80), (88, ti88), (94, ti94), (101, ti101), (103, ti103), (108, ti108), (111, ti111), (112, ti112), (116, ti116)]
theorem ttOk : TOk Try.prog tt := TOk.cons tok3 (TOk.cons tok4 (TOk.cons tok5 (TOk.cons tok9 (TOk.cons tok24 (TOk.cons tok28 (TOk.cons tok45 (TOk.cons tok54 (TOk.cons tok55 (TOk.cons tok56 (TOk.cons tok63 (TOk.cons tok72 (TOk.cons tok76 (TOk.cons tok80 (TOk.cons tok88 (TOk.cons tok94 (TOk.cons tok101 (TOk.cons tok103 (TOk.cons tok108 (TOk.cons tok111 (TOk.cons tok112 (TOk.cons tok116 (TOk.nil _))))))))))))))))))))))
theorem mixed : Try.prog.follows .mixedOrders = true := by kernel_rfl
theorem own : ownKnob Try.prog.godebug = none := by kernel_rfl
theorem laidOut : laidOutB Try.prog = true := by kernel_rfl
noncomputable def env : Env := ⟨Try.prog, tt, ttOk, mixed⟩
end Go.Proofs.Ytcepogfmajlcjaa
