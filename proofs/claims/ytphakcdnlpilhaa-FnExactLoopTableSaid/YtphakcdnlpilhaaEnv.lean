/-
  The types of the translated program, and the environment of the library, are proved to be what they are said to be.
  It holds no condition of its own.
-/
import Derived.Test.YtphakcdnlpilhaaChecked
import Derived.Test.YtphakcdnlpilhaaAb18
import Derived.KernelRfl
import Derived.ProofKit
import Derived.ChangeOld
import Derived.Below
namespace Go.Proofs.Ytphakcdnlpilhaa
open Go.Proofs.Ytphakcdnlpilhaa.Ab
set_option linter.unusedVariables false
set_option linter.unusedSimpArgs false

def ti3 : TI := ⟨.int .i64, 1, 8, .int .i64 0⟩
def ti4 : TI := ⟨.bool, 1, 1, .bool false⟩
def ti5 : TI := ⟨.int .u8, 1, 1, .int .u8 0⟩
def ti9 : TI := ⟨.string, 1, 16, .string ⟨#[]⟩⟩
def ti22 : TI := ⟨.slice 3, 1, 24, .slice none 0 0⟩
def ti23 : TI := ⟨.slice 22, 1, 24, .slice none 0 0⟩
def ti55 : TI := ⟨.slice 9, 1, 24, .slice none 0 0⟩
def ti58 : TI := ⟨.func #[22, 22] #[3] false, 1, 8, .nilFunc⟩
def ti75 : TI := ⟨.slice 4, 1, 24, .slice none 0 0⟩
def ti78 : TI := ⟨.slice 5, 1, 24, .slice none 0 0⟩
def ti82 : TI := ⟨.int .u64, 1, 8, .int .u64 0⟩
def ti84 : TI := ⟨.pointer 110, 1, 8, .pointer none⟩
def ti92 : TI := ⟨.func #[9, 3, 3] #[] false, 1, 8, .nilFunc⟩
def ti96 : TI := ⟨.int .i64, 1, 8, .int .i64 0⟩
def ti104 : TI := ⟨.int .u32, 1, 4, .int .u32 0⟩
def ti106 : TI := ⟨.int .u64, 1, 8, .int .u64 0⟩
def ti110 : TI := ⟨.struct #[{ name := "left", type := 84, offset := 0, embedded := false, tag := "", pkgPath := "loop.example/g03401/impl", byteOffset := 0 }, { name := "right", type := 84, offset := 1, embedded := false, tag := "", pkgPath := "loop.example/g03401/impl", byteOffset := 8 }], 2, 16, .agg #[.pointer none, .pointer none]⟩
def ti111 : TI := ⟨.int .u64, 1, 8, .int .u64 0⟩
def ti115 : TI := ⟨.pointer 3, 1, 8, .pointer none⟩

theorem tok3 : TOk1 Try.prog 3 ti3 := ⟨by kernel_rfl, by kernel_rfl, by kernel_rfl⟩
theorem tok4 : TOk1 Try.prog 4 ti4 := ⟨by kernel_rfl, by kernel_rfl, by kernel_rfl⟩
theorem tok5 : TOk1 Try.prog 5 ti5 := ⟨by kernel_rfl, by kernel_rfl, by kernel_rfl⟩
theorem tok9 : TOk1 Try.prog 9 ti9 := ⟨by kernel_rfl, by kernel_rfl, by kernel_rfl⟩
theorem tok22 : TOk1 Try.prog 22 ti22 := ⟨by kernel_rfl, by kernel_rfl, by kernel_rfl⟩
theorem tok23 : TOk1 Try.prog 23 ti23 := ⟨by kernel_rfl, by kernel_rfl, by kernel_rfl⟩
theorem tok55 : TOk1 Try.prog 55 ti55 := ⟨by kernel_rfl, by kernel_rfl, by kernel_rfl⟩
theorem tok58 : TOk1 Try.prog 58 ti58 := ⟨by kernel_rfl, by kernel_rfl, by kernel_rfl⟩
theorem tok75 : TOk1 Try.prog 75 ti75 := ⟨by kernel_rfl, by kernel_rfl, by kernel_rfl⟩
theorem tok78 : TOk1 Try.prog 78 ti78 := ⟨by kernel_rfl, by kernel_rfl, by kernel_rfl⟩
theorem tok82 : TOk1 Try.prog 82 ti82 := ⟨by kernel_rfl, by kernel_rfl, by kernel_rfl⟩
theorem tok84 : TOk1 Try.prog 84 ti84 := ⟨by kernel_rfl, by kernel_rfl, by kernel_rfl⟩
theorem tok92 : TOk1 Try.prog 92 ti92 := ⟨by kernel_rfl, by kernel_rfl, by kernel_rfl⟩
theorem tok96 : TOk1 Try.prog 96 ti96 := ⟨by kernel_rfl, by kernel_rfl, by kernel_rfl⟩
theorem tok104 : TOk1 Try.prog 104 ti104 := ⟨by kernel_rfl, by kernel_rfl, by kernel_rfl⟩
theorem tok106 : TOk1 Try.prog 106 ti106 := ⟨by kernel_rfl, by kernel_rfl, by kernel_rfl⟩
theorem tok110 : TOk1 Try.prog 110 ti110 := ⟨by kernel_rfl, by kernel_rfl, by kernel_rfl⟩
theorem tok111 : TOk1 Try.prog 111 ti111 := ⟨by kernel_rfl, by kernel_rfl, by kernel_rfl⟩
theorem tok115 : TOk1 Try.prog 115 ti115 := ⟨by kernel_rfl, by kernel_rfl, by kernel_rfl⟩

def tt : TT := [(3, ti3), (4, ti4), (5, ti5), (9, ti9), (22, ti22), (23, ti23), (55, ti55), (58, ti58), (75, ti75), (78, ti78), (82, ti82), (84, ti84), (92, ti92), (96, ti96), (104, ti104), (106, ti106), (110, ti110), (111, ti111), (115, ti115)]
theorem ttOk : TOk Try.prog tt := TOk.cons tok3 (TOk.cons tok4 (TOk.cons tok5 (TOk.cons tok9 (TOk.cons tok22 (TOk.cons tok23 (TOk.cons tok55 (TOk.cons tok58 (TOk.cons tok75 (TOk.cons tok78 (TOk.cons tok82 (TOk.cons tok84 (TOk.cons tok92 (TOk.cons tok96 (TOk.cons tok104 (TOk.cons tok106 (TOk.cons tok110 (TOk.cons tok111 (TOk.cons tok115 (TOk.nil _)))))))))))))))))))
theorem mixed : Try.prog.follows .mixedOrders = true := by kernel_rfl
theorem own : ownKnob Try.prog.godebug = none := by kernel_rfl
theorem laidOut : laidOutB Try.prog = true := by kernel_rfl
noncomputable def env : Env := ⟨Try.prog, tt, ttOk, mixed⟩
end Go.Proofs.Ytphakcdnlpilhaa
