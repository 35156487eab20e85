/-
  The types of the translated program, and the environment of the library, are proved to be what they are said to be.
  It holds no condition of its own.
-/
import Derived.Test.YthadkebcjlpkhaaChecked
import Derived.Test.YthadkebcjlpkhaaGX
import Derived.KernelRfl
import Derived.ProofKit
import Derived.ChangeOld
import Derived.Below
namespace Go.Proofs.Ythadkebcjlpkhaa
open Go.Proofs.Ythadkebcjlpkhaa.Ab
set_option linter.unusedVariables false
set_option linter.unusedSimpArgs false

def ti3 : TI := ⟨.int .i64, 1, 8, .int .i64 0⟩
def ti5 : TI := ⟨.int .u8, 1, 1, .int .u8 0⟩
def ti9 : TI := ⟨.string, 1, 16, .string ⟨#[]⟩⟩
def ti22 : TI := ⟨.slice 29, 1, 24, .slice none 0 0⟩
def ti29 : TI := ⟨.slice 3, 1, 24, .slice none 0 0⟩
def ti36 : TI := ⟨.map 9 3, 1, 8, .map none⟩
def ti37 : TI := ⟨.slice 22, 1, 24, .slice none 0 0⟩
def ti43 : TI := ⟨.slice 9, 1, 24, .slice none 0 0⟩
def ti48 : TI := ⟨.func #[29, 29] #[3] false, 1, 8, .nilFunc⟩
def ti59 : TI := ⟨.slice 5, 1, 24, .slice none 0 0⟩
def ti67 : TI := ⟨.int .u64, 1, 8, .int .u64 0⟩
def ti71 : TI := ⟨.int .i64, 1, 8, .int .i64 0⟩
def ti78 : TI := ⟨.int .u32, 1, 4, .int .u32 0⟩
def ti80 : TI := ⟨.int .u64, 1, 8, .int .u64 0⟩
def ti83 : TI := ⟨.int .u64, 1, 8, .int .u64 0⟩
def ti87 : TI := ⟨.pointer 3, 1, 8, .pointer none⟩

theorem tok3 : TOk1 Try.prog 3 ti3 := ⟨by kernel_rfl, by kernel_rfl, by kernel_rfl⟩
theorem tok5 : TOk1 Try.prog 5 ti5 := ⟨by kernel_rfl, by kernel_rfl, by kernel_rfl⟩
theorem tok9 : TOk1 Try.prog 9 ti9 := ⟨by kernel_rfl, by kernel_rfl, by kernel_rfl⟩
theorem tok22 : TOk1 Try.prog 22 ti22 := ⟨by kernel_rfl, by kernel_rfl, by kernel_rfl⟩
theorem tok29 : TOk1 Try.prog 29 ti29 := ⟨by kernel_rfl, by kernel_rfl, by kernel_rfl⟩
theorem tok36 : TOk1 Try.prog 36 ti36 := ⟨by kernel_rfl, by kernel_rfl, by kernel_rfl⟩
theorem tok37 : TOk1 Try.prog 37 ti37 := ⟨by kernel_rfl, by kernel_rfl, by kernel_rfl⟩
theorem tok43 : TOk1 Try.prog 43 ti43 := ⟨by kernel_rfl, by kernel_rfl, by kernel_rfl⟩
theorem tok48 : TOk1 Try.prog 48 ti48 := ⟨by kernel_rfl, by kernel_rfl, by kernel_rfl⟩
theorem tok59 : TOk1 Try.prog 59 ti59 := ⟨by kernel_rfl, by kernel_rfl, by kernel_rfl⟩
theorem tok67 : TOk1 Try.prog 67 ti67 := ⟨by kernel_rfl, by kernel_rfl, by kernel_rfl⟩
theorem tok71 : TOk1 Try.prog 71 ti71 := ⟨by kernel_rfl, by kernel_rfl, by kernel_rfl⟩
theorem tok78 : TOk1 Try.prog 78 ti78 := ⟨by kernel_rfl, by kernel_rfl, by kernel_rfl⟩
theorem tok80 : TOk1 Try.prog 80 ti80 := ⟨by kernel_rfl, by kernel_rfl, by kernel_rfl⟩
theorem tok83 : TOk1 Try.prog 83 ti83 := ⟨by kernel_rfl, by kernel_rfl, by kernel_rfl⟩
theorem tok87 : TOk1 Try.prog 87 ti87 := ⟨by kernel_rfl, by kernel_rfl, by kernel_rfl⟩

def tt : TT := [(3, ti3), (5, ti5), (9, ti9), (22, ti22), (29, ti29), (36, ti36), (37, ti37), (43, ti43), (48, ti48), (59, ti59), (67, ti67), (71, ti71), (78, ti78), (80, ti80), (83, ti83), (87, ti87)]
theorem ttOk : TOk Try.prog tt := TOk.cons tok3 (TOk.cons tok5 (TOk.cons tok9 (TOk.cons tok22 (TOk.cons tok29 (TOk.cons tok36 (TOk.cons tok37 (TOk.cons tok43 (TOk.cons tok48 (TOk.cons tok59 (TOk.cons tok67 (TOk.cons tok71 (TOk.cons tok78 (TOk.cons tok80 (TOk.cons tok83 (TOk.cons tok87 (TOk.nil _))))))))))))))))
theorem mixed : Try.prog.follows .mixedOrders = true := by kernel_rfl
theorem own : ownKnob Try.prog.godebug = none := by kernel_rfl
theorem laidOut : laidOutB Try.prog = true := by kernel_rfl
noncomputable def env : Env := ⟨Try.prog, tt, ttOk, mixed⟩
end Go.Proofs.Ythadkebcjlpkhaa
