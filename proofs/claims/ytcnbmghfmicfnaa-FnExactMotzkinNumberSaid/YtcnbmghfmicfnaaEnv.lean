/-
  The types of the translated program, and the environment of the library, are proved to be what they are said to be.
  It holds no condition of its own.
-/
import Derived.Test.YtcnbmghfmicfnaaChecked
import Derived.Test.YtcnbmghfmicfnaaAb18
import Derived.KernelRfl
import Derived.ProofKit
import Derived.ChangeOld
import Derived.Below
namespace Go.Proofs.Ytcnbmghfmicfnaa
open Go.Proofs.Ytcnbmghfmicfnaa.Ab
set_option linter.unusedVariables false
set_option linter.unusedSimpArgs false

def ti3 : TI := ⟨.int .i64, 1, 8, .int .i64 0⟩
def ti4 : TI := ⟨.bool, 1, 1, .bool false⟩
def ti5 : TI := ⟨.int .u8, 1, 1, .int .u8 0⟩
def ti9 : TI := ⟨.string, 1, 16, .string ⟨#[]⟩⟩
def ti26 : TI := ⟨.func #[3, 3] #[3] false, 1, 8, .nilFunc⟩
def ti31 : TI := ⟨.slice 3, 1, 24, .slice none 0 0⟩
def ti41 : TI := ⟨.map 42 3, 1, 8, .map none⟩
def ti42 : TI := ⟨.array 2 3, 2, 16, .agg #[.int .i64 0, .int .i64 0]⟩
def ti45 : TI := ⟨.slice 31, 1, 24, .slice none 0 0⟩

theorem tok3 : TOk1 Try.prog 3 ti3 := ⟨by kernel_rfl, by kernel_rfl, by kernel_rfl⟩
theorem tok4 : TOk1 Try.prog 4 ti4 := ⟨by kernel_rfl, by kernel_rfl, by kernel_rfl⟩
theorem tok5 : TOk1 Try.prog 5 ti5 := ⟨by kernel_rfl, by kernel_rfl, by kernel_rfl⟩
theorem tok9 : TOk1 Try.prog 9 ti9 := ⟨by kernel_rfl, by kernel_rfl, by kernel_rfl⟩
theorem tok26 : TOk1 Try.prog 26 ti26 := ⟨by kernel_rfl, by kernel_rfl, by kernel_rfl⟩
theorem tok31 : TOk1 Try.prog 31 ti31 := ⟨by kernel_rfl, by kernel_rfl, by kernel_rfl⟩
theorem tok41 : TOk1 Try.prog 41 ti41 := ⟨by kernel_rfl, by kernel_rfl, by kernel_rfl⟩
theorem tok42 : TOk1 Try.prog 42 ti42 := ⟨by kernel_rfl, by kernel_rfl, by kernel_rfl⟩
theorem tok45 : TOk1 Try.prog 45 ti45 := ⟨by kernel_rfl, by kernel_rfl, by kernel_rfl⟩

def tt : TT := [(3, ti3), (4, ti4), (5, ti5), (9, ti9), (26, ti26), (31, ti31), (41, ti41), (42, ti42), (45, ti45)]
theorem ttOk : TOk Try.prog tt := TOk.cons tok3 (TOk.cons tok4 (TOk.cons tok5 (TOk.cons tok9 (TOk.cons tok26 (TOk.cons tok31 (TOk.cons tok41 (TOk.cons tok42 (TOk.cons tok45 (TOk.nil _)))))))))
theorem mixed : Try.prog.follows .mixedOrders = true := by kernel_rfl
theorem own : ownKnob Try.prog.godebug = none := by kernel_rfl
theorem laidOut : laidOutB Try.prog = true := by kernel_rfl
noncomputable def env : Env := ⟨Try.prog, tt, ttOk, mixed⟩
end Go.Proofs.Ytcnbmghfmicfnaa
