/-
  The types of the translated program, and the environment of the library, are proved to be what they are said to be.
  It holds no condition of its own.
-/
import Derived.Test.YtocbjpkllilpkaaChecked
import Derived.Test.YtocbjpkllilpkaaAb18
import Derived.KernelRfl
import Derived.ProofKit
import Derived.ChangeOld
import Derived.Below
namespace Go.Proofs.Ytocbjpkllilpkaa
open Go.Proofs.Ytocbjpkllilpkaa.Ab
set_option linter.unusedVariables false
set_option linter.unusedSimpArgs false

def ti3 : TI := ⟨.int .i64, 1, 8, .int .i64 0⟩
def ti4 : TI := ⟨.bool, 1, 1, .bool false⟩
def ti5 : TI := ⟨.int .u8, 1, 1, .int .u8 0⟩
def ti9 : TI := ⟨.string, 1, 16, .string ⟨#[]⟩⟩
def ti25 : TI := ⟨.slice 3, 1, 24, .slice none 0 0⟩
def ti29 : TI := ⟨.slice 9, 1, 24, .slice none 0 0⟩
def ti48 : TI := ⟨.func #[9, 3, 3] #[] false, 1, 8, .nilFunc⟩
def ti51 : TI := ⟨.func #[9, 3] #[] false, 1, 8, .nilFunc⟩
def ti52 : TI := ⟨.slice 5, 1, 24, .slice none 0 0⟩
def ti55 : TI := ⟨.func #[3, 3] #[3] false, 1, 8, .nilFunc⟩
def ti56 : TI := ⟨.map 57 3, 1, 8, .map none⟩
def ti57 : TI := ⟨.array 2 3, 2, 16, .agg #[.int .i64 0, .int .i64 0]⟩
def ti61 : TI := ⟨.slice 25, 1, 24, .slice none 0 0⟩

theorem tok3 : TOk1 Try.prog 3 ti3 := ⟨by kernel_rfl, by kernel_rfl, by kernel_rfl⟩
theorem tok4 : TOk1 Try.prog 4 ti4 := ⟨by kernel_rfl, by kernel_rfl, by kernel_rfl⟩
theorem tok5 : TOk1 Try.prog 5 ti5 := ⟨by kernel_rfl, by kernel_rfl, by kernel_rfl⟩
theorem tok9 : TOk1 Try.prog 9 ti9 := ⟨by kernel_rfl, by kernel_rfl, by kernel_rfl⟩
theorem tok25 : TOk1 Try.prog 25 ti25 := ⟨by kernel_rfl, by kernel_rfl, by kernel_rfl⟩
theorem tok29 : TOk1 Try.prog 29 ti29 := ⟨by kernel_rfl, by kernel_rfl, by kernel_rfl⟩
theorem tok48 : TOk1 Try.prog 48 ti48 := ⟨by kernel_rfl, by kernel_rfl, by kernel_rfl⟩
theorem tok51 : TOk1 Try.prog 51 ti51 := ⟨by kernel_rfl, by kernel_rfl, by kernel_rfl⟩
theorem tok52 : TOk1 Try.prog 52 ti52 := ⟨by kernel_rfl, by kernel_rfl, by kernel_rfl⟩
theorem tok55 : TOk1 Try.prog 55 ti55 := ⟨by kernel_rfl, by kernel_rfl, by kernel_rfl⟩
theorem tok56 : TOk1 Try.prog 56 ti56 := ⟨by kernel_rfl, by kernel_rfl, by kernel_rfl⟩
theorem tok57 : TOk1 Try.prog 57 ti57 := ⟨by kernel_rfl, by kernel_rfl, by kernel_rfl⟩
theorem tok61 : TOk1 Try.prog 61 ti61 := ⟨by kernel_rfl, by kernel_rfl, by kernel_rfl⟩

def tt : TT := [(3, ti3), (4, ti4), (5, ti5), (9, ti9), (25, ti25), (29, ti29), (48, ti48), (51, ti51), (52, ti52), (55, ti55), (56, ti56), (57, ti57), (61, ti61)]
theorem ttOk : TOk Try.prog tt := TOk.cons tok3 (TOk.cons tok4 (TOk.cons tok5 (TOk.cons tok9 (TOk.cons tok25 (TOk.cons tok29 (TOk.cons tok48 (TOk.cons tok51 (TOk.cons tok52 (TOk.cons tok55 (TOk.cons tok56 (TOk.cons tok57 (TOk.cons tok61 (TOk.nil _)))))))))))))
theorem mixed : Try.prog.follows .mixedOrders = true := by kernel_rfl
theorem own : ownKnob Try.prog.godebug = none := by kernel_rfl
theorem laidOut : laidOutB Try.prog = true := by kernel_rfl
noncomputable def env : Env := ⟨Try.prog, tt, ttOk, mixed⟩
end Go.Proofs.Ytocbjpkllilpkaa
