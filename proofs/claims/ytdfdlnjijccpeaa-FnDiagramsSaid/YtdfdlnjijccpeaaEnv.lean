/-
  The types of the translated program, and the environment of the library, are proved to be what they are said to be.
  It holds no condition of its own.
-/
import Derived.Test.YtdfdlnjijccpeaaChecked
import Derived.Test.YtdfdlnjijccpeaaGX
import Derived.KernelRfl
import Derived.ProofKit
import Derived.ChangeOld
import Derived.Below
namespace Go.Proofs.Ytdfdlnjijccpeaa
open Go.Proofs.Ytdfdlnjijccpeaa.Ab
set_option linter.unusedVariables false
set_option linter.unusedSimpArgs false

def ti3 : TI := ⟨.int .i64, 1, 8, .int .i64 0⟩
def ti4 : TI := ⟨.bool, 1, 1, .bool false⟩
def ti5 : TI := ⟨.int .u8, 1, 1, .int .u8 0⟩
def ti9 : TI := ⟨.string, 1, 16, .string ⟨#[]⟩⟩
def ti22 : TI := ⟨.slice 5, 1, 24, .slice none 0 0⟩
def ti24 : TI := ⟨.slice 3, 1, 24, .slice none 0 0⟩
def ti50 : TI := ⟨.slice 9, 1, 24, .slice none 0 0⟩
def ti54 : TI := ⟨.func #[3, 3] #[3] false, 1, 8, .nilFunc⟩
def ti73 : TI := ⟨.pointer 102, 1, 8, .pointer none⟩
def ti79 : TI := ⟨.slice 4, 1, 24, .slice none 0 0⟩
def ti87 : TI := ⟨.func #[9, 3, 3] #[] false, 1, 8, .nilFunc⟩
def ti93 : TI := ⟨.slice 24, 1, 24, .slice none 0 0⟩
def ti97 : TI := ⟨.map 98 3, 1, 8, .map none⟩
def ti98 : TI := ⟨.array 2 3, 2, 16, .agg #[.int .i64 0, .int .i64 0]⟩
def ti102 : TI := ⟨.struct #[{ name := "b", type := 22, offset := 0, embedded := false, tag := "", pkgPath := "loop.example/g03401/spec", byteOffset := 0 }, { name := "i", type := 3, offset := 1, embedded := false, tag := "", pkgPath := "loop.example/g03401/spec", byteOffset := 24 }, { name := "h", type := 3, offset := 2, embedded := false, tag := "", pkgPath := "loop.example/g03401/spec", byteOffset := 32 }], 3, 40, .agg #[.slice none 0 0, .int .i64 0, .int .i64 0]⟩

theorem tok3 : TOk1 Try.prog 3 ti3 := ⟨by kernel_rfl, by kernel_rfl, by kernel_rfl⟩
theorem tok4 : TOk1 Try.prog 4 ti4 := ⟨by kernel_rfl, by kernel_rfl, by kernel_rfl⟩
theorem tok5 : TOk1 Try.prog 5 ti5 := ⟨by kernel_rfl, by kernel_rfl, by kernel_rfl⟩
theorem tok9 : TOk1 Try.prog 9 ti9 := ⟨by kernel_rfl, by kernel_rfl, by kernel_rfl⟩
theorem tok22 : TOk1 Try.prog 22 ti22 := ⟨by kernel_rfl, by kernel_rfl, by kernel_rfl⟩
theorem tok24 : TOk1 Try.prog 24 ti24 := ⟨by kernel_rfl, by kernel_rfl, by kernel_rfl⟩
theorem tok50 : TOk1 Try.prog 50 ti50 := ⟨by kernel_rfl, by kernel_rfl, by kernel_rfl⟩
theorem tok54 : TOk1 Try.prog 54 ti54 := ⟨by kernel_rfl, by kernel_rfl, by kernel_rfl⟩
theorem tok73 : TOk1 Try.prog 73 ti73 := ⟨by kernel_rfl, by kernel_rfl, by kernel_rfl⟩
theorem tok79 : TOk1 Try.prog 79 ti79 := ⟨by kernel_rfl, by kernel_rfl, by kernel_rfl⟩
theorem tok87 : TOk1 Try.prog 87 ti87 := ⟨by kernel_rfl, by kernel_rfl, by kernel_rfl⟩
theorem tok93 : TOk1 Try.prog 93 ti93 := ⟨by kernel_rfl, by kernel_rfl, by kernel_rfl⟩
theorem tok97 : TOk1 Try.prog 97 ti97 := ⟨by kernel_rfl, by kernel_rfl, by kernel_rfl⟩
theorem tok98 : TOk1 Try.prog 98 ti98 := ⟨by kernel_rfl, by kernel_rfl, by kernel_rfl⟩
theorem tok102 : TOk1 Try.prog 102 ti102 := ⟨by kernel_rfl, by kernel_rfl, by kernel_rfl⟩

def tt : TT := [(3, ti3), (4, ti4), (5, ti5), (9, ti9), (22, ti22), (24, ti24), (50, ti50), (54, ti54), (73, ti73), (79, ti79), (87, ti87), (93, ti93), (97, ti97), (98, ti98), (102, ti102)]
theorem ttOk : TOk Try.prog tt := TOk.cons tok3 (TOk.cons tok4 (TOk.cons tok5 (TOk.cons tok9 (TOk.cons tok22 (TOk.cons tok24 (TOk.cons tok50 (TOk.cons tok54 (TOk.cons tok73 (TOk.cons tok79 (TOk.cons tok87 (TOk.cons tok93 (TOk.cons tok97 (TOk.cons tok98 (TOk.cons tok102 (TOk.nil _)))))))))))))))
theorem mixed : Try.prog.follows .mixedOrders = true := by kernel_rfl
theorem own : ownKnob Try.prog.godebug = none := by kernel_rfl
theorem laidOut : laidOutB Try.prog = true := by kernel_rfl
noncomputable def env : Env := ⟨Try.prog, tt, ttOk, mixed⟩
end Go.Proofs.Ytdfdlnjijccpeaa
