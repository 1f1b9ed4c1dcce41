/- What is the same for all closed calls of this program. -/
import Derived.Test.YtmpiblpcdhgppaaGreatDoorZqStart
import Derived.Test.YtmpiblpcdhgppaaGreatDoorSmRep
import Derived.Laws.Externs
namespace Go.Proofs.Small
open Go Go.Abs Go.Proofs
def zi (n : Nat) : Value := .int .i64 (.ofNat n)
def zs (l : List UInt8) : Value := .string ⟨⟨l⟩⟩
def zp (i o : Nat) : Value := .pointer (some ⟨i, o, none⟩)
def good : Nat := 465564207887841770952500110757747780549665710025871596710974618834355355644
def ext : CallF := extOr (extIdx 158) (extRep 14)
theorem fine : ∀ f, Nat.testBit good f = true → fnFine Tryz.prog 4 f = true :=
  fine_of (n := 249) (by decide +kernel) (by decide +kernel)
theorem base : Base Tryz.prog 4 good ext := {
  fns := fine
  mixed := by kernel_rfl
  ext := extOr_sound (extIdx_sound fun s c w => by
      rw [run_callFunc_extern Tryz.func158 (by kernel_rfl) (by kernel_rfl) (by kernel_rfl) (e := Extern.BytealgIndexByte.indexByte) (by kernel_rfl), Lib.run_indexByteString]
      rfl)
    (extRep_sound Tryz.func14 (by kernel_rfl) (by kernel_rfl) Tryz.strings_Repeat) }
end Go.Proofs.Small
