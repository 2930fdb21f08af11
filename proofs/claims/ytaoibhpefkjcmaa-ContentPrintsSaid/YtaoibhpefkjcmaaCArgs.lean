/-
  Layer 4 (content): the laws' arguments, read as Lean's own data.
-/
import Derived.Test.YtaoibhpefkjcmaaCModel
import Derived.Test.YtaoibhpefkjcmaaAb19
namespace Go.Proofs.Ytaoibhpefkjcmaa
set_option linter.unusedVariables false
set_option linter.unusedSimpArgs false
open Go.RowKit Go.Lad
theorem opens_strings : Opens Try.prog 22 (List ByteArray) := opens_slice Try.underlying22 (by kernel_rfl) (by decide) (opens_string Try.underlying9)
theorem opens_ints : Opens Try.prog 23 (List Int) := opens_slice Try.underlying23 (by kernel_rfl) (by decide) (opens_int Try.underlying3)
theorem enc_s (s : ByteArray) : eS (bs s) = EncT.enc s := by
  unfold eS
  rw [bs_mk]
  rfl
theorem enc_i (n : Int) : eI_i64 (id n) = EncT.enc n := rfl
end Go.Proofs.Ytaoibhpefkjcmaa
