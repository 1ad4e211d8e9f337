/-
  More of byte strings: cut at one end. No program in sight. Conditions: none.
-/
import Derived.Test.YtdkgmpchcahajaaVcQ
namespace Go.Vc
open Go
set_option linter.unusedVariables false
variable {P : Program} {h : Hp}
theorem rd_cutH {t : TypeId} (ht : P.underlying t = some .string) {l : List UInt8} {j : Int} (h0 : 0 ≤ j) (h2 : j ≤ l.length) : Rd P (Instr.sliceAt t (vs (bs l)) none (some (vi j)) none) h (vs (bs (l.take j.toNat))) := by
  intro w _
  rw [run_sliceAt_string w t _ _ _ _ ht, run_slice_string_h w t (bs l) ht .i64 j h0 (by rw [bs_size]; exact h2), bs_extract]
  simp
theorem rd_cutL {t : TypeId} (ht : P.underlying t = some .string) {l : List UInt8} {i : Int} (h0 : 0 ≤ i) (h2 : i ≤ l.length) : Rd P (Instr.sliceAt t (vs (bs l)) (some (vi i)) none none) h (vs (bs (l.drop i.toNat))) := by
  intro w _
  rw [run_sliceAt_string w t _ _ _ _ ht, run_slice_string_l w t (bs l) ht .i64 i h0 (by rw [bs_size]; exact h2), bs_extract, bs_size]
  rw [List.take_of_length_le (by simp)]
end Go.Vc
