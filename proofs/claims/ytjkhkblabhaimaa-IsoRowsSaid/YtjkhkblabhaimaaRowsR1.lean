/- The law IsoRows, its runs: for all chains shorter than eight the machine answers true. Printed by a program of this claim. -/
import Derived.Test.YtjkhkblabhaimaaRowsK
namespace Go.Proofs.Ytjkhkblabhaimaa.Am
open Go
theorem k7_2_0 : isT (K7 F7 2 0) = true := by kernel_rfl
theorem k7_2_1 : isT (K7 F7 2 1) = true := by kernel_rfl
theorem k7_2_2 : isT (K7 F7 2 2) = true := by kernel_rfl
theorem k7_2_3 : isT (K7 F7 2 3) = true := by kernel_rfl
theorem k7_2_4 : isT (K7 F7 2 4) = true := by kernel_rfl
theorem k7_2_5 : isT (K7 F7 2 5) = true := by kernel_rfl
theorem k7_2_6 : isT (K7 F7 2 6) = true := by kernel_rfl
theorem k7_2_7 : isT (K7 F7 2 7) = true := by kernel_rfl
theorem k7_3_0 : isT (K7 F7 3 0) = true := by kernel_rfl
theorem k7_3_1 : isT (K7 F7 3 1) = true := by kernel_rfl
theorem k7_3_2 : isT (K7 F7 3 2) = true := by kernel_rfl
theorem k7_3_3 : isT (K7 F7 3 3) = true := by kernel_rfl
theorem k7_3_4 : isT (K7 F7 3 4) = true := by kernel_rfl
theorem k7_3_5 : isT (K7 F7 3 5) = true := by kernel_rfl
theorem k7_3_6 : isT (K7 F7 3 6) = true := by kernel_rfl
theorem k7_3_7 : isT (K7 F7 3 7) = true := by kernel_rfl
end Go.Proofs.Ytjkhkblabhaimaa.Am
