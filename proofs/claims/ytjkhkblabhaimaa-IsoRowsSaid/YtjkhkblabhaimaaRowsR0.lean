/- The law IsoRows, its runs: for all chains shorter than eight the machine answers true. Printed by a program of this claim. -/
import Derived.Test.YtjkhkblabhaimaaRowsK
namespace Go.Proofs.Ytjkhkblabhaimaa.Am
open Go
theorem k7_0_0 : isT (K7 F7 0 0) = true := by kernel_rfl
theorem k7_0_1 : isT (K7 F7 0 1) = true := by kernel_rfl
theorem k7_0_2 : isT (K7 F7 0 2) = true := by kernel_rfl
theorem k7_0_3 : isT (K7 F7 0 3) = true := by kernel_rfl
theorem k7_0_4 : isT (K7 F7 0 4) = true := by kernel_rfl
theorem k7_0_5 : isT (K7 F7 0 5) = true := by kernel_rfl
theorem k7_0_6 : isT (K7 F7 0 6) = true := by kernel_rfl
theorem k7_0_7 : isT (K7 F7 0 7) = true := by kernel_rfl
theorem k7_1_0 : isT (K7 F7 1 0) = true := by kernel_rfl
theorem k7_1_1 : isT (K7 F7 1 1) = true := by kernel_rfl
theorem k7_1_2 : isT (K7 F7 1 2) = true := by kernel_rfl
theorem k7_1_3 : isT (K7 F7 1 3) = true := by kernel_rfl
theorem k7_1_4 : isT (K7 F7 1 4) = true := by kernel_rfl
theorem k7_1_5 : isT (K7 F7 1 5) = true := by kernel_rfl
theorem k7_1_6 : isT (K7 F7 1 6) = true := by kernel_rfl
theorem k7_1_7 : isT (K7 F7 1 7) = true := by kernel_rfl
end Go.Proofs.Ytjkhkblabhaimaa.Am
