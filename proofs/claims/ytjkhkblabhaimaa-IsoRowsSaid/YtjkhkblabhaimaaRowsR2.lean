/- The law IsoRows, its runs: for all chains shorter than eight the machine answers true. Printed by a program of this claim. -/
import Derived.Test.YtjkhkblabhaimaaRowsK
namespace Go.Proofs.Ytjkhkblabhaimaa.Am
open Go
theorem k7_4_0 : isT (K7 F7 4 0) = true := by kernel_rfl
theorem k7_4_1 : isT (K7 F7 4 1) = true := by kernel_rfl
theorem k7_4_2 : isT (K7 F7 4 2) = true := by kernel_rfl
theorem k7_4_3 : isT (K7 F7 4 3) = true := by kernel_rfl
theorem k7_4_4 : isT (K7 F7 4 4) = true := by kernel_rfl
theorem k7_4_5 : isT (K7 F7 4 5) = true := by kernel_rfl
theorem k7_4_6 : isT (K7 F7 4 6) = true := by kernel_rfl
theorem k7_4_7 : isT (K7 F7 4 7) = true := by kernel_rfl
theorem k7_5_0 : isT (K7 F7 5 0) = true := by kernel_rfl
theorem k7_5_1 : isT (K7 F7 5 1) = true := by kernel_rfl
theorem k7_5_2 : isT (K7 F7 5 2) = true := by kernel_rfl
theorem k7_5_3 : isT (K7 F7 5 3) = true := by kernel_rfl
theorem k7_5_4 : isT (K7 F7 5 4) = true := by kernel_rfl
theorem k7_5_5 : isT (K7 F7 5 5) = true := by kernel_rfl
theorem k7_5_6 : isT (K7 F7 5 6) = true := by kernel_rfl
theorem k7_5_7 : isT (K7 F7 5 7) = true := by kernel_rfl
end Go.Proofs.Ytjkhkblabhaimaa.Am
