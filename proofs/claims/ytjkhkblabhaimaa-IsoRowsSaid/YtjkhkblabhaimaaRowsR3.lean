/- The law IsoRows, its runs: for all chains shorter than eight the machine answers true. Printed by a program of this claim. -/
import Derived.Test.YtjkhkblabhaimaaRowsK
namespace Go.Proofs.Ytjkhkblabhaimaa.Am
open Go
theorem k7_6_0 : isT (K7 F7 6 0) = true := by kernel_rfl
theorem k7_6_1 : isT (K7 F7 6 1) = true := by kernel_rfl
theorem k7_6_2 : isT (K7 F7 6 2) = true := by kernel_rfl
theorem k7_6_3 : isT (K7 F7 6 3) = true := by kernel_rfl
theorem k7_6_4 : isT (K7 F7 6 4) = true := by kernel_rfl
theorem k7_6_5 : isT (K7 F7 6 5) = true := by kernel_rfl
theorem k7_6_6 : isT (K7 F7 6 6) = true := by kernel_rfl
theorem k7_6_7 : isT (K7 F7 6 7) = true := by kernel_rfl
theorem k7_7_0 : isT (K7 F7 7 0) = true := by kernel_rfl
theorem k7_7_1 : isT (K7 F7 7 1) = true := by kernel_rfl
theorem k7_7_2 : isT (K7 F7 7 2) = true := by kernel_rfl
theorem k7_7_3 : isT (K7 F7 7 3) = true := by kernel_rfl
theorem k7_7_4 : isT (K7 F7 7 4) = true := by kernel_rfl
theorem k7_7_5 : isT (K7 F7 7 5) = true := by kernel_rfl
theorem k7_7_6 : isT (K7 F7 7 6) = true := by kernel_rfl
theorem k7_7_7 : isT (K7 F7 7 7) = true := by kernel_rfl
end Go.Proofs.Ytjkhkblabhaimaa.Am
