/- The law IsoRows is true of all numbers: what the row asks of the call. -/
import Derived.Test.YtjkhkblabhaimaaRowsR0
import Derived.Test.YtjkhkblabhaimaaRowsR1
import Derived.Test.YtjkhkblabhaimaaRowsR2
import Derived.Test.YtjkhkblabhaimaaRowsR3
namespace Go.Proofs.Ytjkhkblabhaimaa.Am
open Go Go.RowKit

theorem k7_all : ∀ a b : Nat, a < 8 → b < 8 → isT (K7 F7 a b) = true
  | 0, 0, _, _ => k7_0_0
  | 0, 1, _, _ => k7_0_1
  | 0, 2, _, _ => k7_0_2
  | 0, 3, _, _ => k7_0_3
  | 0, 4, _, _ => k7_0_4
  | 0, 5, _, _ => k7_0_5
  | 0, 6, _, _ => k7_0_6
  | 0, 7, _, _ => k7_0_7
  | 1, 0, _, _ => k7_1_0
  | 1, 1, _, _ => k7_1_1
  | 1, 2, _, _ => k7_1_2
  | 1, 3, _, _ => k7_1_3
  | 1, 4, _, _ => k7_1_4
  | 1, 5, _, _ => k7_1_5
  | 1, 6, _, _ => k7_1_6
  | 1, 7, _, _ => k7_1_7
  | 2, 0, _, _ => k7_2_0
  | 2, 1, _, _ => k7_2_1
  | 2, 2, _, _ => k7_2_2
  | 2, 3, _, _ => k7_2_3
  | 2, 4, _, _ => k7_2_4
  | 2, 5, _, _ => k7_2_5
  | 2, 6, _, _ => k7_2_6
  | 2, 7, _, _ => k7_2_7
  | 3, 0, _, _ => k7_3_0
  | 3, 1, _, _ => k7_3_1
  | 3, 2, _, _ => k7_3_2
  | 3, 3, _, _ => k7_3_3
  | 3, 4, _, _ => k7_3_4
  | 3, 5, _, _ => k7_3_5
  | 3, 6, _, _ => k7_3_6
  | 3, 7, _, _ => k7_3_7
  | 4, 0, _, _ => k7_4_0
  | 4, 1, _, _ => k7_4_1
  | 4, 2, _, _ => k7_4_2
  | 4, 3, _, _ => k7_4_3
  | 4, 4, _, _ => k7_4_4
  | 4, 5, _, _ => k7_4_5
  | 4, 6, _, _ => k7_4_6
  | 4, 7, _, _ => k7_4_7
  | 5, 0, _, _ => k7_5_0
  | 5, 1, _, _ => k7_5_1
  | 5, 2, _, _ => k7_5_2
  | 5, 3, _, _ => k7_5_3
  | 5, 4, _, _ => k7_5_4
  | 5, 5, _, _ => k7_5_5
  | 5, 6, _, _ => k7_5_6
  | 5, 7, _, _ => k7_5_7
  | 6, 0, _, _ => k7_6_0
  | 6, 1, _, _ => k7_6_1
  | 6, 2, _, _ => k7_6_2
  | 6, 3, _, _ => k7_6_3
  | 6, 4, _, _ => k7_6_4
  | 6, 5, _, _ => k7_6_5
  | 6, 6, _, _ => k7_6_6
  | 6, 7, _, _ => k7_6_7
  | 7, 0, _, _ => k7_7_0
  | 7, 1, _, _ => k7_7_1
  | 7, 2, _, _ => k7_7_2
  | 7, 3, _, _ => k7_7_3
  | 7, 4, _, _ => k7_7_4
  | 7, 5, _, _ => k7_7_5
  | 7, 6, _, _ => k7_7_6
  | 7, 7, _, _ => k7_7_7
  | _ + 8, _, h, _ => by omega
  | 0, _ + 8, _, h | 1, _ + 8, _, h | 2, _ + 8, _, h | 3, _ + 8, _, h | 4, _ + 8, _, h | 5, _ + 8, _, h | 6, _ + 8, _, h | 7, _ + 8, _, h => by omega

theorem f7_true (n m : Int) : evf fns 200 7 [i64 n, i64 m] [] 0 0 = some (.c (.b (.d (.bool true))), []) := by
  obtain ⟨a, ha, ea⟩ := low8_lt n
  obtain ⟨b, hb, eb⟩ := low8_lt m
  rw [f7_eq, ea, eb, ← F7_eq]
  exact isT_eq (k7_all a b ha hb)

theorem rows_walk (n m : Int) (w : World) : Calls Try.prog 7 #[.int .i64 n, .int .i64 m] w fun e w' => e = .returned (.bool true) ∧ Below w.heap.size w w' := by
  refine walk (f := 7) (run_ok 200) (f7_true n m) ⟨rfl, fun i x hi => ?_⟩
  match i, hi with
  | 0, hi => cases hi; exact ⟨rfl, _, rfl, RepD.int _ _⟩
  | 1, hi => cases hi; exact ⟨rfl, _, rfl, RepD.int _ _⟩
end Go.Proofs.Ytjkhkblabhaimaa.Am
