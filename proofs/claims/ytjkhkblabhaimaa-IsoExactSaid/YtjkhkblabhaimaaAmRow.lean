/- From the machine's answer to what a row asks of the call. -/
import Derived.Test.YtjkhkblabhaimaaAmTop
namespace Go.Proofs.Ytjkhkblabhaimaa.Am
set_option linter.unusedSimpArgs false
set_option linter.unusedVariables false
open Go Go.RowKit

/-- All that stands when the call begins is frozen. -/
def g0 (w : World) : G := ⟨[], fun b => if b < w.heap.size then .frozen else .free, fun _ => none⟩

theorem inv0 (w : World) : Inv (g0 w) w (Old w) [] where
  len := rfl
  ob l o h := by simp at h
  lt b h := by
    simp only [g0] at h
    split at h
    · assumption
    · exact absurd rfl h
  pr b h := by
    refine ⟨h, fun l hl => ?_, fun l i hl => (by cases hl)⟩
    simp only [g0] at hl
    split at hl <;> cases hl

theorem walk {P : Program} {F : Oracle} {f : Nat} {args : List V} {vs : Array Value} {w : World} {b : Bool} {σ : List Ob} (hS : Sound P F) (h : F f args [] 0 0 = some (.c (.b (.d (.bool b))), σ)) (ha : Args (g0 w) w (Old w) args vs) :
    Calls P (fnOf f) vs w fun e w' => e = .returned (.bool b) ∧ Below w.heap.size w w' := by
  refine (hS.1 f _ _ _ _ _ _ h (g0 w) w (Old w) vs 0 (inv0 w) ha).mono ?_
  rintro e w' ⟨u, g', rfl, x1, x2, x3, x4⟩
  have hu : u = .bool b := by
    have h : RepD (g'.st w') (.bool b) u := x4
    cases h; rfl
  subst hu
  exact ⟨rfl, x1.os, x1.tape, x1.output, x1.size, fun k hk => (x2 k hk).1⟩
end Go.Proofs.Ytjkhkblabhaimaa.Am
