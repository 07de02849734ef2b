/- What the law HierBase wants to know: who is under Error among the classes that always stand. -/
import Derived.Test.YthahhonmkhafkaaDoorHierR
namespace Go.Proofs.YthahhonmkhafkaaDoor.Am
set_option linter.unusedSimpArgs false
set_option linter.unusedVariables false
set_option linter.unusedSectionVars false
open Go

/-- The names of the classes that always stand. -/
def baseN : List ByteArray := [sObject, sError, sNullError, sRangeError, sCastError, sNumError, sSizeError, sDepthError]
theorem baseN_in (p : GProgram) : ∀ w ∈ baseN, w ∈ namesOf (allL p) := by
  intro w hw
  have e : namesOf (allL p) = baseN ++ namesOf p.classes := by simp [namesOf, allL, baseL, baseN]
  rw [e]; exact List.mem_append_left _ hw
theorem nx_base (p : GProgram) : ∀ w ∈ baseN, nx (allL p) w = nx baseL w := by
  intro w hw
  have hb : w ∈ namesOf baseL := hw
  obtain ⟨c, h1, _, _⟩ := find_name hb
  have h1' : baseL.find? (fun c : GClass => decide (c.name = w)) = some c := h1
  unfold nx
  rw [h1]
  have : findC (allL p) w = some c := by
    unfold findC allL
    rw [List.find?_append, h1']; rfl
  rw [this]
theorem nx_errors : (baseN.drop 2).all (fun w => decide (nx baseL w = [sError])) = true := by decide

theorem base_error {p : GProgram} (hp : OkP p) (h : hierP p = 0) : ∀ w ∈ baseN, underP p w sError = !decide (w = sObject) := by
  intro w hw
  have hin := baseN_in p w hw
  have n1 : ¬ sError = sObject := by decide
  by_cases ho : w = sObject
  · subst ho
    rw [decide_eq_true rfl, Bool.not_true, Bool.eq_false_iff]
    intro hu
    rcases (under_iff hp h hin sError).mp hu with a | a
    · exact n1 a
    · exact n1 (rch_object a)
  · rw [decide_eq_false ho, Bool.not_false]
    refine (under_iff hp h hin sError).mpr (Or.inr ?_)
    by_cases he : w = sError
    · subst he; exact .refl
    · have hd : w ∈ baseN.drop 2 := by
        simp only [baseN, List.mem_cons, List.drop_succ_cons, List.drop_zero] at hw ⊢
        rcases hw with a | a | a
        · exact absurd a ho
        · exact absurd a he
        · exact a
      have hn := List.all_eq_true.mp nx_errors w hd
      simp only [decide_eq_true_eq] at hn
      refine Rch.refl.step (y := w) ?_
      rw [nx_base p w hw, hn]; simp
theorem base_object {p : GProgram} (hp : OkP p) (h : hierP p = 0) : ∀ w ∈ baseN, underP p w sObject = true := fun w hw => under_object hp h (baseN_in p w hw)
theorem base_sups {p : GProgram} : supP p sError = (if hierP p = 0 then sObject else ⟨#[]⟩) ∧ supP p sObject = ⟨#[]⟩ := by
  have h1 : findC (allL p) sError = some (cls sError sObject) := by simp [findC, allL, baseL]
  have h2 : findC (allL p) sObject = some (cls sObject ⟨#[]⟩) := by simp [findC, allL, baseL]
  have e1 : superL (cls sError sObject) = sObject := by decide
  have e2 : superL (cls sObject ⟨#[]⟩) = ⟨#[]⟩ := by decide
  refine ⟨?_, ?_⟩
  · unfold supP; rw [h1]; simp only [e1]
  · unfold supP; rw [h2]; simp only [e2]; split <;> rfl
end Go.Proofs.YthahhonmkhafkaaDoor.Am
