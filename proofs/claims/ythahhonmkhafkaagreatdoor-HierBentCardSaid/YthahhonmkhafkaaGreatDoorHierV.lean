/- A class more, of no other: what the law HierMore wants to know. -/
import Derived.Test.YthahhonmkhafkaaGreatDoorHierU
namespace Go.Proofs.YthahhonmkhafkaaGreatDoor.Am
set_option linter.unusedSimpArgs false
set_option linter.unusedVariables false
set_option linter.unusedSectionVars false
open Go

abbrev sNew : ByteArray := ⟨#[90, 122, 95, 110, 101, 119]⟩
abbrev newC : GClass := cls sNew ⟨#[]⟩
def addP (p : GProgram) : GProgram := ⟨p.classes ++ [newC]⟩
theorem allL_add (p : GProgram) : allL (addP p) = allL p ++ [newC] := by simp [allL, addP]

section
variable {p : GProgram} (hz : sNew ∉ namesOf (allL p))
include hz
theorem find_old {s : ByteArray} (hs : s ∈ namesOf (allL p)) : findC (allL (addP p)) s = findC (allL p) s := by
  obtain ⟨c, h1, _, _⟩ := find_name hs
  have h1' : (allL p).find? (fun c : GClass => decide (c.name = s)) = some c := h1
  rw [h1, allL_add]
  unfold findC
  rw [List.find?_append, h1']; rfl
theorem find_new : findC (allL (addP p)) sNew = some newC := by
  rw [allL_add]
  unfold findC
  rw [List.find?_append]
  have : (allL p).find? (fun c : GClass => decide (c.name = sNew)) = none := by
    rw [List.find?_eq_none]
    intro c hc h
    simp only [decide_eq_true_eq] at h
    exact hz (List.mem_map.mpr ⟨c, hc, h⟩)
  rw [this]; rfl
theorem nx_old {s : ByteArray} (hs : s ∈ namesOf (allL p)) : nx (allL (addP p)) s = nx (allL p) s := by
  unfold nx; rw [find_old hz hs]
theorem nx_new : nx (allL (addP p)) sNew = [sObject] := by
  unfold nx; rw [find_new hz]; decide
theorem rch_old (hw : Whole (allL p)) {s x : ByteArray} (hs : s ∈ namesOf (allL p)) : Rch (allL (addP p)) s x ↔ Rch (allL p) s x := by
  constructor
  · intro h
    induction h with
    | refl => exact .refl
    | @step y x _ hx ih =>
      rw [nx_old hz (ih.names hw hs)] at hx
      exact ih.step hx
  · intro h
    induction h with
    | refl => exact .refl
    | @step y x hy hx ih =>
      refine ih.step ?_
      rw [nx_old hz (hy.names hw hs)]; exact hx
theorem rch_new {x : ByteArray} (h : Rch (allL (addP p)) sNew x) : x = sNew ∨ x = sObject := by
  induction h with
  | refl => exact Or.inl rfl
  | @step y x _ hx ih =>
    rcases ih with rfl | rfl
    · rw [nx_new hz] at hx; exact Or.inr (by simpa using hx)
    · rw [nx_old hz (obj_in p), nx_object] at hx; cases hx
end

theorem newC_ok : OkC newC := okC (by decide)
theorem add_ok {p : GProgram} (hp : OkP p) (h : p.classes.length < 10) : OkP (addP p) := ⟨by simp [addP]; omega, fun c hc => by
  rcases List.mem_append.mp hc with a | a
  · exact hp.cs c a
  · simp at a; subst a; exact newC_ok⟩
theorem newC_class : classB newC = true := by kernel_rfl

/-- What a sound order says, whole. -/
theorem hier_parts {p : GProgram} (h : hierP p = 0) : progB p = true ∧ (namesOf (allL p)).Nodup ∧ (allL p).any (lostB (allL p)) = false := by
  unfold hierP at h
  cases hb : progB p
  · rw [hb] at h; cases h
  rw [hb] at h
  simp only [cond_true] at h
  by_cases ht : (mapL (allL p)).length < (allL p).length
  · simp [ht] at h
  simp only [ht, decide_false, cond_false] at h
  cases hl : (allL p).any (lostB (allL p))
  · exact ⟨rfl, (mapL_eq ht).2, rfl⟩
  · rw [hl] at h; cases h

theorem add_names (p : GProgram) : namesOf (allL (addP p)) = namesOf (allL p) ++ [sNew] := by
  rw [allL_add]; simp [namesOf]
theorem add_nodup {p : GProgram} (hz : sNew ∉ namesOf (allL p)) (h : (namesOf (allL p)).Nodup) : (namesOf (allL (addP p))).Nodup := by
  rw [add_names, List.nodup_append]
  refine ⟨h, by simp, ?_⟩
  rintro a ha b hb rfl
  simp at hb; subst hb; exact hz ha
theorem noSup_add {p : GProgram} {s : ByteArray} (h : noSup (allL p) s = false) : noSup (allL (addP p)) s = false := by
  rw [allL_add]
  unfold noSup at *
  rw [List.find?_append]
  cases hf : (allL p).find? (fun x : GClass => decide (x.name = s)) with
  | none => rw [hf] at h; cases h
  | some d => rw [hf] at h; simpa using h
theorem noIf_add {p : GProgram} {s : ByteArray} (h : noIf (allL p) s = false) : noIf (allL (addP p)) s = false := by
  rw [allL_add]
  unfold noIf at *
  rw [List.find?_append]
  cases hf : (allL p).find? (fun x : GClass => decide (x.name = s)) with
  | none => rw [hf] at h; cases h
  | some d => rw [hf] at h; simpa using h
theorem add_lost {p : GProgram} (h : (allL p).any (lostB (allL p)) = false) : (allL (addP p)).any (lostB (allL (addP p))) = false := by
  refine List.any_eq_false.mpr fun c hc => ?_
  have key : lostB (allL (addP p)) c = false := by
    rw [allL_add] at hc
    rcases List.mem_append.mp hc with a | a
    · have hl : lostB (allL p) c = false := by simpa using List.any_eq_false.mp h c a
      rw [lostB_eq] at hl ⊢
      simp only [Bool.or_eq_false_iff, Bool.and_eq_false_iff] at hl ⊢
      refine ⟨hl.1.imp id noSup_add, List.any_eq_false.mpr fun s hs => ?_⟩
      have := List.any_eq_false.mp hl.2 s hs
      rw [noIf_add (by simpa using this)]; simp
    · simp at a; subst a
      have h0 : noSup (allL p) sObject = false := by simp [noSup, allL, baseL]
      have h1 := noSup_add h0
      have h2 : superL newC = sObject := by decide
      rw [lostB_eq, h2, h1]
      simp
  rw [key]; simp
theorem add_hier {p : GProgram} (hp : OkP p) (h : hierP p = 0) (hlen : p.classes.length < 10) (hz : sNew ∉ namesOf (allL p)) : hierP (addP p) = 0 := by
  have sane := sane_of hp h
  obtain ⟨h1, h2, h3⟩ := hier_parts h
  have hq := add_ok hp hlen
  have hL := all_len hq
  have nd := add_nodup hz h2
  have lo := add_lost h3
  have hw := whole_of lo
  have hpb : progB (addP p) = true := by
    unfold progB at *
    simp only [Bool.and_eq_true, decide_eq_true_eq] at h1 ⊢
    refine ⟨by simp [addP]; omega, ?_⟩
    simp only [addP, List.all_append, h1.2, List.all_cons, newC_class, List.all_nil, Bool.and_self]
  have hr : (namesOf (allL (addP p))).any (ringP (allL (addP p))) = false := by
    refine List.any_eq_false.mpr fun s hs hring => ?_
    obtain ⟨y, hy, hyr⟩ := (ring_iff hL hw hs).mp hring
    rw [add_names] at hs
    rcases List.mem_append.mp hs with a | a
    · rw [nx_old hz a] at hy
      have hyn := sane.whole s a y hy
      exact sane.noring s a ⟨y, hy, (rch_old hz sane.whole hyn).mp hyr⟩
    · simp at a; subst a
      rw [nx_new hz] at hy
      simp at hy; subst hy
      have := rch_object ((rch_old hz sane.whole (obj_in p)).mp hyr)
      exact absurd this (by decide)
  unfold hierP
  have ht : ¬ (mapL (allL (addP p))).length < (allL (addP p)).length := by rw [mapL_nodup nd]; omega
  simp [hpb, ht, lo, hr]

section
variable {p : GProgram} (hp : OkP p) (h : hierP p = 0) (hlen : p.classes.length < 10) (hz : sNew ∉ namesOf (allL p))
include hp h hlen hz
theorem in_add {x : ByteArray} (hx : x ∈ namesOf (allL p)) : x ∈ namesOf (allL (addP p)) := by
  rw [add_names]; exact List.mem_append_left _ hx
theorem under_add {x : ByteArray} (hx : x ∈ namesOf (allL p)) (y : ByteArray) : underP (addP p) x y = underP p x y := by
  have hq := add_ok hp hlen
  have hqP := add_hier hp h hlen hz
  have sane := sane_of hp h
  rw [Bool.eq_iff_iff, under_iff hq hqP (in_add hp h hlen hz hx) y, under_iff hp h hx y, rch_old hz sane.whole hx]
theorem under_new {x : ByteArray} (hx : x ∈ namesOf (allL p)) : underP (addP p) sNew x = decide (x = sObject) := by
  have hq := add_ok hp hlen
  have hqP := add_hier hp h hlen hz
  have hin : sNew ∈ namesOf (allL (addP p)) := by rw [add_names]; simp
  rw [Bool.eq_iff_iff, under_iff hq hqP hin x, decide_eq_true_eq]
  constructor
  · rintro (a | a)
    · exact a
    · rcases rch_new hz a with b | b
      · subst b; exact absurd hx hz
      · exact b
  · exact Or.inl
theorem not_under_new {x : ByteArray} (hx : x ∈ namesOf (allL p)) : underP (addP p) x sNew = false := by
  rw [under_add hp h hlen hz hx, Bool.eq_false_iff]
  intro hu
  rcases (under_iff hp h hx sNew).mp hu with a | a
  · exact absurd a (by decide)
  · exact hz (a.names (sane_of hp h).whole hx)
theorem want_add {x : ByteArray} (hx : x ∈ namesOf (allL p)) : wantL (addP p) x = wantL p x ++ (if x = sObject then [sNew] else []) := by
  have e : wantL (addP p) x = ((p.classes ++ [newC]).filter fun c => !c.iface && underP (addP p) c.name x).map (·.name) := rfl
  rw [e, List.filter_append, List.map_append]
  congr 1
  · unfold wantL
    congr 1
    apply List.filter_congr
    intro c hc
    have hn : c.name ∈ namesOf (allL p) := List.mem_map.mpr ⟨c, by simp [allL, hc], rfl⟩
    rw [under_add hp h hlen hz hn]
  · have hu := under_new hp h hlen hz hx
    by_cases hxo : x = sObject
    · simp only [hxo, decide_true] at hu
      simp [hxo, hu]
    · simp only [hxo, decide_false] at hu
      simp [hxo, hu]
end
end Go.Proofs.YthahhonmkhafkaaGreatDoor.Am
