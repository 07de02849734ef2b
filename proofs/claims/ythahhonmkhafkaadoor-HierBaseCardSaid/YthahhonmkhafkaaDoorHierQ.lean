/- The program's order is the page's; what a sound order is. -/
import Derived.Test.YthahhonmkhafkaaDoorHierP
namespace Go.Proofs.YthahhonmkhafkaaDoor.Am
set_option linter.unusedSimpArgs false
set_option linter.unusedVariables false
set_option linter.unusedSectionVars false
open Go

theorem mapL_nodup {l : List GClass} (h : (namesOf l).Nodup) : mapL l = l := by
  have key : ∀ (l m : List GClass), (namesOf (m ++ l)).Nodup → l.foldl updL m = m ++ l := by
    intro l
    induction l with
    | nil => intro m _; simp
    | cons c t ih =>
      intro m hm
      rw [List.foldl_cons]
      have hq : m.findIdx? (fun x : GClass => decide (x.name = c.name)) = none := by
        rw [List.findIdx?_eq_none_iff]
        intro x hx
        simp only [decide_eq_false_iff_not]
        intro e
        unfold namesOf at hm
        rw [List.map_append, List.nodup_append] at hm
        exact hm.2.2 x.name (List.mem_map_of_mem hx) c.name (by simp) e
      have hu : updL m c = m ++ [c] := by simp [updL, hq]
      rw [hu, ih (m ++ [c]) (by simpa using hm)]
      simp
  simpa [mapL] using key l [] (by simpa using h)

theorem twice_iff (l : List GClass) : twiceB l = false ↔ (namesOf l).Nodup := by
  have hlen : (namesOf l).length = l.length := by simp [namesOf]
  constructor
  · intro h
    rw [List.Nodup, List.pairwise_iff_getElem]
    intro i j hi hj hij e
    have hj' : j < l.length := by omega
    have h1 := List.any_eq_false.mp h (l[j], j) (by rw [List.mem_zipIdx_iff_getElem?]; simp [hj'])
    simp only [Bool.not_eq_true', decide_eq_false_iff_not, Decidable.not_not] at h1
    rcases at_find (l := l) (s := l[j].name) with ⟨h2, h3⟩ | ⟨k, hk, h2, h3, h4, h5⟩
    · have := List.find?_eq_none.mp h2 l[j] (List.getElem_mem hj')
      simp at this
    · rw [h1] at h2
      have : k = j := by omega
      subst this
      refine h5 i hij ?_
      simpa [namesOf] using e
  · intro h
    refine List.any_eq_false.mpr ?_
    rintro ⟨c, i⟩ hx
    rw [List.mem_zipIdx_iff_getElem?] at hx
    obtain ⟨hi, hc⟩ := List.getElem?_eq_some_iff.mp hx
    simp only at hc hi
    subst hc
    simp only [Bool.not_eq_true', decide_eq_false_iff_not, Decidable.not_not]
    rcases at_find (l := l) (s := l[i].name) with ⟨h2, h3⟩ | ⟨k, hk, h2, h3, h4, h5⟩
    · have := List.find?_eq_none.mp h2 l[i] (List.getElem_mem hi)
      simp at this
    · rw [h2]
      by_cases hki : k = i
      · subst hki; rfl
      · have e : (namesOf l)[k]'(by omega) = (namesOf l)[i]'(by omega) := by simpa [namesOf] using h4
        have hp := List.pairwise_iff_getElem.mp h
        rcases Nat.lt_or_gt_of_ne hki with a | a
        · exact absurd e (hp k i (by omega) (by omega) a)
        · exact absurd e.symm (hp i k (by omega) (by omega) a)

theorem find_self {l : List GClass} (h : (namesOf l).Nodup) {c : GClass} (hc : c ∈ l) : findC l c.name = some c := by
  obtain ⟨d, h1, h2, h3⟩ := find_name (List.mem_map_of_mem (f := fun c : GClass => c.name) hc)
  rw [h1]
  obtain ⟨i, hi, rfl⟩ := List.mem_iff_getElem.mp hc
  obtain ⟨j, hj, rfl⟩ := List.mem_iff_getElem.mp h2
  have hlen : (namesOf l).length = l.length := by simp [namesOf]
  by_cases hij : j = i
  · subst hij; rfl
  · have e : (namesOf l)[j]'(by omega) = (namesOf l)[i]'(by omega) := by simpa [namesOf] using h3
    have hp := List.pairwise_iff_getElem.mp h
    rcases Nat.lt_or_gt_of_ne hij with a | a
    · exact absurd e (hp j i (by omega) (by omega) a)
    · exact absurd e.symm (hp i j (by omega) (by omega) a)

theorem ring_same {l : List GClass} (hL : l.length ≤ 100) (hc : ∀ c ∈ l, OkC c) (hw : Whole l) (hnd : (namesOf l).Nodup) : l.any (ringB l) = (namesOf l).any (ringP l) := by
  have key : ∀ c ∈ l, ringB l c = ringP l c.name := by
    intro c hcl
    have hs : c.name ∈ namesOf l := List.mem_map_of_mem (f := fun c : GClass => c.name) hcl
    have hf := find_self hnd hcl
    have hf' : l.find? (fun x : GClass => decide (x.name = c.name)) = some c := hf
    have ha : ∀ x, x ∈ aboveL c ↔ x ∈ nx l c.name := fun x => by
      have := next_iff hs x
      rwa [show nextL l c.name = aboveL c by simp [nextL, hf']] at this
    rw [Bool.eq_iff_iff, ring_iff hL hw hs]
    unfold ringB
    rw [List.any_eq_true]
    constructor
    · rintro ⟨s, h1, h2⟩
      have h1' := (ha s).mp h1
      exact ⟨s, h1', (reach_iff hL hc hw (hw _ hs _ h1') _).mp (by simpa using h2)⟩
    · rintro ⟨s, h1, h2⟩
      exact ⟨s, (ha s).mpr h1, by simpa using (reach_iff hL hc hw (hw _ hs _ h1) _).mpr h2⟩
  rw [Bool.eq_iff_iff, List.any_eq_true, List.any_eq_true]
  constructor
  · rintro ⟨c, h1, h2⟩
    exact ⟨c.name, List.mem_map_of_mem (f := fun c : GClass => c.name) h1, by rw [← key c h1]; exact h2⟩
  · rintro ⟨s, h1, h2⟩
    obtain ⟨c, h3, rfl⟩ := List.mem_map.mp h1
    exact ⟨c, h3, by rw [key c h3]; exact h2⟩

/-- The program's word is the page's. -/
theorem hier_eq {p : GProgram} (hp : OkP p) : hierP p = hierE p := by
  unfold hierP hierE
  have hL := all_len hp
  have hc := allL_ok hp
  generalize allL p = l at *
  cases progB p
  · rfl
  simp only [cond_true]
  cases ht : twiceB l
  · have hnd := (twice_iff l).mp ht
    have : ¬ (mapL l).length < l.length := by rw [mapL_nodup hnd]; omega
    simp only [this, decide_false, cond_false]
    cases hlo : l.any (lostB l)
    · rw [ring_same hL hc (whole_of hlo) hnd]
    · rfl
  · have : (mapL l).length < l.length := by
      refine Decidable.byContradiction fun hn => ?_
      have := (twice_iff l).mpr (mapL_eq hn).2
      rw [ht] at this; cases this
    simp [this]

/-- A sound order. -/
structure Sane (p : GProgram) : Prop where
  nd : (namesOf (allL p)).Nodup
  whole : Whole (allL p)
  noring : ∀ s ∈ namesOf (allL p), ¬ ∃ y ∈ nx (allL p) s, Rch (allL p) y s
  len : (allL p).length ≤ 100

theorem sane_of {p : GProgram} (hp : OkP p) (h : hierP p = 0) : Sane p := by
  have hL := all_len hp
  unfold hierP at h
  cases hb : progB p
  · rw [hb] at h; cases h
  rw [hb] at h
  simp only [cond_true] at h
  by_cases ht : (mapL (allL p)).length < (allL p).length
  · simp [ht] at h
  simp only [ht, decide_false, cond_false] at h
  cases hlo : (allL p).any (lostB (allL p))
  case true => rw [hlo] at h; cases h
  rw [hlo] at h
  simp only [cond_false] at h
  cases hr : (namesOf (allL p)).any (ringP (allL p))
  case true => rw [hr] at h; cases h
  have hw := whole_of hlo
  exact ⟨(mapL_eq ht).2, hw, fun s hs he => by
    have := List.any_eq_false.mp hr s hs
    exact this ((ring_iff hL hw hs).mpr he), hL⟩

theorem under_iff {p : GProgram} (hp : OkP p) (h : hierP p = 0) {a : ByteArray} (ha : a ∈ namesOf (allL p)) (b : ByteArray) : underP p a b = true ↔ b = sObject ∨ Rch (allL p) a b := by
  have hs := sane_of hp h
  unfold underP
  simp only [h, ha, decide_true, Bool.true_and, decide_eq_true_eq]
  exact up_iff hs.len hs.whole ha b

theorem rch_object {p : GProgram} {x : ByteArray} (h : Rch (allL p) sObject x) : x = sObject := by
  induction h with
  | refl => rfl
  | step _ hx ih => rw [ih, nx_object] at hx; cases hx
theorem Rch.split {l : List GClass} {a b : ByteArray} (h : Rch l a b) : a = b ∨ ∃ y ∈ nx l a, Rch l y b := by
  induction h with
  | refl => exact Or.inl rfl
  | @step y x hy hx ih =>
    rcases ih with rfl | ⟨z, h1, h2⟩
    · exact Or.inr ⟨x, hx, .refl⟩
    · exact Or.inr ⟨z, h1, h2.step hx⟩

theorem under_names {p : GProgram} {a b : ByteArray} (hu : underP p a b = true) : a ∈ namesOf (allL p) := by
  unfold underP at hu
  simp at hu
  exact hu.2.1
section
variable {p : GProgram} (hp : OkP p) (h : hierP p = 0)
include hp h
theorem under_refl {a : ByteArray} (ha : a ∈ namesOf (allL p)) : underP p a a = true := (under_iff hp h ha a).mpr (Or.inr .refl)
theorem under_object {a : ByteArray} (ha : a ∈ namesOf (allL p)) : underP p a sObject = true := (under_iff hp h ha _).mpr (Or.inl rfl)
theorem under_trans {a b c : ByteArray} (h1 : underP p a b = true) (h2 : underP p b c = true) : underP p a c = true := by
  have ha := under_names h1
  have hb := under_names h2
  refine (under_iff hp h ha c).mpr ?_
  rcases (under_iff hp h hb c).mp h2 with rfl | h2
  · exact Or.inl rfl
  · rcases (under_iff hp h ha b).mp h1 with rfl | h1
    · exact Or.inl (rch_object h2)
    · exact Or.inr (h1.trans h2)
theorem under_anti {a b : ByteArray} (h1 : underP p a b = true) (h2 : underP p b a = true) : a = b := by
  have ha := under_names h1
  have hb := under_names h2
  rcases (under_iff hp h ha b).mp h1 with rfl | h1
  · rcases (under_iff hp h hb a).mp h2 with rfl | h2
    · rfl
    · exact rch_object h2
  · rcases (under_iff hp h hb a).mp h2 with rfl | h2
    · exact (rch_object h1).symm
    · rcases h1.split with rfl | ⟨y, hy, hr⟩
      · rfl
      · exact absurd ⟨y, hy, hr.trans h2⟩ ((sane_of hp h).noring a ha)
end
end Go.Proofs.YthahhonmkhafkaaDoor.Am
