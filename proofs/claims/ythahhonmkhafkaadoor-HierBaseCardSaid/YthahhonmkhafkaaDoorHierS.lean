/- The laws HierKinds and HierSupers. Written by wip/tools/hs.py. -/
import Derived.Test.YthahhonmkhafkaaDoorHierR
namespace Go.Proofs.YthahhonmkhafkaaDoor.Am
set_option linter.unusedSimpArgs false
set_option linter.unusedVariables false
set_option linter.unusedSectionVars false
open Go
--let HV delverlaw02.Heavy
--let HI delverref04.Hier
--let NA delverlaw04.names
--let LK delverlaw04.HierKinds
--let LS delverlaw04.HierSupers

def wantL (p : GProgram) (x : ByteArray) : List ByteArray := (p.classes.filter fun c => !c.iface && underP p c.name x).map (·.name)
theorem kinds_want {p : GProgram} (hp : OkP p) (h : hierP p = 0) (x : ByteArray) : kindsP p x = wantL p x := by
  have hs := sane_of hp h
  unfold kindsP wantL
  rw [if_pos h]
  have hd : (namesOf (allL p)).drop 8 = p.classes.map (·.name) := by
    simp [namesOf, allL, baseL]
  rw [hd, List.filter_map]
  congr 1
  apply List.filter_congr
  intro c hc
  have hf := find_self hs.nd (c := c) (by simp [allL, hc])
  simp [plainP, hf]
theorem want_len {p : GProgram} (hp : OkP p) (x : ByteArray) : (wantL p x).length ≤ 30 := by
  have := hp.len
  have h2 := List.length_filter_le (fun c : GClass => !c.iface && underP p c.name x) p.classes
  unfold wantL
  rw [List.length_map]; omega
theorem want_sub {p : GProgram} (hp : OkP p) (h : hierP p = 0) {x y : ByteArray} (hu : underP p y x = true) : ∀ s ∈ wantL p y, s ∈ wantL p x := by
  intro s hs
  unfold wantL at *
  obtain ⟨c, hc, rfl⟩ := List.mem_map.mp hs
  rw [List.mem_filter] at hc
  have h2 : (!c.iface) = true ∧ underP p c.name y = true := by simpa using hc.2
  refine List.mem_map.mpr ⟨c, List.mem_filter.mpr ⟨hc.1, ?_⟩, rfl⟩
  rw [h2.1, under_trans hp h h2.2 hu]; rfl

theorem sup_cases {p : GProgram} (hp : OkP p) (h : hierP p = 0) {a : ByteArray} (ha : a ∈ namesOf (allL p)) : ∃ c, findC (allL p) a = some c ∧ c ∈ allL p ∧ c.name = a ∧ supP p a = superL c := by
  obtain ⟨c, h1, h2, h3⟩ := find_name ha
  exact ⟨c, h1, h2, h3, by simp [supP, h, h1]⟩
theorem sup_next {p : GProgram} (hp : OkP p) (h : hierP p = 0) {a : ByteArray} (ha : a ∈ namesOf (allL p)) (hs : supP p a ≠ ⟨#[]⟩) : supP p a ∈ nx (allL p) a := by
  obtain ⟨c, h1, h2, h3, h4⟩ := sup_cases hp h ha
  rw [h4] at hs ⊢
  simp [nx, h1, nextP, hs]
/-- A super is no interface. -/
theorem sup_plain {p : GProgram} (hp : OkP p) (h : hierP p = 0) {a : ByteArray} (ha : a ∈ namesOf (allL p)) (hs : supP p a ≠ ⟨#[]⟩) : ∃ d, findC (allL p) (supP p a) = some d ∧ d.iface = false := by
  obtain ⟨c, h1, h2, h3, h4⟩ := sup_cases hp h ha
  have hlo : (allL p).any (lostB (allL p)) = false := by
    have hh := h
    unfold hierP at hh
    cases hb : progB p
    · rw [hb] at hh; cases hh
    rw [hb] at hh
    simp only [cond_true] at hh
    by_cases ht : (mapL (allL p)).length < (allL p).length
    · simp [ht] at hh
    simp only [ht, decide_false, cond_false] at hh
    cases hl : (allL p).any (lostB (allL p))
    · rfl
    · rw [hl] at hh; cases hh
  have hl : lostB (allL p) c = false := by simpa using List.any_eq_false.mp hlo c h2
  rw [lostB_eq] at hl
  rw [h4] at hs ⊢
  simp only [Bool.or_eq_false_iff, Bool.and_eq_false_iff, Bool.not_eq_false', decide_eq_true_eq] at hl
  rcases hl.1 with b | b
  · exact absurd b hs
  · unfold noSup at b
    cases hf : (allL p).find? (fun x : GClass => decide (x.name = superL c)) with
    | none => rw [hf] at b; cases b
    | some d => rw [hf] at b; exact ⟨d, hf, b⟩

/-- Names that were passed, going up. -/
structure Went (p : GProgram) (x w : ByteArray) (vis : List ByteArray) : Prop where
  nd : (w :: vis).Nodup
  sub : ∀ v ∈ w :: vis, v ∈ namesOf (allL p)
  up : Rch (allL p) x w
  way : ∀ v ∈ vis, ∃ y ∈ nx (allL p) v, Rch (allL p) y w
  plain : w = x ∨ ∃ d, findC (allL p) w = some d ∧ d.iface = false
theorem Went.next {p : GProgram} (hp : OkP p) (h : hierP p = 0) {x w : ByteArray} {vis : List ByteArray} (g : Went p x w vis) (hs : supP p w ≠ ⟨#[]⟩) : Went p x (supP p w) (w :: vis) := by
  have hw := g.sub w List.mem_cons_self
  have hn := sup_next hp h hw hs
  have sane := sane_of hp h
  have hin : supP p w ∈ namesOf (allL p) := sane.whole w hw _ hn
  refine ⟨List.nodup_cons.mpr ⟨fun hm => ?_, g.nd⟩, fun v hv => ?_, g.up.step hn, fun v hv => ?_, Or.inr (sup_plain hp h hw hs)⟩
  · rcases List.mem_cons.mp hm with e | e
    · exact sane.noring w hw ⟨supP p w, hn, by rw [e]; exact .refl⟩
    · obtain ⟨y, hy, hr⟩ := g.way _ e
      exact sane.noring _ hin ⟨y, hy, hr.step hn⟩
  · rcases List.mem_cons.mp hv with rfl | e
    · exact hin
    · exact g.sub v e
  · rcases List.mem_cons.mp hv with rfl | e
    · exact ⟨supP p v, hn, .refl⟩
    · obtain ⟨y, hy, hr⟩ := g.way v e
      exact ⟨y, hy, hr.step hn⟩

end Go.Proofs.YthahhonmkhafkaaDoor.Am
