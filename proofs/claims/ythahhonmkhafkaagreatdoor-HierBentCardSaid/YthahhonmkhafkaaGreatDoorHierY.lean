/- HierBent's plain law: a class put in another one's place. -/
import Derived.Test.YthahhonmkhafkaaGreatDoorHierV
namespace Go.Proofs.YthahhonmkhafkaaGreatDoor.Am
set_option linter.unusedSimpArgs false
set_option linter.unusedVariables false
set_option linter.unusedSectionVars false
open Go

def setP (p : GProgram) (k : Nat) (c : GClass) : GProgram := ⟨p.classes.set k c⟩
theorem allL_set (p : GProgram) (k : Nat) (c : GClass) : allL (setP p k c) = (allL p).set (8 + k) c := by
  have h : baseL.length = 8 := rfl
  unfold allL setP
  rw [List.set_append_right _ _ (by omega), h, Nat.add_sub_cancel_left]
theorem all_get {p : GProgram} {k : Nat} (hk : k < p.classes.length) : (allL p)[8 + k]? = some p.classes[k] := by
  have h : baseL.length = 8 := rfl
  unfold allL
  rw [List.getElem?_append_right (by omega), h, Nat.add_sub_cancel_left, List.getElem?_eq_getElem hk]

theorem okM0 : OkM ⟨⟨#[]⟩, false, false, [], ⟨0, ⟨#[]⟩⟩, 0, [], []⟩ := okM (by decide)
theorem set_ok {p : GProgram} (hp : OkP p) {k : Nat} {c : GClass} (hc : OkC c) : OkP (setP p k c) := ⟨by simpa [setP] using hp.len, fun d hd => by
  rcases List.mem_or_eq_of_mem_set hd with a | rfl
  · exact hp.cs d a
  · exact hc⟩

/-- What is asked of a list: names, interfaces. -/
def sgn (c : GClass) : ByteArray × Bool := (c.name, c.iface)
theorem find_sgn (l : List GClass) (s : ByteArray) : (l.find? fun x : GClass => decide (x.name = s)).map sgn = (l.map sgn).find? fun x => decide (x.1 = s) := by
  rw [List.find?_map]; rfl
theorem noSup_sgn {l l' : List GClass} (h : l.map sgn = l'.map sgn) (s : ByteArray) : noSup l s = noSup l' s := by
  have e := (find_sgn l s).trans ((congrArg _ h).trans (find_sgn l' s).symm)
  unfold noSup
  cases h1 : l.find? (fun x : GClass => decide (x.name = s)) <;> cases h2 : l'.find? (fun x : GClass => decide (x.name = s)) <;> rw [h1, h2] at e <;> simp [sgn] at e ⊢
  exact e.2
theorem noIf_sgn {l l' : List GClass} (h : l.map sgn = l'.map sgn) (s : ByteArray) : noIf l s = noIf l' s := by
  have e := (find_sgn l s).trans ((congrArg _ h).trans (find_sgn l' s).symm)
  unfold noIf
  cases h1 : l.find? (fun x : GClass => decide (x.name = s)) <;> cases h2 : l'.find? (fun x : GClass => decide (x.name = s)) <;> rw [h1, h2] at e <;> simp [sgn] at e ⊢
  rw [e.2]
theorem map_set_same {α β : Type} (f : α → β) : ∀ {l : List α} {i : Nat} {x y : α}, l[i]? = some x → f y = f x → (l.set i y).map f = l.map f
  | [], _, _, _, h, _ => by simp at h
  | a :: l, 0, x, y, h, e => by simp at h; subst h; simp [e]
  | a :: l, i + 1, x, y, h, e => by
    have := map_set_same f (l := l) (i := i) (x := x) (y := y) (by simpa using h) e
    simp [this]

section
variable {p : GProgram} (hp : OkP p) (h : hierP p = 0) {k : Nat} (hk : k < p.classes.length) {c' : GClass} (hok : OkC c') (hb : classB c' = true)
include hp h hk hok hb

theorem set_prog : progB (setP p k c') = true := by
  obtain ⟨h1, h2, h3⟩ := hier_parts h
  unfold progB at *
  simp only [Bool.and_eq_true, decide_eq_true_eq, List.all_eq_true] at h1 ⊢
  refine ⟨by simpa [setP] using h1.1, fun d hd => ?_⟩
  rcases List.mem_or_eq_of_mem_set hd with a | rfl
  · exact h1.2 d a
  · exact hb
theorem set_names (hn : c'.name = p.classes[k].name) : namesOf (allL (setP p k c')) = namesOf (allL p) := by
  unfold namesOf
  rw [allL_set]
  exact map_set_same _ (all_get hk) hn
theorem set_once (hn : c'.name = p.classes[k].name) : ¬ (mapL (allL (setP p k c'))).length < (allL (setP p k c')).length := by
  obtain ⟨h1, h2, h3⟩ := hier_parts h
  rw [mapL_nodup (by rw [set_names hp h hk hok hb hn]; exact h2)]
  omega
theorem set_in : c' ∈ allL (setP p k c') := by
  unfold allL setP
  exact List.mem_append_right _ (List.mem_set hk c')
/-- What is lost. -/
theorem set_lost (hn : c'.name = p.classes[k].name) (hl : lostB (allL (setP p k c')) c' = true) : hierP (setP p k c') = 5 := by
  have e1 : (allL (setP p k c')).any (lostB (allL (setP p k c'))) = true := List.any_eq_true.mpr ⟨c', set_in hp h hk hok hb, hl⟩
  simp [hierP, set_prog hp h hk hok hb, set_once hp h hk hok hb hn, e1]
/-- Who comes of itself. -/
theorem set_ring (hn : c'.name = p.classes[k].name) (hi : c'.iface = p.classes[k].iface) (hl : lostB (allL (setP p k c')) c' = false) (hx : c'.name ∈ nextP c') : hierP (setP p k c') = 7 := by
  obtain ⟨h1, h2, h3⟩ := hier_parts h
  have hsg : (allL (setP p k c')).map sgn = (allL p).map sgn := by
    rw [allL_set]
    exact map_set_same _ (all_get hk) (by simp [sgn, hn, hi])
  have e1 : (allL (setP p k c')).any (lostB (allL (setP p k c'))) = false := by
    refine List.any_eq_false.mpr fun d hd => ?_
    have key : lostB (allL (setP p k c')) d = false := by
      have hd' := hd
      rw [allL_set] at hd'
      rcases List.mem_or_eq_of_mem_set hd' with a | rfl
      · have hl := List.any_eq_false.mp h3 d a
        rw [lostB_eq] at hl ⊢
        have g1 : noSup (allL (setP p k c')) = noSup (allL p) := funext fun s => noSup_sgn hsg s
        have g2 : noIf (allL (setP p k c')) = noIf (allL p) := funext fun s => noIf_sgn hsg s
        rw [g1, g2]
        simpa using hl
      · exact hl
    rw [key]; simp
  have hw := whole_of e1
  have hq := set_ok hp (k := k) hok
  have hL := all_len hq
  have hin : c'.name ∈ namesOf (allL (setP p k c')) := List.mem_map.mpr ⟨c', set_in hp h hk hok hb, rfl⟩
  have hnd : (namesOf (allL (setP p k c'))).Nodup := by rw [set_names hp h hk hok hb hn]; exact h2
  have hf := find_self hnd (set_in hp h hk hok hb)
  have e2 : (namesOf (allL (setP p k c'))).any (ringP (allL (setP p k c'))) = true := by
    refine List.any_eq_true.mpr ⟨c'.name, hin, ?_⟩
    rw [ring_iff hL hw hin]
    exact ⟨c'.name, by simpa [nx, hf] using hx, .refl⟩
  simp [hierP, set_prog hp h hk hok hb, set_once hp h hk hok hb hn, e1, e2]
/-- A name that is there. -/
theorem set_twice (hn : c'.name = sObject) : hierP (setP p k c') = 6 := by
  have e1 : (mapL (allL (setP p k c'))).length < (allL (setP p k c')).length := by
    apply Classical.byContradiction
    intro hc
    have hnd := (mapL_eq hc).2
    have e : namesOf (allL (setP p k c')) = sObject :: ((namesOf baseL).tail ++ (p.classes.set k c').map (·.name)) := rfl
    rw [e, List.nodup_cons] at hnd
    exact hnd.1 (List.mem_append_right _ (List.mem_map.mpr ⟨c', List.mem_set hk c', hn⟩))
  simp [hierP, set_prog hp h hk hok hb, e1]
end

/-- A class more of a name that is there. -/
theorem add_twice {p : GProgram} (hp : OkP p) (h : hierP p = 0) {k : Nat} (hk : k < p.classes.length) (hlen : p.classes.length < 10) : hierP ⟨p.classes ++ [cls p.classes[k].name ⟨#[]⟩]⟩ = 6 := by
  obtain ⟨h1, h2, h3⟩ := hier_parts h
  have hcb : classB (cls p.classes[k].name ⟨#[]⟩) = true := by
    unfold progB at h1
    simp only [Bool.and_eq_true, List.all_eq_true] at h1
    have := h1.2 _ (List.getElem_mem hk)
    simp only [classB, Bool.and_eq_true] at this ⊢
    exact ⟨this.1, by simp⟩
  have hpb : progB ⟨p.classes ++ [cls p.classes[k].name ⟨#[]⟩]⟩ = true := by
    unfold progB at *
    simp only [Bool.and_eq_true, decide_eq_true_eq] at h1 ⊢
    refine ⟨by simp; omega, ?_⟩
    simp only [List.all_append, h1.2, List.all_cons, hcb, List.all_nil, Bool.and_self]
  have e1 : (mapL (allL ⟨p.classes ++ [cls p.classes[k].name ⟨#[]⟩]⟩)).length < (allL ⟨p.classes ++ [cls p.classes[k].name ⟨#[]⟩]⟩).length := by
    apply Classical.byContradiction
    intro hc
    have hnd := (mapL_eq hc).2
    have e : namesOf (allL ⟨p.classes ++ [cls p.classes[k].name ⟨#[]⟩]⟩) = namesOf (allL p) ++ [p.classes[k].name] := by simp [namesOf, allL]
    rw [e, List.nodup_append] at hnd
    exact hnd.2.2 p.classes[k].name (List.mem_map.mpr ⟨p.classes[k], by simp [allL], rfl⟩) _ (by simp) rfl
  simp [hierP, hpb, e1]

/-- Where no tree is nothing is told of it. -/
theorem kinds_none {p : GProgram} (h : hierP p ≠ 0) (x : ByteArray) : kindsP p x = [] := by simp [kindsP, h]
theorem under_none {p : GProgram} (h : hierP p ≠ 0) (x y : ByteArray) : underP p x y = false := by simp [underP, h]
theorem class_of {p : GProgram} (h : hierP p = 0) {k : Nat} (hk : k < p.classes.length) : classB p.classes[k] = true ∧ p.classes[k].name ≠ sObject ∧ p.classes[k].name ≠ ⟨#[]⟩ := by
  obtain ⟨h1, h2, h3⟩ := hier_parts h
  unfold progB at h1
  simp only [Bool.and_eq_true, List.all_eq_true] at h1
  have hb := h1.2 _ (List.getElem_mem hk)
  refine ⟨hb, fun e => ?_, ?_⟩
  · have e1 : namesOf (allL p) = sObject :: ((namesOf baseL).tail ++ p.classes.map (·.name)) := rfl
    rw [e1, List.nodup_cons] at h2
    exact h2.1 (List.mem_append_right _ (List.mem_map.mpr ⟨_, List.getElem_mem hk, e⟩))
  · simp only [classB, Bool.and_eq_true] at hb
    exact fresh_ne hb.1

abbrev sNone : ByteArray := ⟨#[78, 111, 110, 101, 95, 115, 117, 99, 104]⟩
theorem fresh_none : freshB sNone = true := by kernel_rfl
theorem fresh_object : freshB sObject = true := by kernel_rfl

section
variable {p : GProgram} (hp : OkP p) (h : hierP p = 0) {k : Nat} (hk : k < p.classes.length)
include hp h hk
theorem bent_super (hi : p.classes[k].iface = false) (hz : ∀ i (hi : i < p.classes.length), p.classes[i].name ≠ sNone) : hierP (setP p k { p.classes[k] with super := sNone }) = 5 := by
  obtain ⟨hb, n1, n2⟩ := class_of h hk
  have ho := hp.cs _ (List.getElem_mem hk)
  have hb' : classB { p.classes[k] with super := sNone } = true := by
    simp only [classB, Bool.and_eq_true] at hb ⊢
    exact ⟨hb.1, by simp [hi, fresh_none], hb.2.2⟩
  have ho' : OkC { p.classes[k] with super := sNone } := { ho with super := (by decide : sNone.size ≤ 60) }
  refine set_lost hp h hk ho' hb' rfl ?_
  have e1 : superL { p.classes[k] with super := sNone } = sNone := by simp [superL, hi, n1]
  have e2 : noSup (allL (setP p k { p.classes[k] with super := sNone })) sNone = true := by
    unfold noSup
    have : (allL (setP p k { p.classes[k] with super := sNone })).find? (fun x : GClass => decide (x.name = sNone)) = none := by
      rw [List.find?_eq_none]
      intro x hx
      have hx' : x.name ∈ namesOf (allL p) := by
        rw [← set_names hp h hk ho' hb' rfl]; exact List.mem_map.mpr ⟨x, hx, rfl⟩
      simp only [namesOf, allL, List.map_append, List.mem_append] at hx'
      rcases hx' with a | a
      · intro e
        simp only [decide_eq_true_eq] at e
        rw [e] at a
        exact absurd a (by decide)
      · obtain ⟨y, hy, hye⟩ := List.mem_map.mp a
        obtain ⟨i, hi, rfl⟩ := List.mem_iff_getElem.mp hy
        simp only [decide_eq_true_eq]
        rw [← hye]; exact hz i hi
    rw [this]
  rw [lostB_eq, e1, e2]
  simp
theorem bent_iface : hierP (setP p k { p.classes[k] with ifaces := [sObject] }) = 5 := by
  obtain ⟨hb, n1, n2⟩ := class_of h hk
  have ho := hp.cs _ (List.getElem_mem hk)
  have hb' : classB { p.classes[k] with ifaces := [sObject] } = true := by
    simp only [classB, Bool.and_eq_true] at hb ⊢
    exact ⟨hb.1, hb.2.1, ⟨by simp, by simp [fresh_object]⟩, hb.2.2.2⟩
  have ho' : OkC { p.classes[k] with ifaces := [sObject] } := { ho with ifaces := by simp, is := by simp; decide }
  refine set_lost hp h hk ho' hb' rfl ?_
  have e2 : noIf (allL (setP p k { p.classes[k] with ifaces := [sObject] })) sObject = true := by simp [noIf, allL, baseL]
  rw [lostB_eq]
  simp [e2]
theorem bent_ringI (hi : p.classes[k].iface = true) : hierP (setP p k { p.classes[k] with ifaces := [p.classes[k].name] }) = 7 := by
  obtain ⟨hb, n1, n2⟩ := class_of h hk
  have ho := hp.cs _ (List.getElem_mem hk)
  obtain ⟨c', hc'⟩ : ∃ c', c' = { p.classes[k] with ifaces := [p.classes[k].name] } := ⟨_, rfl⟩
  have hb' : classB c' = true := by
    subst hc'
    simp only [classB, Bool.and_eq_true] at hb ⊢
    exact ⟨hb.1, hb.2.1, ⟨by simp, by simp [hb.1]⟩, hb.2.2.2⟩
  have ho' : OkC c' := by subst hc'; exact { ho with ifaces := by simp, is := by simpa using ho.name }
  have hn : c'.name = p.classes[k].name := by rw [hc']
  have hi' : c'.iface = true := by rw [hc']; exact hi
  have hif : c'.ifaces = [c'.name] := by rw [hc']
  rw [← hc']
  have hs : superL c' = ⟨#[]⟩ := by simp [superL, hi']
  obtain ⟨h1, h2, h3⟩ := hier_parts h
  have hnd : (namesOf (allL (setP p k c'))).Nodup := by rw [set_names hp h hk ho' hb' hn]; exact h2
  have hf := find_self hnd (set_in hp h hk ho' hb')
  refine set_ring hp h hk ho' hb' hn (by rw [hi', hi]) ?_ ?_
  · rw [lostB_eq, hs, hif]
    have : noIf (allL (setP p k c')) c'.name = false := by
      unfold noIf
      rw [show (allL (setP p k c')).find? (fun x : GClass => decide (x.name = c'.name)) = some c' from hf]
      simp [hi']
    simp [this]
  · simp [nextP, hif]
theorem bent_ringC (hi : p.classes[k].iface = false) : hierP (setP p k { p.classes[k] with super := p.classes[k].name }) = 7 := by
  obtain ⟨hb, n1, n2⟩ := class_of h hk
  have ho := hp.cs _ (List.getElem_mem hk)
  have hlost : ∀ s ∈ p.classes[k].ifaces, noIf (allL p) s = false := by
    obtain ⟨h1, h2, h3⟩ := hier_parts h
    have := List.any_eq_false.mp h3 p.classes[k] (by simp [allL])
    rw [lostB_eq] at this
    simp only [Bool.or_eq_true, not_or] at this
    intro s hs
    have h4 := List.any_eq_false.mp (Bool.eq_false_iff.mpr this.2) s hs
    simpa using h4
  obtain ⟨c', hc'⟩ : ∃ c', c' = { p.classes[k] with super := p.classes[k].name } := ⟨_, rfl⟩
  have hb' : classB c' = true := by
    subst hc'
    simp only [classB, Bool.and_eq_true] at hb ⊢
    exact ⟨hb.1, by simp [hi, hb.1], hb.2.2⟩
  have ho' : OkC c' := by subst hc'; exact { ho with super := ho.name }
  have hn : c'.name = p.classes[k].name := by rw [hc']
  have hi' : c'.iface = false := by rw [hc']; exact hi
  have hif : c'.ifaces = p.classes[k].ifaces := by rw [hc']
  have hsu : c'.super = c'.name := by rw [hc']
  rw [← hc']
  have hs : superL c' = c'.name := by simp [superL, hi', hsu, hn, n1, n2]
  obtain ⟨h1, h2, h3⟩ := hier_parts h
  have hnd : (namesOf (allL (setP p k c'))).Nodup := by rw [set_names hp h hk ho' hb' hn]; exact h2
  have hf := find_self hnd (set_in hp h hk ho' hb')
  have hsg : (allL (setP p k c')).map sgn = (allL p).map sgn := by
    rw [allL_set]
    exact map_set_same _ (all_get hk) (by simp [sgn, hn, hi', hi])
  refine set_ring hp h hk ho' hb' hn (by rw [hi', hi]) ?_ ?_
  · rw [lostB_eq, hs, hif]
    have e1 : noSup (allL (setP p k c')) c'.name = false := by
      unfold noSup
      rw [show (allL (setP p k c')).find? (fun x : GClass => decide (x.name = c'.name)) = some c' from hf]
      simp [hi']
    have e2 : p.classes[k].ifaces.any (noIf (allL (setP p k c'))) = false := by
      rw [List.any_eq_false]
      intro s hs
      rw [noIf_sgn hsg, hlost s hs]; simp
    simp [e1, e2]
  · simp [nextP, hs, hn, n2]
theorem bent_name : hierP (setP p k { p.classes[k] with name := sObject }) = 6 := by
  obtain ⟨hb, n1, n2⟩ := class_of h hk
  have ho := hp.cs _ (List.getElem_mem hk)
  have hb' : classB { p.classes[k] with name := sObject } = true := by
    simp only [classB, Bool.and_eq_true] at hb ⊢
    exact ⟨fresh_object, hb.2⟩
  exact set_twice hp h hk { ho with name := (by decide : sObject.size ≤ 60) } hb' rfl
end
end Go.Proofs.YthahhonmkhafkaaGreatDoor.Am
