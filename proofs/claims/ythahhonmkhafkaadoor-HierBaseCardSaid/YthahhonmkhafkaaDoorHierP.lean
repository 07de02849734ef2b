/- Who is above whom: plain laws. -/
import Derived.Test.YthahhonmkhafkaaDoorHierO
namespace Go.Proofs.YthahhonmkhafkaaDoor.Am
set_option linter.unusedSimpArgs false
set_option linter.unusedVariables false
set_option linter.unusedSectionVars false
open Go

/-- One comes from s, going up. -/
inductive Rch (l : List GClass) (s : ByteArray) : ByteArray → Prop
  | refl : Rch l s s
  | step {y x : ByteArray} : Rch l s y → x ∈ nx l y → Rch l s x
theorem Rch.trans {l : List GClass} {a b c : ByteArray} (h1 : Rch l a b) (h2 : Rch l b c) : Rch l a c := by
  induction h2 with
  | refl => exact h1
  | step _ h ih => exact ih.step h
theorem Rch.head {l : List GClass} {a b c : ByteArray} (h1 : b ∈ nx l a) (h2 : Rch l b c) : Rch l a c := (Rch.refl.step h1).trans h2
theorem Rch.names {l : List GClass} (hw : Whole l) {a b : ByteArray} (ha : a ∈ namesOf l) (h : Rch l a b) : b ∈ namesOf l := by
  induction h with
  | refl => exact ha
  | step _ h ih => exact hw _ ih _ h

abbrev fstep (l : List GClass) (n : Nat) : List ByteArray → ByteArray → List ByteArray := fun acc x => if x ∈ acc then acc else dfs l n acc x

/-- What going up from one name makes of what was met. -/
structure UpOne (l : List GClass) (ns : List ByteArray) (s : ByteArray) (R : List ByteArray) : Prop where
  met : Met l R
  old : ∀ x ∈ ns, x ∈ R
  len : ns.length ≤ R.length
  from_ : ∀ x ∈ R, x ∈ ns ∨ Rch l s x
  self : s ∈ R
  shut : ∀ x ∈ R, x ∉ ns ∨ x = s → ∀ y ∈ nx l x, y ∈ R
structure Ups (l : List GClass) (ns : List ByteArray) (L R : List ByteArray) : Prop where
  met : Met l R
  old : ∀ x ∈ ns, x ∈ R
  len : ns.length ≤ R.length
  from_ : ∀ x ∈ R, x ∈ ns ∨ ∃ s ∈ L, Rch l s x
  self : ∀ s ∈ L, s ∈ R
  shut : ∀ x ∈ R, x ∉ ns → ∀ y ∈ nx l x, y ∈ R

theorem ups_of {l : List GClass} {n : Nat} (ih : ∀ (ns : List ByteArray) (s : ByteArray), Met l ns → s ∈ namesOf l → s ∉ ns → l.length < n + ns.length → UpOne l ns s (dfs l n ns s)) : ∀ (L ns : List ByteArray), (∀ x ∈ L, x ∈ namesOf l) → Met l ns → l.length < n + ns.length → Ups l ns L (L.foldl (fstep l n) ns)
  | [], ns, _, hm, _ => ⟨hm, fun _ h => h, Nat.le_refl _, fun _ h => Or.inl h, by simp, fun _ h1 h2 => absurd h1 h2⟩
  | t :: L, ns, hL, hm, hf => by
    rw [List.foldl_cons]
    have hL' := fun x hx => hL x (List.mem_cons_of_mem _ hx)
    by_cases ht : t ∈ ns
    · have e : fstep l n ns t = ns := by simp [fstep, ht]
      rw [e]
      have h := ups_of ih L ns hL' hm hf
      exact ⟨h.met, h.old, h.len, fun x hx => (h.from_ x hx).imp id fun ⟨s, a, b⟩ => ⟨s, List.mem_cons_of_mem _ a, b⟩, fun s hs => by
        rcases List.mem_cons.mp hs with rfl | a
        · exact h.old _ ht
        · exact h.self s a, h.shut⟩
    · have e : fstep l n ns t = dfs l n ns t := by simp [fstep, ht]
      rw [e]
      have u := ih ns t hm (hL t List.mem_cons_self) ht hf
      have h := ups_of ih L (dfs l n ns t) hL' u.met (by have := u.len; omega)
      refine ⟨h.met, fun x hx => h.old x (u.old x hx), Nat.le_trans u.len h.len, fun x hx => ?_, fun s hs => ?_, fun x hx hn y hy => ?_⟩
      · rcases h.from_ x hx with a | ⟨s, a, b⟩
        · rcases u.from_ x a with a | a
          · exact Or.inl a
          · exact Or.inr ⟨t, List.mem_cons_self, a⟩
        · exact Or.inr ⟨s, List.mem_cons_of_mem _ a, b⟩
      · rcases List.mem_cons.mp hs with rfl | a
        · exact h.old _ u.self
        · exact h.self s a
      · by_cases hd : x ∈ dfs l n ns t
        · exact h.old y (u.shut x hd (Or.inl hn) y hy)
        · exact h.shut x hx hd y hy

theorem dfs_up {l : List GClass} (hw : Whole l) : ∀ (n : Nat) (ns : List ByteArray) (s : ByteArray), Met l ns → s ∈ namesOf l → l.length + (if s ∈ ns then 1 else 0) < n + ns.length → UpOne l ns s (dfs l n ns s) := by
  intro n
  induction n with
  | zero => intro ns s hm _ hf; have := hm.len; omega
  | succ n ih =>
    intro ns s hm hs hf
    have hms := hm.add hs
    have hd : dfs l (n + 1) ns s = (nx l s).foldl (fstep l n) (if s ∈ ns then ns else ns ++ [s]) := rfl
    rw [hd]
    have h := ups_of (l := l) (n := n) (fun ns s a b c d => ih ns s a b (by simpa [c] using d)) (nx l s) _ (hw s hs) hms (by by_cases hy : s ∈ ns <;> simp [hy] at hf ⊢ <;> omega)
    generalize (nx l s).foldl (fstep l n) (if s ∈ ns then ns else ns ++ [s]) = R at *
    have hsub : ∀ x, x ∈ (if s ∈ ns then ns else ns ++ [s]) ↔ x ∈ ns ∨ x = s := by
      intro x
      by_cases hy : s ∈ ns
      · simp only [hy, if_true]
        exact ⟨Or.inl, fun h => h.elim id fun e => e ▸ hy⟩
      · simp [hy]
    refine ⟨h.met, fun x hx => h.old x ((hsub x).mpr (Or.inl hx)), Nat.le_trans ?_ h.len, fun x hx => ?_, h.old s ((hsub s).mpr (Or.inr rfl)), fun x hx hn y hy => ?_⟩
    · by_cases hy : s ∈ ns <;> simp [hy]
    · rcases h.from_ x hx with a | ⟨t, a, b⟩
      · rcases (hsub x).mp a with a | a
        · exact Or.inl a
        · subst a; exact Or.inr .refl
      · exact Or.inr (Rch.head a b)
    · by_cases hxs : x = s
      · subst hxs; exact h.self y hy
      · rcases hn with hn | hn
        · exact h.shut x hx (fun ha => by rcases (hsub x).mp ha with a | a <;> contradiction) y hy
        · exact absurd hn hxs

/-- Object comes of none. -/
theorem nx_object (p : GProgram) : nx (allL p) sObject = [] := by
  have h : findC (allL p) sObject = some (cls sObject ⟨#[]⟩) := by
    simp [findC, allL, baseL]
  simp [nx, h, nextP, superL]

/-- What is above one. -/
theorem up_iff {p : GProgram} (hL : (allL p).length ≤ 100) (hw : Whole (allL p)) {a : ByteArray} (ha : a ∈ namesOf (allL p)) (x : ByteArray) : x ∈ upL (allL p) a ↔ x = sObject ∨ Rch (allL p) a x := by
  have hm : Met (allL p) [sObject] := ⟨by simp, by simpa using obj_in p⟩
  have u := dfs_up hw 200 [sObject] a hm ha (by simp; split <;> omega)
  constructor
  · intro h
    rcases u.from_ x h with b | b
    · left; simpa using b
    · exact Or.inr b
  · rintro (rfl | h)
    · exact u.old _ (by simp)
    · have : ∀ y, Rch (allL p) a y → y ∈ dfs (allL p) 200 [sObject] a := by
        intro y hy
        induction hy with
        | refl => exact u.self
        | @step z x hz hx ih =>
          by_cases hzo : z = sObject
          · subst hzo; rw [nx_object] at hx; cases hx
          · exact u.shut z ih (Or.inl (by simpa using hzo)) x hx
      exact this x h

theorem ring_iff {l : List GClass} (hL : l.length ≤ 100) (hw : Whole l) {s : ByteArray} (hs : s ∈ namesOf l) : ringP l s = true ↔ ∃ y ∈ nx l s, Rch l y s := by
  have h := ups_of (l := l) (n := 200) (fun ns s a b c d => dfs_up hw 200 ns s a b (by simpa [c] using d)) (nx l s) [] (hw s hs) ⟨by simp, by simp⟩ (by simp; omega)
  unfold ringP
  rw [decide_eq_true_iff]
  constructor
  · intro hx
    rcases h.from_ s hx with a | a
    · cases a
    · exact a
  · rintro ⟨y, hy, hr⟩
    have : ∀ z, Rch l y z → z ∈ (nx l s).foldl (fstep l 200) [] := by
      intro z hz
      induction hz with
      | refl => exact h.self y hy
      | @step z x _ hx ih => exact h.shut z ih (by simp) x hx
    exact this s hr

-- the page's reach
theorem next_iff {l : List GClass} {y : ByteArray} (hy : y ∈ namesOf l) (x : ByteArray) : x ∈ nextL l y ↔ x ∈ nx l y := by
  obtain ⟨c, h1, h2, h3⟩ := find_name hy
  have h1' : l.find? (fun c : GClass => decide (c.name = y)) = some c := h1
  have e1 : nextL l y = aboveL c := by simp [nextL, h1']
  have e2 : nx l y = nextP c := by simp [nx, h1]
  rw [e1, e2]
  simp only [aboveL, nextP, List.mem_append]
  exact Or.comm

theorem bfs_all {l : List GClass} {s : ByteArray} (hL : l.length ≤ 100) (hc : ∀ c ∈ l, OkC c) {Q : ByteArray → Prop} (hQ : ∀ y x, Q y → x ∈ nextL l y → Q x) : ∀ (n i : Nat) (out : List ByteArray), Bf l s out → i ≤ out.length → 1102 ≤ i + n → (∀ x ∈ out, Q x) → (∀ j (h : j < out.length), j < i → ∀ x ∈ nextL l out[j], x ∈ out) →
    (∀ x ∈ bfs l n i out, Q x) ∧ (∀ x ∈ out, x ∈ bfs l n i out) ∧ ∀ y ∈ bfs l n i out, ∀ x ∈ nextL l y, x ∈ bfs l n i out := by
  intro n
  induction n with
  | zero => intro i out hb hi hn; have := hb.len hL hc; omega
  | succ n ih =>
    intro i out hb hi hn hq hdone
    unfold bfs
    by_cases hlt : i < out.length
    · rw [List.getElem?_eq_getElem hlt]
      dsimp only
      have hpre := addNew_pre (next := nextL l out[i]) (out := out)
      obtain ⟨Z, hZ⟩ := hpre
      have hlen : (addNew out (nextL l out[i])).length = out.length + Z.length := by rw [← hZ, List.length_append]
      obtain ⟨a, b, c⟩ := ih (i + 1) (addNew out (nextL l out[i])) hb.add (by rw [hlen]; omega) (by omega) (fun x hx => by
          rcases addNew_mem.mp hx with a | a
          · exact hq x a
          · exact hQ _ x (hq _ (List.getElem_mem hlt)) a) (fun j hj hji x hx => by
          have hj2 : j < out.length := by omega
          have he : (addNew out (nextL l out[i]))[j] = out[j] := by
            have : (addNew out (nextL l out[i]))[j]? = out[j]? := by rw [← hZ, List.getElem?_append_left hj2]
            rw [List.getElem?_eq_getElem hj, List.getElem?_eq_getElem hj2] at this
            exact Option.some.inj this
          rw [he] at hx
          refine addNew_mem.mpr ?_
          by_cases hjj : j = i
          · subst hjj; exact Or.inr hx
          · exact Or.inl (hdone j hj2 (by omega) x hx))
      exact ⟨a, fun x hx => b x (addNew_mem.mpr (Or.inl hx)), c⟩
    · rw [List.getElem?_eq_none_iff.mpr (by omega)]
      dsimp only
      refine ⟨hq, fun x hx => hx, fun y hy x hx => ?_⟩
      obtain ⟨j, hj, rfl⟩ := List.mem_iff_getElem.mp hy
      exact hdone j hj (by omega) x hx

theorem reach_iff {l : List GClass} (hL : l.length ≤ 100) (hc : ∀ c ∈ l, OkC c) (hw : Whole l) {s : ByteArray} (hs : s ∈ namesOf l) (x : ByteArray) : x ∈ reachL l s ↔ Rch l s x := by
  obtain ⟨a, b, c⟩ := bfs_all hL hc (s := s) (Q := fun x => Rch l s x) (fun y x hy hx => hy.step ((next_iff (hy.names hw hs) x).mp hx)) 3000 0 [s] (bf_one l s) (by simp) (by omega) (by simp; exact .refl) (by intro j _ h; omega)
  constructor
  · exact a x
  · intro h
    have : ∀ y, Rch l s y → y ∈ bfs l 3000 0 [s] := by
      intro y hy
      induction hy with
      | refl => exact b s (by simp)
      | @step z x hz hx ih => exact c z ih x ((next_iff (hz.names hw hs) x).mpr hx)
    exact this x h
end Go.Proofs.YthahhonmkhafkaaDoor.Am
