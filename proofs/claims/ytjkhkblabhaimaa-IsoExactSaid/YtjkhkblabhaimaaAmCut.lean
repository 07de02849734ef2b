/- Objects that are forgotten. -/
import Derived.Test.YtjkhkblabhaimaaAmDraw3
import Derived.Test.YtjkhkblabhaimaaAmLow
namespace Go.Proofs.Ytjkhkblabhaimaa.Am
set_option linter.unusedSimpArgs false
set_option linter.unusedVariables false
open Go
set_option linter.unusedVariables false

section
variable {P : Program} {N : Nat} {g g' : G} {w w' : World} {Pr : Nat → Prop} {s s' : St} {a a' : Act} {F : Oracle} {bd : Bd}

theorem repB_closed {x : B} {v : Value} (h : RepB g w x v) : x.closed g.loc.length = true := by
  cases x <;> simp only [B.closed, decide_eq_true_eq]
  · obtain ⟨b, o, h1, _⟩ := h; exact (List.getElem?_eq_some_iff.mp h1).1
  · obtain ⟨b, o, cap, arr, ty, h1, _⟩ := h; exact (List.getElem?_eq_some_iff.mp h1).1
  · obtain ⟨b, o, h1, _⟩ := h; exact (List.getElem?_eq_some_iff.mp h1).1

theorem repC_closed {p : Place} {x : C} {v : Value} (h : RepC g w Pr p x v) : x.closed g.loc.length = true := by
  cases x with
  | b y => exact repB_closed h
  | osl k rows => rfl
  | fn f p q =>
    obtain ⟨xs, ys, h1, h2, h3, h4, h5⟩ := h
    simp only [C.closed, Bool.and_eq_true, List.all_eq_true]
    refine ⟨fun b hb => ?_, fun b hb => ?_⟩
    · obtain ⟨i, hi, rfl⟩ := List.mem_iff_getElem.mp hb
      obtain ⟨u, _, _, k3⟩ := h4 i p[i] (by simp [hi])
      exact repB_closed k3
    · obtain ⟨i, hi, rfl⟩ := List.mem_iff_getElem.mp hb
      obtain ⟨u, _, _, k3⟩ := h5 i q[i] (by simp [hi])
      exact repB_closed k3
  | nilf => rfl

theorem repV1_closed {r : Root} {path : List Nat} {x : V} {v : Value} (h : RepV1 g w Pr r path x v) : x.closed1 g.loc.length = true := by
  cases x with
  | c y => exact repC_closed (p := (r, path)) h
  | agg cs =>
    obtain ⟨arr, h1, h2, h3⟩ := h
    simp only [V.closed1, List.all_eq_true]
    intro c hc
    obtain ⟨i, hi, rfl⟩ := List.mem_iff_getElem.mp hc
    obtain ⟨u, _, _, k3⟩ := h3 i cs[i] (by simp [hi])
    exact repC_closed k3
  | tup vs => exact h.elim

theorem inv_low (hI : Inv g w Pr s.σ) : Low s.σ.length s.σ := by
  refine ⟨Nat.le_refl _, fun l o _ ho => ?_⟩
  have h := hI.ob l o ho
  rw [← hI.len]
  cases o with
  | cells cs =>
    obtain ⟨b, o, arr, ty, h1, h2, h3, h4, h5⟩ := h
    simp only [Ob.closed, List.all_eq_true]
    intro c hc
    obtain ⟨i, hi, rfl⟩ := List.mem_iff_getElem.mp hc
    obtain ⟨u, _, _, k3⟩ := h5 i cs[i] (by simp [hi])
    exact repC_closed k3
  | map es =>
    obtain ⟨b, o, mes, clock, h1, h2, h3, h4, h5⟩ := h
    simp only [Ob.closed, List.all_eq_true, Bool.and_eq_true]
    intro e he
    obtain ⟨i, hi, rfl⟩ := List.mem_iff_getElem.mp he
    obtain ⟨m, _, k2, k3⟩ := h5 i es[i].1 es[i].2 (by simp [hi])
    exact ⟨repV1_closed k2, repV1_closed k3⟩
  | dead => rfl

/-- Objects that stand from n on are forgotten. -/
def G.cut (g : G) (n : Nat) : G := { g with loc := g.loc.take n }

theorem cut_loc {n l : Nat} {x : Nat × Nat} (hl : l < n) (h : g.loc[l]? = some x) : (g.cut n).loc[l]? = some x := by
  simp only [G.cut, List.getElem?_take]
  rw [if_pos hl]; exact h

theorem RepB.cut {n : Nat} {x : B} {v : Value} (h : RepB g w x v) (hc : x.closed n = true) : RepB (g.cut n) w x v := by
  cases x <;> simp only [B.closed, decide_eq_true_eq] at hc
  · exact h
  · obtain ⟨b, o, h1, h2⟩ := h; exact ⟨b, o, cut_loc hc h1, h2⟩
  · exact h
  · exact h
  · obtain ⟨b, o, cap, arr, ty, h1, h2⟩ := h; exact ⟨b, o, cap, arr, ty, cut_loc hc h1, h2⟩
  · obtain ⟨b, o, h1, h2⟩ := h; exact ⟨b, o, cut_loc hc h1, h2⟩
  · exact h
  · exact h
  · exact h
  · exact h

theorem RepC.cut {n : Nat} {p : Place} {x : C} {v : Value} (h : RepC g w Pr p x v) (hc : x.closed n = true) : RepC (g.cut n) w Pr p x v := by
  cases x with
  | b y => exact RepB.cut h hc
  | osl k rows => exact h
  | fn f p q =>
    obtain ⟨xs, ys, h1, h2, h3, h4, h5⟩ := h
    simp only [C.closed, Bool.and_eq_true, List.all_eq_true] at hc
    refine ⟨xs, ys, h1, h2, h3, fun i b hi => ?_, fun i b hi => ?_⟩
    · obtain ⟨u, k1, k2, k3⟩ := h4 i b hi; exact ⟨u, k1, k2, RepB.cut k3 (hc.1 _ (List.mem_of_getElem? hi))⟩
    · obtain ⟨u, k1, k2, k3⟩ := h5 i b hi; exact ⟨u, k1, k2, RepB.cut k3 (hc.2 _ (List.mem_of_getElem? hi))⟩
  | nilf => exact h

theorem RepV1.cut {n : Nat} {r : Root} {path : List Nat} {x : V} {v : Value} (h : RepV1 g w Pr r path x v) (hc : x.closed1 n = true) : RepV1 (g.cut n) w Pr r path x v := by
  cases x with
  | c y => exact RepC.cut h hc
  | agg cs =>
    obtain ⟨arr, h1, h2, h3⟩ := h
    simp only [V.closed1, List.all_eq_true] at hc
    refine ⟨arr, h1, h2, fun i c hi => ?_⟩
    obtain ⟨u, k1, k2, k3⟩ := h3 i c hi
    exact ⟨u, k1, k2, RepC.cut k3 (hc _ (List.mem_of_getElem? hi))⟩
  | tup vs => exact h

theorem RepV.cut {n : Nat} {r : Root} {x : V} {v : Value} (h : RepV g w Pr r x v) (hc : x.closed n = true) : RepV (g.cut n) w Pr r x v := by
  cases x with
  | c y => exact RepV1.cut (x := .c y) (path := []) h hc
  | agg cs => exact RepV1.cut (x := .agg cs) (path := []) h hc
  | tup vs =>
    obtain ⟨arr, h1, h2⟩ := h
    simp only [V.closed, List.all_eq_true] at hc
    refine ⟨arr, h1, fun i x hi => ?_⟩
    obtain ⟨u, k1, k2⟩ := h2 i x hi
    exact ⟨u, k1, RepV1.cut k2 (hc _ (List.mem_of_getElem? hi))⟩

theorem Inv.cut {σ : List Ob} (hI : Inv g w Pr σ) {n : Nat} (hl : Low n σ) : Inv (g.cut n) w Pr (σ.take n) where
  len := by simp [G.cut, hI.len]
  lt := hI.lt
  pr := hI.pr
  ob l o ho := by
    rw [List.getElem?_take] at ho
    split at ho
    case isFalse => cases ho
    rename_i hln
    have hcl := hl.2 l o hln ho
    have h := hI.ob l o ho
    cases o with
    | cells cs =>
      obtain ⟨b, o, arr, ty, h1, h2, h3, h4, h5⟩ := h
      simp only [Ob.closed, List.all_eq_true] at hcl
      refine ⟨b, o, arr, ty, cut_loc hln h1, h2, h3, h4, fun i c hi => ?_⟩
      obtain ⟨u, k1, k2, k3⟩ := h5 i c hi
      exact ⟨u, k1, k2, RepC.cut k3 (hcl _ (List.mem_of_getElem? hi))⟩
    | map es =>
      obtain ⟨b, o, mes, clock, h1, h2, h3, h4, h5⟩ := h
      simp only [Ob.closed, List.all_eq_true, Bool.and_eq_true] at hcl
      refine ⟨b, o, mes, clock, cut_loc hln h1, h2, h3, h4, fun i k v hi => ?_⟩
      obtain ⟨m, k1, k2, k3⟩ := h5 i k v hi
      have := hcl _ (List.mem_of_getElem? hi)
      exact ⟨m, k1, RepV1.cut k2 this.1, RepV1.cut k3 this.2⟩
    | dead => trivial

theorem Ext.cut {n : Nat} (h : Ext g w g' w') (hn : g.loc.length ≤ n) : Ext g w (g'.cut n) w' where
  st := h.st
  loc l x hx := cut_loc (by have := (List.getElem?_eq_some_iff.mp hx).1; omega) (h.loc l x hx)
  size := h.size
  shape := h.shape
  os := h.os
  tape := h.tape
  output := h.output

end
end Go.Proofs.Ytjkhkblabhaimaa.Am
