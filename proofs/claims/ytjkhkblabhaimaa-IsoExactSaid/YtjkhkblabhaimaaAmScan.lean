/- Loops over lists. -/
import Derived.Test.YtjkhkblabhaimaaAmTy
namespace Go.Proofs.Ytjkhkblabhaimaa.Am
set_option linter.unusedSimpArgs false
set_option linter.unusedVariables false
open Go

/-- How long lists may be that are spoken of. -/
abbrev LIM : Nat := 1000000000

theorem wrap_nat {x : Int} (h0 : -9223372036854775808 ≤ x) (h1 : x < 9223372036854775808) : IntKind.i64.wrap x = x := by
  simp [IntKind.wrap, IntKind.signed, IntKind.bits]; omega
theorem wrap_succ {i : Nat} (h : i < 4611686018427387904) : IntKind.i64.wrap ((i : Int) + 1) = ((i + 1 : Nat) : Int) := by
  rw [wrap_nat (by omega) (by omega)]; omega

section
variable {α β : Type}

theorem scan_eq {a b : List α} [DecidableEq α] {X : Nat → β} {r e : β} (hl : a.length = b.length) (h : ∀ i (hi : i < a.length) (hj : i < b.length), X i = if a[i] = b[i] then X (i + 1) else r) (he : X a.length = e) : X 0 = if a = b then e else r := by
  have key : ∀ n i, i + n = a.length → X i = if a.drop i = b.drop i then e else r := by
    intro n
    induction n with
    | zero =>
      intro i hi
      have h1 : i = a.length := by omega
      subst h1
      rw [he, List.drop_eq_nil_of_le (by omega), List.drop_eq_nil_of_le (by omega)]; simp
    | succ n ih =>
      intro i hi
      have hia : i < a.length := by omega
      have hib : i < b.length := by omega
      rw [h i hia hib, ih (i + 1) (by omega), List.drop_eq_getElem_cons hia, List.drop_eq_getElem_cons hib]
      generalize a.drop (i + 1) = A
      generalize b.drop (i + 1) = B
      by_cases h1 : a[i] = b[i] <;> by_cases h2 : A = B <;> simp [h1, h2]
  simpa using key a.length 0 (by omega)

theorem scan_any {l : List α} {p : α → Bool} {X : Nat → β} {r e : β} (h : ∀ i (hi : i < l.length), X i = if p l[i] then r else X (i + 1)) (he : X l.length = e) : X 0 = if l.any p then r else e := by
  have key : ∀ n i, i + n = l.length → X i = if (l.drop i).any p then r else e := by
    intro n
    induction n with
    | zero =>
      intro i hi
      have h1 : i = l.length := by omega
      subst h1
      rw [he]; simp
    | succ n ih =>
      intro i hi
      have hia : i < l.length := by omega
      rw [h i hia, ih (i + 1) (by omega), List.drop_eq_getElem_cons hia]
      generalize l.drop (i + 1) = A
      by_cases h1 : p l[i] = true <;> simp [h1]
  simpa using key l.length 0 (by omega)

/-- A loop that goes on to its end. -/
theorem scan_on {n : Nat} {X : Nat → β} (h : ∀ i, i < n → X i = X (i + 1)) : X 0 = X n := by
  have key : ∀ m, m ≤ n → X 0 = X m := by
    intro m
    induction m with
    | zero => intro _; rfl
    | succ m ih => intro hm; rw [ih (by omega), h m (by omega)]
  exact key n (Nat.le_refl _)

/-- A loop that goes through a list and gathers. -/
theorem scan_fold {γ : Type} {l : List α} {f : γ → α → γ} {I : Nat → γ → Prop} {X : Nat → γ → β} {e : γ → β} (h : ∀ i c (hi : i < l.length), I i c → X i c = X (i + 1) (f c l[i]) ∧ I (i + 1) (f c l[i])) (he : ∀ c, I l.length c → X l.length c = e c) {c : γ} (hc : I 0 c) : X 0 c = e (l.foldl f c) := by
  have key : ∀ n i c, i + n = l.length → I i c → X i c = e ((l.drop i).foldl f c) := by
    intro n
    induction n with
    | zero =>
      intro i c hi hI
      have h1 : i = l.length := by omega
      subst h1
      rw [he c hI]; simp
    | succ n ih =>
      intro i c hi hI
      have hia : i < l.length := by omega
      obtain ⟨h1, h2⟩ := h i c hia hI
      rw [h1, ih (i + 1) _ (by omega) h2, List.drop_eq_getElem_cons hia, List.foldl_cons]
  simpa using key l.length 0 c (by omega) hc

/-- A loop that goes through a list and maps it. -/
theorem scan_map {γ : Type} {l : List α} {f : α → γ} {X : Nat → List γ → β} {e : List γ → β} (h : ∀ i c (hi : i < l.length), c = (l.take i).map f → X i c = X (i + 1) (c ++ [f l[i]])) (he : ∀ c, c = l.map f → X l.length c = e c) : X 0 [] = e (l.map f) := by
  have := scan_fold (l := l) (f := fun c x => c ++ [f x]) (I := fun i c => c = (l.take i).map f) (X := X) (e := e)
    (fun i c hi hc => ⟨h i c hi hc, by rw [hc, List.take_add_one, List.map_append]; simp [hi]⟩) (fun c hc => he c (by simpa using hc)) (c := []) (by simp)
  have e2 : ∀ (l : List α) (c : List γ), l.foldl (fun c x => c ++ [f x]) c = c ++ l.map f := by
    intro l
    induction l with
    | nil => simp
    | cons x l ih => intro c; simp [ih]
  rw [this, e2]; simp
/-- A loop that goes through a list and turns it in its place. -/
theorem scan_upd {l : List α} {f : α → α} {X : Nat → List α → β} {e : List α → β} (h : ∀ i c (hi : i < c.length) (hi' : i < l.length), c.length = l.length → c[i] = l[i] → X i c = X (i + 1) (c.set i (f c[i]))) (he : ∀ c, c.length = l.length → X l.length c = e c) : X 0 l = e (l.map f) := by
  have key : ∀ n i, i + n = l.length → X i ((l.take i).map f ++ l.drop i) = e (l.map f) := by
    intro n
    induction n with
    | zero =>
      intro i hi
      have h1 : i = l.length := by omega
      subst h1
      rw [he _ (by simp)]; simp
    | succ n ih =>
      intro i hi
      have hia : i < l.length := by omega
      have hlen : ((l.take i).map f ++ l.drop i).length = l.length := by simp; omega
      have hget : ((l.take i).map f ++ l.drop i)[i]'(by omega) = l[i] := by
        rw [List.getElem_append_right (by simp; omega)]
        simp [Nat.min_eq_left (Nat.le_of_lt hia)]
      rw [h i _ (by omega) hia hlen hget, hget]
      have e2 : ((l.take i).map f ++ l.drop i).set i (f l[i]) = (l.take (i + 1)).map f ++ l.drop (i + 1) := by
        have hmin : ((l.take i).map f).length = i := by simp; omega
        rw [List.set_append_right _ _ (by omega), hmin, Nat.sub_self, List.drop_eq_getElem_cons hia, List.set_cons_zero, List.take_succ_eq_append_getElem hia, List.map_append, List.append_assoc]
        rfl
      rw [e2, ih (i + 1) (by omega)]
  simpa using key l.length 0 (by omega)
end
end Go.Proofs.Ytjkhkblabhaimaa.Am
