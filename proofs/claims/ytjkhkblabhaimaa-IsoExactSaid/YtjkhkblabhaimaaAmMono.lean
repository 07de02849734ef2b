/- More fuel answers the same. -/
import Derived.Test.YtjkhkblabhaimaaAmRow
namespace Go.Proofs.Ytjkhkblabhaimaa.Am
set_option linter.unusedSimpArgs false
set_option linter.unusedVariables false
open Go

def Sub (F F' : Oracle) : Prop := ∀ f args σ lo tr r, F f args σ lo tr = some r → F' f args σ lo tr = some r

section
variable {F F' : Oracle} {bd : Bd}

theorem step_sub (hF : Sub F F') {s : St} {op : AOp} {r : V × St} (h : stepOp F bd s op = some r) : stepOp F' bd s op = some r := by
  cases op with
  | call f args =>
    simp only [stepOp] at h ⊢
    split at h
    · rename_i hf; rw [hF _ _ _ _ _ _ hf]; exact h
    · cases h
  | callp f args =>
    simp only [stepOp] at h ⊢
    split at h
    · rename_i hf; rw [hF _ _ _ _ _ _ hf]; exact h
    · cases h
  | callb f args =>
    simp only [stepOp] at h ⊢
    split at h
    · rename_i hc
      rw [if_pos hc]
      split at h
      · rename_i hf; rw [hF _ _ _ _ _ _ hf]; exact h
      · cases h
    · cases h
  | callv x args =>
    simp only [stepOp] at h ⊢
    split at h
    · split at h
      · rename_i hf; rw [hF _ _ _ _ _ _ hf]; exact h
      · cases h
    · cases h
  | mov m x => cases m <;> exact h
  | ld m n x => cases m <;> cases n <;> exact h
  | _ => exact h

theorem ins_sub (hF : Sub F F') {s s' : St} {i : AIns} (h : stepIns F bd s i = some s') : stepIns F' bd s i = some s' := by
  have go : ∀ {s' : St}, (match stepOp F bd s i.op with | some (v, s') => some (s'.set i.dst v) | none => none) = some s' → (match stepOp F' bd s i.op with | some (v, s') => some (s'.set i.dst v) | none => none) = some s' := by
    intro s' h
    split at h
    · rename_i hs; rw [step_sub hF hs]; exact h
    · cases h
  unfold stepIns at h ⊢
  split at h
  · exact go h
  · split at h
    · rename_i t ht
      cases hb : t == _ with
      | true => rw [hb] at h; exact go h
      | false => rw [hb] at h; exact h
    · cases h

theorem all_sub (hF : Sub F F') : ∀ {is : List AIns} {s s' : St}, stepAll F bd s is = some s' → stepAll F' bd s is = some s'
  | [], _, _, h => h
  | i :: is, s, s', h => by
    simp only [stepAll] at h ⊢
    split at h
    · rename_i hs; rw [ins_sub hF hs]; exact all_sub hF h
    · cases h

theorem ev_sub (hF : Sub F F') : ∀ (n : Nat) (c : ACode) (s : St) (r : AExit × St), ev F bd n c s = some r → ∀ m, n ≤ m → ev F' bd m c s = some r
  | 0, _, _, _, h, _, _ => by simp [ev] at h
  | n + 1, c, s, r, h, m, hm => by
    obtain ⟨m, rfl⟩ : ∃ k, m = k + 1 := ⟨m - 1, by omega⟩
    have ih := ev_sub hF n
    have hnm : n ≤ m := by omega
    cases c with
    | skip => exact h
    | region d ops keep =>
      simp only [ev] at h ⊢
      split at h
      · rename_i hs; rw [all_sub hF hs]; exact h
      · cases h
    | seq a b =>
      simp only [ev] at h ⊢
      cases hx : ev F bd n a s with
      | none => rw [hx] at h; cases h
      | some q =>
        obtain ⟨e1, s1⟩ := q
        rw [hx] at h
        rw [ih _ _ _ hx m hnm]
        cases e1 with
        | normal => exact ih _ _ _ h m hnm
        | _ => exact h
    | cond x a b =>
      simp only [ev] at h ⊢
      split at h
      · rename_i t ht
        cases t
        · exact ih _ _ _ h m hnm
        · exact ih _ _ _ h m hnm
      · cases h
    | block i c =>
      simp only [ev] at h ⊢
      cases hx : ev F bd n c s with
      | none => rw [hx] at h; cases h
      | some q =>
        obtain ⟨e1, s1⟩ := q
        rw [hx] at h
        rw [ih _ _ _ hx m hnm]
        exact h
    | loop c =>
      simp only [ev] at h ⊢
      cases hx : ev F bd n c s with
      | none => rw [hx] at h; cases h
      | some q =>
        obtain ⟨e1, s1⟩ := q
        rw [hx] at h
        rw [ih _ _ _ hx m hnm]
        cases e1 with
        | normal => exact ih _ _ _ h m hnm
        | _ => exact h
    | exit i => exact h
    | ret => exact h
    | wrap cut nrm ret exs c =>
      simp only [ev] at h ⊢
      cases hx : ev F bd n c s with
      | none => rw [hx] at h; cases h
      | some q =>
        obtain ⟨e1, s1⟩ := q
        rw [hx] at h
        rw [ih _ _ _ hx m hnm]
        exact h

theorem core_sub (hF : Sub F F') {n m : Nat} (hnm : n ≤ m) {kp : Kp} {fn : AFun} {args : List V} {σ : List Ob} {lo tr : Nat} {r : V × List Ob} (h : core F n kp fn args σ lo tr = some r) : core F' m kp fn args σ lo tr = some r := by
  unfold core at h ⊢
  split at h
  case isFalse => cases h
  rename_i hl
  rw [if_pos hl]
  split at h
  case h_1 => cases h
  rename_i env henv
  have go : ∀ (bd : Bd) {k : Option (AExit × St) → Option (V × List Ob)}, k none = none → k (ev F bd n fn.body ⟨env, σ⟩) = some r → k (ev F' bd m fn.body ⟨env, σ⟩) = some r := by
    intro bd k h0 hk
    cases hx : ev F bd n fn.body ⟨env, σ⟩ with
    | none => rw [hx, h0] at hk; cases hk
    | some q => rw [ev_sub hF n _ _ _ hx m hnm]; rw [hx] at hk; exact hk
  cases kp
  · exact go _ (k := fun r => match r with
      | some (.exit _, _) => none
      | some (_, s) => match resOf s σ.length fn.results with
          | some v => match frzV (fun l => decide (σ.length ≤ l)) s.σ v with
            | some v => if v.closed σ.length then some (v, s.σ.take σ.length) else none
            | none => none
          | none => none
      | none => none) rfl h
  · exact go _ (k := fun r => match r with
      | some (.exit _, _) => none
      | some (_, s) => match resOf s σ.length fn.results with
          | some v => match frzV (fun l => decide (σ.length ≤ l)) s.σ v with
            | some v => if v.closed σ.length then some (v, s.σ.take σ.length) else none
            | none => none
          | none => none
      | none => none) rfl h
  · exact go _ (k := fun r => match r with
      | some (.exit _, _) => none
      | some (_, s) => match resOf s s.σ.length fn.results with
          | some v => some (v, s.σ)
          | none => none
      | none => none) rfl h
end

theorem base_sub {F F' : Oracle} (hF : Sub F F') {n m : Nat} (hnm : n ≤ m) {fn : AFun} {args : List V} {σ : List Ob} {lo tr : Nat} {r : V × List Ob} (h : base F n fn args σ lo tr = some r) : base F' m fn args σ lo tr = some r := by
  unfold base at h ⊢
  cases hs : (fn.split && isEmp args) with
  | false => rw [hs] at h; exact core_sub hF hnm h
  | true =>
    rw [hs] at h
    simp only [cond_true] at h ⊢
    split at h
    · rename_i h1 h2
      rw [core_sub hF hnm h1, core_sub hF hnm h2]
      exact h
    · cases h

theorem evf_sub {fns : Nat → Option AFun} : ∀ (n m : Nat), n ≤ m → Sub (evf fns n) (evf fns m)
  | 0, _, _ => by intro f args σ lo tr r h; simp [evf] at h
  | n + 1, m, hm => by
    obtain ⟨m, rfl⟩ : ∃ k, m = k + 1 := ⟨m - 1, by omega⟩
    have hF := evf_sub (fns := fns) n m (by omega)
    intro f args σ lo tr r h
    simp only [evf] at h ⊢
    split at h
    case h_1 => cases h
    rename_i fn hfn
    cases hb : blindOk fn args with
    | false => rw [hb] at h; exact base_sub hF (by omega) h
    | true =>
      rw [hb] at h
      simp only [cond_true] at h ⊢
      split at h
      · rename_i h1; rw [base_sub hF (by omega) h1]; exact h
      · cases h

end Go.Proofs.Ytjkhkblabhaimaa.Am
