/- Below its bound nothing is written. -/
import Derived.Test.YtjkhkblabhaimaaAmLow
namespace Go.Proofs.Ytjkhkblabhaimaa.Am
set_option linter.unusedSimpArgs false
set_option linter.unusedVariables false
open Go
set_option linter.unusedVariables false

def Kept (lo : Nat) (σ σ' : List Ob) : Prop := (∀ l, l < lo → l < σ.length → σ'[l]? = σ[l]?) ∧ σ.length ≤ σ'.length

theorem Kept.refl (lo : Nat) (σ : List Ob) : Kept lo σ σ := ⟨fun _ _ _ => rfl, Nat.le_refl _⟩
theorem Kept.trans {lo : Nat} {σ σ1 σ2 : List Ob} (h : Kept lo σ σ1) (k : Kept lo σ1 σ2) : Kept lo σ σ2 :=
  ⟨fun l h1 h2 => (k.1 l h1 (Nat.lt_of_lt_of_le h2 h.2)).trans (h.1 l h1 h2), Nat.le_trans h.2 k.2⟩
theorem Kept.push (lo : Nat) (σ : List Ob) (o : Ob) : Kept lo σ (σ ++ [o]) := ⟨fun l _ h => List.getElem?_append_left h, by simp⟩
theorem Kept.set {lo : Nat} (σ : List Ob) {l : Nat} (o : Ob) (h : lo ≤ l) : Kept lo σ (σ.set l o) := ⟨fun x h1 _ => List.getElem?_set_ne (by omega), by simp⟩
theorem mayWrite_lo {bd : Bd} {l : Nat} {cs : List C} (h : mayWrite bd l cs = true) : bd.lo ≤ l := by
  simp only [mayWrite, Bool.and_eq_true, decide_eq_true_eq] at h
  exact h.1

def KeepF2 (F : Oracle) : Prop := ∀ f args σ lo tr v σ', F f args σ lo tr = some (v, σ') → Kept lo σ σ'

theorem step_keep {F : Oracle} {bd : Bd} (hF : KeepF2 F) {s s' : St} {op : AOp} {v : V} (h : stepOp F bd s op = some (v, s')) : Kept bd.lo s.σ s'.σ := by
  cases op with
  | mov md x => cases md <;> (simp only [stepOp] at h; repeat' split at h) <;> cases h <;> first | exact .refl _ _ | (rw [took_σ]; exact .refl _ _) | (exact .set _ _ (by assumption))
  | bsl md k n zs ps => simp only [stepOp] at h; repeat' split at h
                        all_goals cases h
                        all_goals first | exact .refl _ _ | exact .push _ _ _
  | ld md n x =>
    cases md
    · simp only [stepOp] at h
      repeat' split at h
      all_goals cases h
      all_goals exact .refl _ _
    · cases n <;> (simp only [stepOp] at h; repeat' split at h) <;> cases h <;> exact .set _ _ (by assumption)
    · cases n with
      | some n => simp [stepOp] at h
      | none =>
        simp only [stepOp] at h
        repeat' split at h
        all_goals cases h
        rename_i hall
        refine ⟨fun l h1 h2 => ?_, by rw [killAll_len]; exact Nat.le_refl _⟩
        rw [killAll_get, if_neg]
        rintro ⟨hm, _⟩
        have := List.all_eq_true.mp hall l hm
        simp only [decide_eq_true_eq] at this
        omega
    · cases n <;> simp [stepOp] at h
  | slc md k x lo hi =>
    simp only [stepOp] at h
    repeat' split at h
    all_goals cases h
    all_goals first | exact .refl _ _ | (rw [took_σ]; exact .refl _ _)
  | mks md k b zs l c =>
    simp only [stepOp] at h
    repeat' split at h
    all_goals cases h
    all_goals first | exact .refl _ _ | exact .push _ _ _
  | call f args =>
    simp only [stepOp] at h
    split at h
    case h_2 => cases h
    rename_i hf
    cases h
    exact hF _ _ _ _ _ _ _ hf
  | callp f args =>
    simp only [stepOp] at h
    split at h
    case h_2 => cases h
    rename_i hf
    split at h
    case isFalse => cases h
    cases h
    have := hF _ _ _ _ _ _ _ hf
    exact ⟨fun l h1 h2 => this.1 l (by omega) h2, this.2⟩
  | callv x args =>
    simp only [stepOp] at h
    repeat' split at h
    all_goals cases h
    rename_i hf
    exact hF _ _ _ _ _ _ _ hf
  | st n a x =>
    simp only [stepOp] at h
    repeat' split at h
    all_goals cases h
    rename_i hw
    exact .set _ _ (mayWrite_lo hw)
  | upd ks x key v =>
    simp only [stepOp] at h
    split at h
    case h_2 => cases h
    split at h
    case h_2 => cases h
    split at h
    case isFalse => cases h
    rename_i hw
    simp only [Bool.and_eq_true] at hw
    have := mayWrite_lo hw.1
    split at h
    · cases h; exact .set _ _ this
    · cases h; exact .set _ _ this
    · cases h
  | appa k b x y =>
    simp only [stepOp] at h
    repeat' split at h
    all_goals cases h
    · exact .refl _ _
    · exact .push _ _ _
    · rename_i hc
      exact (Kept.set _ _ hc.2.1).trans (.push _ _ _)
  | cpy k x y =>
    simp only [stepOp] at h
    repeat' split at h
    all_goals cases h
    rename_i hc
    exact .set _ _ (mayWrite_lo hc.2)
  | app k b x y =>
    simp only [stepOp] at h
    repeat' split at h
    all_goals cases h
    all_goals (rw [took_σ]; exact .refl _ _)
  | _ =>
    simp only [stepOp] at h
    repeat' split at h
    all_goals cases h
    all_goals first | exact .refl _ _ | exact .push _ _ _

theorem ins_keep {F : Oracle} {bd : Bd} (hF : KeepF2 F) {s s' : St} {i : AIns} (h : stepIns F bd s i = some s') : Kept bd.lo s.σ s'.σ := by
  unfold stepIns at h
  have go : ∀ {r : Option (V × St)}, r = stepOp F bd s i.op → (match r with | some (v, s') => some (s'.set i.dst v) | none => none) = some s' → Kept bd.lo s.σ s'.σ := by
    intro r hr h
    split at h
    · cases h; rw [set_σ]; exact step_keep hF hr.symm
    · cases h
  split at h
  · exact go rfl h
  · rename_i g want hg
    split at h
    case h_2 => cases h
    rename_i t ht
    cases hb : t == want with
    | true =>
      rw [hb] at h
      simp only [cond_true] at h
      exact go rfl h
    | false =>
      rw [hb] at h
      simp only [cond_false, Option.some.injEq] at h
      subst h; rw [set_σ]; exact .refl _ _

theorem all_keep {F : Oracle} {bd : Bd} (hF : KeepF2 F) : ∀ {is : List AIns} {s s' : St}, stepAll F bd s is = some s' → Kept bd.lo s.σ s'.σ
  | [], s, s', h => by simp only [stepAll, Option.some.injEq] at h; subst h; exact .refl _ _
  | i :: is, s, s', h => by
    simp only [stepAll] at h
    split at h
    · rename_i s1 hs1
      exact (ins_keep hF hs1).trans (all_keep hF h)
    · cases h

theorem ev_keep {F : Oracle} {bd : Bd} (hF : KeepF2 F) : ∀ (n : Nat) (c : ACode) (s : St) (e : AExit) (s' : St), ev F bd n c s = some (e, s') → Kept bd.lo s.σ s'.σ
  | 0, _, _, _, _, h => by simp [ev] at h
  | n + 1, c, s, e, s', h => by
    have ih := ev_keep (bd := bd) hF n
    have two : ∀ {c1 : ACode} {k : St → Option (AExit × St)}, (match ev F bd n c1 s with | some (.normal, s1) => k s1 | r => r) = some (e, s') →
        (∀ s1, k s1 = some (e, s') → Kept bd.lo s1.σ s'.σ) → Kept bd.lo s.σ s'.σ := by
      intro c1 k h hk
      cases hx : ev F bd n c1 s with
      | none => rw [hx] at h; cases h
      | some r =>
        obtain ⟨e1, s1⟩ := r
        rw [hx] at h
        have a1 := ih _ _ _ _ hx
        cases e1 with
        | normal => exact a1.trans (hk s1 h)
        | exit i => cases h; exact a1
        | ret => cases h; exact a1
    cases c with
    | skip => simp only [ev, Option.some.injEq, Prod.mk.injEq] at h; obtain ⟨_, rfl⟩ := h; exact .refl _ _
    | region d ops keep =>
      simp only [ev] at h
      split at h
      · rename_i s1 hs1
        simp only [Option.some.injEq, Prod.mk.injEq] at h
        obtain ⟨_, rfl⟩ := h
        have hh := all_keep hF hs1
        exact hh
      · cases h
    | seq a b => simp only [ev] at h; exact two h (fun s1 h1 => ih _ _ _ _ h1)
    | cond x a b =>
      simp only [ev] at h
      split at h
      · rename_i t ht
        cases t
        · exact ih _ _ _ _ h
        · exact ih _ _ _ _ h
      · cases h
    | block i c =>
      simp only [ev] at h
      cases hx : ev F bd n c s with
      | none => rw [hx] at h; cases h
      | some r =>
        obtain ⟨e1, s1⟩ := r
        rw [hx] at h
        have hh := ih _ _ _ _ hx
        cases e1 with
        | normal => cases h; exact hh
        | ret => cases h; exact hh
        | exit j => simp only at h; split at h <;> cases h <;> exact hh
    | loop c => simp only [ev] at h; exact two h (fun s1 h1 => ih _ _ _ _ h1)
    | exit i => simp only [ev, Option.some.injEq, Prod.mk.injEq] at h; obtain ⟨_, rfl⟩ := h; exact .refl _ _
    | ret => simp only [ev, Option.some.injEq, Prod.mk.injEq] at h; obtain ⟨_, rfl⟩ := h; exact .refl _ _
    | wrap cut nrm ret exs c =>
      simp only [ev] at h
      cases hx : ev F bd n c s with
      | none => rw [hx] at h; cases h
      | some r =>
        obtain ⟨e1, s1⟩ := r
        rw [hx] at h
        have hh := ih _ _ _ _ hx
        rcases wrapEnd_σ h with ⟨h1, _⟩ | ⟨h1, h2, _⟩
        · rw [h1]; exact hh
        · rw [h1]
          refine ⟨fun l hl1 hl2 => ?_, by simp; omega⟩
          rw [List.getElem?_take, if_pos hl2]
          exact hh.1 l hl1 hl2

theorem core_keep {F : Oracle} (hF : KeepF2 F) {n : Nat} {kp : Kp} {fn : AFun} {args : List V} {σ : List Ob} {lo tr : Nat} {v : V} {σ' : List Ob} (h : core F n kp fn args σ lo tr = some (v, σ')) : Kept lo σ σ' ∧ (kp = .pure → σ' = σ) := by
  unfold core at h
  split at h
  case isFalse => cases h
  split at h
  case h_1 => cases h
  rename_i env henv
  cases hk : kp <;> simp only [hk] at h
  all_goals
    split at h
    case h_1 => cases h
    case h_3 => cases h
    rename_i s e hx
    obtain ⟨a1, a2⟩ := ev_keep hF _ _ _ _ _ hx
    simp only at a1 a2
    split at h
    case h_2 => cases h
  · split at h
    case h_2 => cases h
    split at h
    case isFalse => cases h
    cases h
    refine ⟨⟨fun l h1 h2 => ?_, by simp; omega⟩, fun _ => ?_⟩
    · rw [List.getElem?_take, if_pos h2]; exact a1 l (by omega) h2
    · refine List.ext_getElem? fun l => ?_
      rw [List.getElem?_take]
      split
      · rename_i hl; exact a1 l (by omega) hl
      · rename_i hl; rw [List.getElem?_eq_none (by omega)]
  · split at h
    case h_2 => cases h
    split at h
    case isFalse => cases h
    cases h
    refine ⟨⟨fun l h1 h2 => ?_, by simp; omega⟩, fun h => by cases h⟩
    rw [List.getElem?_take, if_pos h2]; exact a1 l (by omega) h2
  · cases h
    exact ⟨⟨a1, a2⟩, fun h => by cases h⟩

theorem base_keep {F : Oracle} (hF : KeepF2 F) {n : Nat} {fn : AFun} {args : List V} {σ : List Ob} {lo tr : Nat} {v : V} {σ' : List Ob} (h : base F n fn args σ lo tr = some (v, σ')) : Kept lo σ σ' := by
  unfold base at h
  cases hs : (fn.split && isEmp args) with
  | false =>
    rw [hs] at h
    exact (core_keep hF h).1
  | true =>
    rw [hs] at h
    simp only [cond_true] at h
    split at h
    · rename_i h1 h2
      split at h
      · cases h; exact (core_keep hF h1).1
      · cases h
    · cases h

theorem evf_keep (fns : Nat → Option AFun) : ∀ n, KeepF2 (evf fns n)
  | 0 => by intro f args σ lo tr v σ' h; simp [evf] at h
  | n + 1 => by
    intro f args σ lo tr v σ' h
    simp only [evf] at h
    split at h
    case h_1 => cases h
    rename_i af haf
    cases hb : blindOk af args with
    | false => rw [hb] at h; exact base_keep (evf_keep fns n) h
    | true =>
      rw [hb] at h
      simp only [cond_true] at h
      split at h
      · split at h
        · cases h; exact .refl _ _
        · cases h
      · cases h
end Go.Proofs.Ytjkhkblabhaimaa.Am
