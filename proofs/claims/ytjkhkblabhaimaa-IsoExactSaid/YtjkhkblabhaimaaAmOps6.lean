/- '==' and '!='. -/
import Derived.Test.YtjkhkblabhaimaaAmOps5
namespace Go.Proofs.Ytjkhkblabhaimaa.Am
set_option linter.unusedSimpArgs false
set_option linter.unusedVariables false
open Go
set_option linter.unusedVariables false

section
variable {P : Program} {g g' : G} {w w' : World} {Pr : Nat → Prop} {s s' : St} {a : Act} {F : Oracle} {bd : Bd}

def eqKind (P : Program) (t : TypeId) (ks : List Nat) : Nat → Bool
  | 0 => match P.underlying t with | some .bool => true | _ => false
  | 1 => match P.underlying t with | some (.pointer _) => true | _ => false
  | 2 => !P.eqGuardType P.depth t && isStr P t && (flatTy P 50 t == some ks) && ks.length == P.cellsOf t
  | 3 => match P.underlying t with | some (.map _ _) => true | _ => false
  | 4 => match P.underlying t with | some (.slice _) => true | _ => false
  | _ => false

theorem run_eq_ptr {d : Nat} {t e : TypeId} {q : Option Addr} (hu : P.underlying t = some (.pointer e)) : (Op.equalIn (d + 1) t (.pointer none) (.pointer q)).run P w = .ok q.isNone w := by
  simp [Op.equalIn, run_underlying hu]
theorem run_eq_ptr' {d : Nat} {t e : TypeId} {q : Addr} (hu : P.underlying t = some (.pointer e)) : (Op.equalIn (d + 1) t (.pointer (some q)) (.pointer none)).run P w = .ok false w := by
  simp [Op.equalIn, run_underlying hu]
theorem run_eq_map {d : Nat} {t k e : TypeId} {q : Option Nat} (hu : P.underlying t = some (.map k e)) : (Op.equalIn (d + 1) t (.map none) (.map q)).run P w = .ok q.isNone w := by
  simp [Op.equalIn, run_underlying hu]
theorem run_eq_map' {d : Nat} {t k e : TypeId} {q : Nat} (hu : P.underlying t = some (.map k e)) : (Op.equalIn (d + 1) t (.map (some q)) (.map none)).run P w = .ok false w := by
  simp [Op.equalIn, run_underlying hu]

theorem run_eq_sl {d : Nat} {t e : TypeId} {q : Option Addr} {n c : Nat} (hu : P.underlying t = some (.slice e)) : (Op.equalIn (d + 1) t (.slice q n c) (.slice none 0 0)).run P w = .ok q.isNone w := by
  cases q <;> simp [Op.equalIn, run_underlying hu]

theorem binOp_eq {t : TypeId} {u v : Value} {r : Bool} (h : (Op.equal t u v).run P w = .ok r w) (hu : (∃ b, u = .bool b) ∨ (∃ q, u = .pointer q) ∨ (∃ cs, u = .agg cs) ∨ (∃ m, u = .map m) ∨ ∃ q n c, u = .slice q n c) (neg : Bool) :
    (binOp (bif neg then .neq else .eql) t u v).run P w = .ok (.bool (bif neg then !r else r)) w := by
  rcases hu with ⟨b, rfl⟩ | ⟨q, rfl⟩ | ⟨cs, rfl⟩ | ⟨m, rfl⟩ | ⟨q, n, c, rfl⟩ <;> cases neg <;> simp [binOp, h]

theorem ok_eq (o : Oper) {neg : Bool} {kd : Nat} {ks : List Nat} {t t' : TypeId} {x y : Operand} {x' y' : Opd} {v : V} (ho : o.op = .binOp (bif neg then .neq else .eql) t x y t') (hx : chkOpd x x' = true) (hy : chkOpd y y' = true)
    (hk : eqKind P t ks kd = true)
    (hv : stepOp F bd s (.eq neg kd ks x' y') = some (v, s')) (hI : Inv g w Pr s.σ) (hE : EnvOk g w Pr s.env a) : OpOk P o a g w Pr s' v := by
  have h1 := opd_rd hE hx (.tmp 0)
  have h2 := opd_rd hE hy (.tmp 0)
  simp only [stepOp] at hv
  split at hv
  case h_2 => cases hv
  rename_i r hr
  cases hv
  have fin : ∀ {u v : Value} (e1 : a.eval x = u) (e2 : a.eval y = v) (hg : (eqGuard (bif neg then .neq else .eql) t x y u v).run P w = .ok () w)
      (h : (Op.equal t u v).run P w = .ok r w) (hu : (∃ b, u = .bool b) ∨ (∃ q, u = .pointer q) ∨ (∃ cs, u = .agg cs) ∨ (∃ m, u = .map m) ∨ ∃ q n c, u = .slice q n c), OpOk P o a g w Pr s (.c (.b (.d (.bool (bif neg then !r else r))))) := by
    intro u v e1 e2 hg h hu
    refine OpOk.pure (u := .bool (bif neg then !r else r)) ?_ hI hE (fun _ => RepD.bool _)
    simp only [execOp, ho, e1, e2, Sem.run_bind, hg, Result.andThen_ok, binOp_eq h hu]; rfl
  generalize s.rd x' = xv at *
  generalize s.rd y' = yv at *
  generalize a.eval x = u at *
  generalize a.eval y = v at *
  unfold eqV at hr
  split at hr
  · have e1 := rep_bool h1
    have e2 := rep_bool h2
    subst e1; subst e2
    cases hr
    simp only [eqKind] at hk
    split at hk
    · rename_i hu
      exact fin rfl rfl (run_eqGuard (by simp) (by simp)) (run_equalIn_bool' w _ t _ _ hu) (.inl ⟨_, rfl⟩)
    · cases hk
  · cases hr; cases h1; cases h2
    simp only [eqKind] at hk
    split at hk
    · rename_i e hu
      exact fin rfl rfl (run_eqGuard (by simp) (by simp)) (run_eq_ptr (d := 9999) hu) (.inr (.inl ⟨_, rfl⟩))
    · cases hk
  · cases hr; cases h1; obtain ⟨b, q, hl, rfl⟩ := h2
    simp only [eqKind] at hk
    split at hk
    · rename_i e hu
      exact fin rfl rfl (run_eqGuard (by simp) (by simp)) (run_eq_ptr (d := 9999) hu) (.inr (.inl ⟨_, rfl⟩))
    · cases hk
  · cases hr; cases h2; obtain ⟨b, q, hl, rfl⟩ := h1
    simp only [eqKind] at hk
    split at hk
    · rename_i e hu
      exact fin rfl rfl (run_eqGuard (by simp) (by simp)) (run_eq_ptr' (d := 9999) hu) (.inr (.inl ⟨_, rfl⟩))
    · cases hk
  · cases hr; cases h1; obtain ⟨b, q, vs, rfl, _⟩ := h2
    simp only [eqKind] at hk
    split at hk
    · rename_i e hu
      exact fin rfl rfl (run_eqGuard (by simp) (by simp)) (run_eq_ptr (d := 9999) hu) (.inr (.inl ⟨_, rfl⟩))
    · cases hk
  · cases hr; cases h2; obtain ⟨b, q, vs, rfl, _⟩ := h1
    simp only [eqKind] at hk
    split at hk
    · rename_i e hu
      exact fin rfl rfl (run_eqGuard (by simp) (by simp)) (run_eq_ptr' (d := 9999) hu) (.inr (.inl ⟨_, rfl⟩))
    · cases hk
  · rename_i cs ds
    obtain ⟨arr, rfl, hl1, hc1⟩ := h1
    obtain ⟨brr, rfl, hl2, hc2⟩ := h2
    simp only [eqKind, Bool.and_eq_true, Bool.not_eq_true', beq_iff_eq] at hk
    obtain ⟨⟨⟨k1, k2⟩, k3⟩, k4⟩ := hk
    obtain ⟨l1, l2⟩ := sames_len hr
    have va : Vals g w cs arr 0 := fun i x hi => by obtain ⟨u, q1, _, q3⟩ := hc1 i _ hi; exact ⟨u, by simpa using q1, q3⟩
    have vb : Vals g w ds brr 0 := fun i x hi => by obtain ⟨u, q1, _, q3⟩ := hc2 i _ hi; exact ⟨u, by simpa using q1, q3⟩
    have h := run_flat (P := P) (w := w) 50 t ks k3 Op.maxDepth (by decide) cs ds arr brr r 0 0 hr va vb (fun _ => k4)
    simp only [partOf, k2, if_true, Nat.zero_add] at h
    rw [show arr.extract 0 (P.cellsOf t) = arr by apply Array.extract_eq_self_of_le; omega, show brr.extract 0 (P.cellsOf t) = brr by apply Array.extract_eq_self_of_le; omega] at h
    refine fin rfl rfl ?_ h (.inr (.inr (.inl ⟨_, rfl⟩)))
    unfold eqGuard
    cases neg <;> simp [k1]
  · cases hr; cases h1; cases h2
    simp only [eqKind] at hk
    split at hk
    · rename_i e f hu
      exact fin rfl rfl (run_eqGuard (by simp) (by simp)) (run_eq_map (d := 9999) hu) (.inr (.inr (.inr (.inl ⟨_, rfl⟩))))
    · cases hk
  · cases hr; cases h2; obtain ⟨b, q, hl, rfl⟩ := h1
    simp only [eqKind] at hk
    split at hk
    · rename_i e f hu
      exact fin rfl rfl (run_eqGuard (by simp) (by simp)) (run_eq_map' (d := 9999) hu) (.inr (.inr (.inr (.inl ⟨_, rfl⟩))))
    · cases hk
  · cases hr; cases h1; obtain ⟨b, q, hl, rfl⟩ := h2
    simp only [eqKind] at hk
    split at hk
    · rename_i e f hu
      exact fin rfl rfl (run_eqGuard (by simp) (by simp)) (run_eq_map (d := 9999) hu) (.inr (.inr (.inr (.inl ⟨_, rfl⟩))))
    · cases hk
  · cases hr; cases h1; cases h2
    simp only [eqKind] at hk
    split at hk
    · rename_i e hu
      exact fin rfl rfl (run_eqGuard (by simp) (by simp)) (run_eq_sl (d := 9999) hu) (.inr (.inr (.inr (.inr ⟨_, _, _, rfl⟩))))
    · cases hk
  · cases hr; cases h2; obtain ⟨ad, cap, rfl⟩ := h1
    simp only [eqKind] at hk
    split at hk
    · rename_i e hu
      exact fin rfl rfl (run_eqGuard (by simp) (by simp)) (run_eq_sl (d := 9999) hu) (.inr (.inr (.inr (.inr ⟨_, _, _, rfl⟩))))
    · cases hk
  · cases hr; cases h2; obtain ⟨b, q, cap, arr, ty, _, rfl, _⟩ := h1
    simp only [eqKind] at hk
    split at hk
    · rename_i e hu
      exact fin rfl rfl (run_eqGuard (by simp) (by simp)) (run_eq_sl (d := 9999) hu) (.inr (.inr (.inr (.inr ⟨_, _, _, rfl⟩))))
    · cases hk
  · cases hr; cases h2
    cases h1
    simp only [eqKind] at hk
    split at hk
    · rename_i e hu
      exact fin rfl rfl (run_eqGuard (by simp) (by simp)) (run_eq_sl (d := 9999) hu) (.inr (.inr (.inr (.inr ⟨_, _, _, rfl⟩))))
    · cases hk
  · cases hr
end
end Go.Proofs.Ytjkhkblabhaimaa.Am
