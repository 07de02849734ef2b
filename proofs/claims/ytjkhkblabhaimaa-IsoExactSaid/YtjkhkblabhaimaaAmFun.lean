/- Code and functions: what the abstract machine computes the model computes. -/
import Derived.Test.YtjkhkblabhaimaaAmCut
namespace Go.Proofs.Ytjkhkblabhaimaa.Am
set_option linter.unusedSimpArgs false
set_option linter.unusedVariables false
open Go
set_option linter.unusedVariables false

def chkCode (P : Program) (N : Nat) : Code → ACode → Bool
  | c, .wrap _ _ _ _ x => chkCode P N c x
  | .skip, .skip => true
  | .region _ ops draw, .region draw' is _ => draw == draw' && chkAll P N ops ops.toList is && (!draw || drawOk ops is)
  | .seq a b, .seq x y => chkCode P N a x && chkCode P N b y
  | .cond c a b, .cond x y z => chkOpd c x && chkCode P N a y && chkCode P N b z
  | .block i a, .block j x => i == j && chkCode P N a x
  | .loop a, .loop x => chkCode P N a x
  | .exit i, .exit j => i == j
  | .ret, .ret => true
  | _, _ => false

section
variable {P : Program} {N : Nat} {g g' : G} {w w' : World} {Pr : Nat → Prop} {s s' : St} {a a' : Act} {F : Oracle} {bd : Bd}

/-- What behind a piece of code holds. -/
def After (N : Nat) (g : G) (w : World) (Pr : Nat → Prop) (e : AExit) (s' : St) : Exit → Act → World → Prop := fun e' a' w' => e' = e.out ∧ Behind N g w Pr s' a' w'

theorem out_normal {e : AExit} (h : e ≠ .normal) : e.out ≠ .normal := by cases e <;> simp_all [AExit.out]

theorem after_trans {e : AExit} {s2 : St} {g1 : G} {w1 : World} (h1 : Ext g w g1 w1) (h2 : Fr Pr g w g1 w1) {e' : Exit} {a2 : Act} {w2 : World} (h : After N g1 w1 Pr e s2 e' a2 w2) : After N g w Pr e s2 e' a2 w2 :=
  ⟨h.1, Behind.trans h1 h2 h.2⟩

theorem rounds_mono {c : Code} {Q Q' : Exit → Act → World → Prop} (hq : ∀ e a w, Q e a w → Q' e a w) : ∀ (n : Nat) (a : Act) (w : World), c.rounds P Q n a w → c.rounds P Q' n a w
  | 0, _, _, h => h
  | n + 1, a, w, h => by
    rw [rounds_succ] at h ⊢
    refine wp_mono h ?_
    intro e a w he
    cases e with
    | normal => exact rounds_mono hq n a w he
    | exit i => exact hq _ _ _ he
    | goto i => exact hq _ _ _ he
    | ret => exact hq _ _ _ he
    | panic c => exact hq _ _ _ he
    | outgrown => exact hq _ _ _ he

theorem env_kept (nrm ret : List Nat) (exs : List (Nat × List Nat)) (e : AExit) (env : Env) (t : Nat) : (keptAt nrm ret exs e env).get t = env.get t ∨ (keptAt nrm ret exs e env).get t = .c (.b .any) := by
  cases e with
  | normal => exact keep_get _ _ _
  | ret => exact keep_get _ _ _
  | exit i =>
    simp only [keptAt]
    split
    · exact keep_get _ _ _
    · exact .inl rfl

theorem env_closed {n : Nat} : ∀ {env : Env}, env.all (fun p => p.2.closed n) = true → ∀ t, (env.get t).closed n = true
  | [], _, t => rfl
  | (a, v) :: env, h, t => by
    simp only [List.all_cons, Bool.and_eq_true] at h
    rw [env_get_cons]
    split
    · exact h.1
    · exact env_closed h.2 t

theorem wrap_ok {cut : Bool} {nrm ret : List Nat} {exs : List (Nat × List Nat)} {m : Nat} {e e' : AExit} {s2 : St} {g0 : G} (hmg : g0.loc.length = m) (h : wrapEnd cut nrm ret exs m e s = some (e', s2)) (hb : Behind N g0 w Pr s a' w') : e' = e ∧ Behind N g0 w Pr s2 a' w' := by
  obtain ⟨g1, x1, x2, x3⟩ := hb
  unfold wrapEnd at h
  have henv : ∀ t, RepV g1 w' Pr (.tmp t) ((keptAt nrm ret exs e s.env).get t) (a'.tmps.getD t undef) := by
    intro t
    rcases env_kept nrm ret exs e s.env t with h1 | h1
    · rw [h1]; exact x3.env t
    · rw [h1]; trivial
  cases cut with
  | false =>
    simp only [cond_false, Option.some.injEq, Prod.mk.injEq] at h
    obtain ⟨rfl, rfl⟩ := h
    exact ⟨rfl, g1, x1, x2, ⟨x3.inv, henv, x3.size, x3.defers⟩⟩
  | true =>
    simp only [cond_true] at h
    split at h
    case isFalse => cases h
    rename_i hc
    simp only [Option.some.injEq, Prod.mk.injEq] at h
    obtain ⟨rfl, rfl⟩ := h
    simp only [Bool.and_eq_true] at hc
    have hle := Nat.le_of_ble_eq_true hc.1
    have hlow : Low m s.σ := by
      refine ⟨hle, fun l o hl ho => ?_⟩
      refine List.all_eq_true.mp hc.2.2 o ?_
      refine List.mem_of_getElem? (i := l) ?_
      rw [List.getElem?_take, if_pos hl]; exact ho
    exact ⟨rfl, g1.cut m, x1.cut (by omega), fun b hb => x2 b hb, ⟨x3.inv.cut hlow, fun t => RepV.cut (henv t) (env_closed hc.2.1 t), x3.size, x3.defers⟩⟩

theorem ev_ok (hm : P.follows .mixedOrders = true) (hS : Sound P F) (hen : ∀ f args σ lo tr r, F f args σ lo tr = some r → entered P (fnOf f) = true) :
    ∀ (n : Nat) (x : ACode) (c : Code) (s : St) (e : AExit) (s' : St) (g : G) (a : Act) (w : World), chkCode P N c x = true → ev F bd n x s = some (e, s') → InvA N g w Pr s a → c.wp P (After N g w Pr e s') a w
  | 0, _, _, _, _, _, _, _, _, _, h, _ => by simp [ev] at h
  | n + 1, x, c, s, e, s', g, a, w, hc, h, hA => by
    have ih := ev_ok hm hS hen n
    cases x with
    | skip =>
      cases c <;> simp [chkCode] at hc
      simp only [ev, Option.some.injEq, Prod.mk.injEq] at h
      obtain ⟨rfl, rfl⟩ := h
      exact wp_skip ⟨rfl, Behind.refl hA⟩
    | region draw' is keep =>
      cases c <;> simp only [chkCode, Bool.false_eq_true] at hc
      rename_i id ops draw
      simp only [Bool.and_eq_true, beq_iff_eq, Bool.or_eq_true, Bool.not_eq_true'] at hc
      obtain ⟨⟨rfl, h1⟩, h2⟩ := hc
      simp only [ev] at h
      split at h
      case h_2 => cases h
      rename_i s1 hs1
      simp only [Option.some.injEq, Prod.mk.injEq] at h
      obtain ⟨rfl, rfl⟩ := h
      cases draw with
      | false => exact region_ok hS hen h1 hs1 hA
      | true => exact region_draw_ok hm hS hen h1 (h2.resolve_left (by simp)) hs1 hA
    | seq x y =>
      cases c <;> simp only [chkCode, Bool.false_eq_true] at hc
      rename_i p q
      simp only [Bool.and_eq_true] at hc
      simp only [ev] at h
      refine wp_seq ?_
      cases hx : ev F bd n x s with
      | none => rw [hx] at h; cases h
      | some r =>
        obtain ⟨e1, s1⟩ := r
        rw [hx] at h
        refine wp_mono (ih x p s e1 s1 g a w hc.1 hx hA) ?_
        rintro e' a' w' ⟨rfl, g1, x1, x2, x3⟩
        cases e1 with
        | normal =>
          simp only [AExit.out, Exit.then]
          exact wp_mono (ih y q s1 e s' g1 a' w' hc.2 h x3) fun e2 a2 w2 h2 => after_trans x1 x2 h2
        | exit i =>
          cases h
          exact ⟨rfl, g1, x1, x2, x3⟩
        | ret =>
          cases h
          exact ⟨rfl, g1, x1, x2, x3⟩
    | cond b y z =>
      cases c <;> simp only [chkCode, Bool.false_eq_true] at hc
      rename_i o p q
      simp only [Bool.and_eq_true] at hc
      simp only [ev] at h
      split at h
      case h_2 => cases h
      rename_i t ht
      have h1 := opd_rd hA.env hc.1.1 (.tmp 0)
      rw [ht] at h1
      have h2 := rep_bool h1
      cases t with
      | true => exact wp_cond_true h2 (ih y p s e s' g a w hc.1.2 h hA)
      | false => exact wp_cond_false h2 (ih z q s e s' g a w hc.2 h hA)
    | block i y =>
      cases c <;> simp only [chkCode, Bool.false_eq_true] at hc
      rename_i j p
      simp only [Bool.and_eq_true, beq_iff_eq] at hc
      obtain ⟨rfl, hc⟩ := hc
      simp only [ev] at h
      refine wp_block ?_
      cases hx : ev F bd n y s with
      | none => rw [hx] at h; cases h
      | some r =>
        obtain ⟨e1, s1⟩ := r
        rw [hx] at h
        refine wp_mono (ih y p s e1 s1 g a w hc hx hA) ?_
        rintro e' a' w' ⟨rfl, hb⟩
        cases e1 with
        | normal => cases h; exact ⟨rfl, hb⟩
        | ret => cases h; exact ⟨rfl, hb⟩
        | exit i =>
          simp only at h
          split at h
          · rename_i hij
            cases h
            simp only [AExit.out, Exit.inBlock, hij, if_true]
            exact ⟨rfl, hb⟩
          · rename_i hij
            cases h
            simp only [AExit.out, Exit.inBlock, hij, if_false]
            exact ⟨rfl, hb⟩
    | loop y =>
      cases c <;> simp only [chkCode, Bool.false_eq_true] at hc
      rename_i p
      have key : ∀ (m : Nat), m ≤ n → ∀ (s : St) (e : AExit) (s' : St) (g : G) (a : Act) (w : World), ev F bd (m + 1) (.loop y) s = some (e, s') → InvA N g w Pr s a → p.rounds P (After N g w Pr e s') (m + 1) a w := by
        intro m
        induction m with
        | zero =>
          intro hle s e s' g a w h hA
          simp only [ev] at h
          cases h
        | succ m ihm =>
          intro hle s e s' g a w h hA
          simp only [ev] at h
          rw [rounds_succ]
          cases hx : ev F bd (m + 1) y s with
          | none => rw [hx] at h; cases h
          | some r =>
            obtain ⟨e1, s1⟩ := r
            rw [hx] at h
            have hy := ev_ok hm hS hen (m + 1) y p s e1 s1 g a w hc hx hA
            refine wp_mono hy ?_
            rintro e' a' w' ⟨rfl, g1, x1, x2, x3⟩
            cases e1 with
            | normal =>
              simp only [AExit.out, Exit.then]
              have hr := ihm (by omega) s1 e s' g1 a' w' h x3
              exact rounds_mono (fun e2 a2 w2 h2 => after_trans x1 x2 h2) _ _ _ hr
            | exit i => cases h; exact ⟨rfl, g1, x1, x2, x3⟩
            | ret => cases h; exact ⟨rfl, g1, x1, x2, x3⟩
      exact wp_loop_rounds (n + 1) (key n (Nat.le_refl _) s e s' g a w h hA)
    | exit i =>
      cases c <;> simp [chkCode] at hc
      subst hc
      simp only [ev, Option.some.injEq, Prod.mk.injEq] at h
      obtain ⟨rfl, rfl⟩ := h
      exact wp_exit ⟨rfl, Behind.refl hA⟩
    | ret =>
      cases c <;> simp [chkCode] at hc
      simp only [ev, Option.some.injEq, Prod.mk.injEq] at h
      obtain ⟨rfl, rfl⟩ := h
      exact wp_ret ⟨rfl, Behind.refl hA⟩
    | wrap cut nrm ret exs y =>
      simp only [chkCode] at hc
      simp only [ev] at h
      cases hx : ev F bd n y s with
      | none => rw [hx] at h; cases h
      | some r =>
        obtain ⟨e1, s1⟩ := r
        rw [hx] at h
        refine wp_mono (ih y c s e1 s1 g a w hc hx hA) ?_
        rintro e' a' w' ⟨rfl, hb⟩
        obtain ⟨rfl, hb'⟩ := wrap_ok hA.inv.len h hb
        exact ⟨rfl, hb'⟩
  termination_by n => n

end
end Go.Proofs.Ytjkhkblabhaimaa.Am
