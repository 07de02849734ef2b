/- Instructions, regions, code: what the abstract machine does the model does. -/
import Derived.Test.YtjkhkblabhaimaaAmChk
namespace Go.Proofs.Ytjkhkblabhaimaa.Am
set_option linter.unusedSimpArgs false
set_option linter.unusedVariables false
open Go
set_option linter.unusedVariables false

def AExit.out : AExit → Exit
  | .normal => .normal
  | .exit i => .exit i
  | .ret => .ret

/-- All that is kept of a state. -/
structure InvA (N : Nat) (g : G) (w : World) (Pr : Nat → Prop) (s : St) (a : Act) : Prop where
  inv : Inv g w Pr s.σ
  env : EnvOk g w Pr s.env a
  size : a.tmps.size = N
  defers : a.defers = []

/-- A state behind another one. -/
def Behind (N : Nat) (g : G) (w : World) (Pr : Nat → Prop) (s' : St) (a' : Act) (w' : World) : Prop := ∃ g', Ext g w g' w' ∧ Fr Pr g w g' w' ∧ InvA N g' w' Pr s' a'

/-- Which instruction stands for which operation. -/
def chkIns (P : Program) (N : Nat) (ops : Array Oper) (o : Oper) (i : AIns) : Bool :=
  o.dst == i.dst && (match o.dst with | some d => decide (d < N) | none => true) && chkOp P o i.op &&
  (match o.guard, i.guard with
    | none, none => true
    | some (j, want), some (t, want') => want == want' && ((ops[j]?).bind (·.dst)) == some t && decide (t < N)
    | _, _ => false)

section
variable {P : Program} {N : Nat} {g g' : G} {w w' : World} {Pr : Nat → Prop} {s s' : St} {a a' : Act} {F : Oracle} {bd : Bd}

theorem Behind.refl (h : InvA N g w Pr s a) : Behind N g w Pr s a w := ⟨g, .refl _ _, .refl _ _ _, h⟩
theorem Behind.trans {g1 : G} {w1 : World} {s2 : St} {a2 : Act} {w2 : World} (h1 : Ext g w g1 w1) (h2 : Fr Pr g w g1 w1) (h : Behind N g1 w1 Pr s2 a2 w2) : Behind N g w Pr s2 a2 w2 := by
  obtain ⟨g2, e1, e2, e3⟩ := h
  exact ⟨g2, h1.trans e1, h2.trans e2, e3⟩

theorem put_size (a : Act) (d : Option Tmp) (v : Value) : (a.put d v).tmps.size = a.tmps.size := by cases d <;> simp [Act.put]
theorem put_defers (a : Act) (d : Option Tmp) (v : Value) : (a.put d v).defers = a.defers := by cases d <;> simp [Act.put]
theorem put_get (a : Act) (d : Nat) (v : Value) (h : d < a.tmps.size) (t : Nat) : (a.put (some d) v).tmps.getD t undef = if t = d then v else a.tmps.getD t undef := by
  simp only [Act.put, Array.getD_eq_getD_getElem?]
  by_cases e : t = d
  · subst e; simp [h]
  · rw [if_neg e, Array.getElem?_setIfInBounds_ne (fun x => e x.symm)]

theorem set_env {d : Option Tmp} {v : V} {u : Value} (hE : EnvOk g w Pr s.env a) (hd : ∀ x, d = some x → x < a.tmps.size ∧ RepV g w Pr (.tmp x) v u) : EnvOk g w Pr (s.set d v).env (a.put d u) := by
  cases d with
  | none => exact hE
  | some x =>
    obtain ⟨h1, h2⟩ := hd x rfl
    intro t
    simp only [St.set]
    rw [env_get_cons, put_get a x u h1]
    by_cases e : x = t
    · subst e; simp only [if_true]; exact h2
    · rw [if_neg e, if_neg (fun h => e h.symm)]; exact hE t

theorem post_behind {o : Oper} {v : V} (hA : InvA N g w Pr s a) (hd : ∀ d, o.dst = some d → d < N) (h : Post o a g w Pr s' v a' w') : Behind N g w Pr (s'.set o.dst v) a' w' := by
  obtain ⟨g', u, rfl, q, x1, x2, x3, x4, x5⟩ := h
  refine ⟨g', x1, x2, ⟨?_, ?_, ?_, ?_⟩⟩
  · cases hdst : o.dst <;> exact x3
  · exact set_env x4 (fun d hd' => ⟨by rw [hA.size]; exact hd d hd', x5 d hd'⟩)
  · rw [put_size]; exact hA.size
  · rw [put_defers]; exact hA.defers

theorem skip_behind {d : Option Tmp} (hA : InvA N g w Pr s a) (hd : ∀ x, d = some x → x < N) : InvA N g w Pr (s.set d (.c (.b .any))) (a.put d undef) := by
  refine ⟨?_, set_env hA.env (fun x hx => ⟨by rw [hA.size]; exact hd x hx, trivial⟩), by rw [put_size]; exact hA.size, by rw [put_defers]; exact hA.defers⟩
  cases d <;> exact hA.inv

/-- One instruction. -/
theorem ins_okP (hS : Sound P F) (hen : ∀ f args σ lo tr r, F f args σ lo tr = some r → entered P (fnOf f) = true) {ops : Array Oper} {o : Oper} {i : AIns} (hc : chkIns P N ops o i = true)
    (hv : stepIns F bd s i = some s') (hA : InvA N g w Pr s a) (Q : Exit → Act → World → Prop) :
    if Region.wanted o (yielded ops a.tmps) then o.wp P a w (fun a' w' => Behind N g w Pr s' a' w' ∧ ∃ u, a' = a.put o.dst u) Q else Behind N g w Pr s' (a.put o.dst undef) w := by
  simp only [chkIns, Bool.and_eq_true, beq_iff_eq] at hc
  obtain ⟨⟨⟨h1, h2⟩, h3⟩, h4⟩ := hc
  have hd : ∀ d, o.dst = some d → d < N := by
    intro d hd
    rw [hd] at h2
    exact of_decide_eq_true h2
  have hgo : ∀ {v : V} {s1 : St}, stepOp F bd s i.op = some (v, s1) → s' = s1.set i.dst v → o.wp P a w (fun a' w' => Behind N g w Pr s' a' w' ∧ ∃ u, a' = a.put o.dst u) Q := by
    intro v s1 hst he
    refine Oper.wp_mono ?_ (op_ok hS hen h3 hst hA.inv hA.env Q)
    intro a' w' hp
    refine ⟨?_, ?_⟩
    · rw [he, ← h1]
      exact post_behind hA hd hp
    · obtain ⟨_, u, e, _⟩ := hp; exact ⟨u, e⟩
  unfold stepIns at hv
  split at hv
  · rename_i hg
    rw [hg] at h4
    have hog : o.guard = none := by
      cases ho : o.guard with
      | none => rfl
      | some p => rw [ho] at h4; simp at h4
    simp only [Region.wanted, hog, if_true]
    split at hv
    · rename_i v s1 hst
      cases hv
      exact hgo hst rfl
    · cases hv
  · rename_i t want hg
    rw [hg] at h4
    cases ho : o.guard with
    | none => rw [ho] at h4; simp at h4
    | some p =>
      obtain ⟨j, want'⟩ := p
      rw [ho] at h4
      simp only [Bool.and_eq_true, beq_iff_eq, decide_eq_true_eq] at h4
      obtain ⟨⟨rfl, h5⟩, h6⟩ := h4
      split at hv
      case h_2 => cases hv
      rename_i b hb
      have he := hA.env t
      rw [hb] at he
      have hbool := rep_bool he
      have hy : yielded ops a.tmps j = some b := by
        have ht : t < a.tmps.size := by rw [hA.size]; exact h6
        simp only [yielded, h5, Option.bind_some]
        simp [Array.getD_eq_getD_getElem?, ht] at hbool
        simp [ht, hbool]
      simp only [Region.wanted, ho, hy]
      by_cases hw : b = want'
      · subst hw
        simp only [BEq.rfl, cond_true, if_true] at hv ⊢
        split at hv
        · rename_i v s1 hst
          cases hv
          exact hgo hst rfl
        · cases hv
      · have hne : (b == want') = false := by simpa using hw
        have hne2 : ((some b : Option Bool) == some want') = false := by simpa using hw
        simp only [hne, cond_false, hne2, Bool.false_eq_true, if_false] at hv ⊢
        cases hv
        rw [← h1]
        exact Behind.refl (skip_behind hA hd)

theorem ins_ok (hS : Sound P F) (hen : ∀ f args σ lo tr r, F f args σ lo tr = some r → entered P (fnOf f) = true) {ops : Array Oper} {o : Oper} {i : AIns} (hc : chkIns P N ops o i = true)
    (hv : stepIns F bd s i = some s') (hA : InvA N g w Pr s a) (Q : Exit → Act → World → Prop) :
    if Region.wanted o (yielded ops a.tmps) then o.wp P a w (Behind N g w Pr s') Q else Behind N g w Pr s' (a.put o.dst undef) w := by
  have := ins_okP hS hen hc hv hA Q
  split
  · rename_i h; rw [if_pos h] at this; exact Oper.wp_mono (fun _ _ h => h.1) this
  · rename_i h; rw [if_neg h] at this; exact this

def chkAll (P : Program) (N : Nat) (ops : Array Oper) : List Oper → List AIns → Bool
  | [], [] => true
  | o :: os, i :: is => chkIns P N ops o i && chkAll P N ops os is
  | _, _ => false

/-- A region in the text's order. -/
theorem all_ok (hS : Sound P F) (hen : ∀ f args σ lo tr r, F f args σ lo tr = some r → entered P (fnOf f) = true) {ops : Array Oper} {Q : Exit → Act → World → Prop} :
    ∀ (os : List Oper) (is : List AIns) (k : Nat) (s s' : St) (g : G) (a : Act) (w : World), chkAll P N ops os is = true → (∀ j, os[j]? = ops[k + j]?) → stepAll F bd s is = some s' → InvA N g w Pr s a →
      (∀ a' w', Behind N g w Pr s' a' w' → Q .normal a' w') → wpOps P ops Q (List.range' k os.length) a w
  | [], is, k, s, s', g, a, w, hc, hk, hv, hA, hQ => by
    cases is with
    | nil =>
      simp only [stepAll, Option.some.injEq] at hv
      subst hv
      exact hQ _ _ (Behind.refl hA)
    | cons i is => simp [chkAll] at hc
  | o :: os, is, k, s, s', g, a, w, hc, hk, hv, hA, hQ => by
    cases is with
    | nil => simp [chkAll] at hc
    | cons i is =>
      simp only [chkAll, Bool.and_eq_true] at hc
      simp only [stepAll] at hv
      split at hv
      case h_2 => cases hv
      rename_i s1 hs1
      have ho : ops[k]? = some o := by have := hk 0; simpa using this.symm
      have hins := ins_ok hS hen hc.1 hs1 hA Q
      have hrest : ∀ a1 w1, Behind N g w Pr s1 a1 w1 → wpOps P ops Q (List.range' (k + 1) os.length) a1 w1 := by
        intro a1 w1 ⟨g1, e1, e2, e3⟩
        refine all_ok hS hen os is (k + 1) s1 s' g1 a1 w1 hc.2 (fun j => ?_) hv e3 (fun a2 w2 h2 => hQ _ _ (Behind.trans e1 e2 h2))
        have := hk (j + 1)
        simpa [Nat.add_assoc, Nat.add_comm 1 j] using this
      rw [List.length_cons, List.range'_succ, wpOps_cons]
      simp only [wpOp, ho]
      split at hins
      · rename_i hw; simp only [hw, if_true]; exact .inl (Oper.wp_mono hrest hins)
      · rename_i hw; simp only [hw]; exact hrest _ _ hins

theorem keep_get : ∀ (ts : List Nat) (e : Env) (n : Nat), (e.keep ts).get n = e.get n ∨ (e.keep ts).get n = .c (.b .any)
  | [], e, n => .inr rfl
  | t :: ts, e, n => by
    simp only [Env.keep]
    rw [env_get_cons]
    split
    · subst_vars; exact .inl rfl
    · exact keep_get ts e n

theorem keep_ok {ts : List Nat} (hA : InvA N g w Pr s a) : InvA N g w Pr { s with env := s.env.keep ts } a := by
  refine ⟨hA.inv, fun t => ?_, hA.size, hA.defers⟩
  rcases keep_get ts s.env t with h | h
  · rw [h]; exact hA.env t
  · rw [h]; trivial

theorem range_eq (n : Nat) : List.range n = List.range' 0 n := List.range_eq_range'

theorem region_ok (hS : Sound P F) (hen : ∀ f args σ lo tr r, F f args σ lo tr = some r → entered P (fnOf f) = true) {id : Nat} {ops : Array Oper} {is : List AIns} {keep : List Nat}
    (hc : chkAll P N ops ops.toList is = true) (hv : stepAll F bd s is = some s') (hA : InvA N g w Pr s a) :
    (Code.region id ops false).wp P (fun e a' w' => e = .normal ∧ Behind N g w Pr { s' with env := s'.env.keep keep } a' w') a w := by
  refine wp_region ?_
  rw [range_eq]
  have := all_ok (Q := fun e a' w' => e = .normal ∧ Behind N g w Pr { s' with env := s'.env.keep keep } a' w') hS hen ops.toList is 0 s s' g a w hc (fun j => by simp) hv hA
    (fun a' w' ⟨g', e1, e2, e3⟩ => ⟨rfl, g', e1, e2, keep_ok e3⟩)
  simpa using this
end
end Go.Proofs.Ytjkhkblabhaimaa.Am
