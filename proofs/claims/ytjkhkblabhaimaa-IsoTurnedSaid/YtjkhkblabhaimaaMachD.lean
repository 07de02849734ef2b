/- The abstract machine, part D. What each part holds stands ahead of it. -/
import Derived.Test.YtjkhkblabhaimaaMachC
/- Instructions, regions, code: what the abstract machine does the model does. -/
namespace Go.Proofs.Ytjkhkblabhaimaa.Am
set_option linter.unusedSimpArgs false
set_option linter.unusedVariables false
open Go
set_option linter.unusedVariables false

def AExit.out : AExit → Exit
  | .normal => .normal
  | .exit i => .exit i
  | .ret => .ret

/-- All that is kept of a state. -/
structure InvA (N : Nat) (g : G) (w : World) (Pr : Nat → Prop) (s : St) (a : Act) : Prop where
  inv : Inv g w Pr s.σ
  env : EnvOk g w Pr s.env a
  size : a.tmps.size = N
  defers : a.defers = []

/-- A state behind another one. -/
def Behind (N : Nat) (g : G) (w : World) (Pr : Nat → Prop) (s' : St) (a' : Act) (w' : World) : Prop := ∃ g', Ext g w g' w' ∧ Fr Pr g w g' w' ∧ InvA N g' w' Pr s' a'

/-- Which instruction stands for which operation. -/
def chkIns (P : Program) (N : Nat) (ops : Array Oper) (o : Oper) (i : AIns) : Bool :=
  o.dst == i.dst && (match o.dst with | some d => decide (d < N) | none => true) && chkOp P o i.op &&
  (match o.guard, i.guard with
    | none, none => true
    | some (j, want), some (t, want') => want == want' && ((ops[j]?).bind (·.dst)) == some t && decide (t < N)
    | _, _ => false)

section
variable {P : Program} {N : Nat} {g g' : G} {w w' : World} {Pr : Nat → Prop} {s s' : St} {a a' : Act} {F : Oracle} {bd : Bd}

theorem Behind.refl (h : InvA N g w Pr s a) : Behind N g w Pr s a w := ⟨g, .refl _ _, .refl _ _ _, h⟩
theorem Behind.trans {g1 : G} {w1 : World} {s2 : St} {a2 : Act} {w2 : World} (h1 : Ext g w g1 w1) (h2 : Fr Pr g w g1 w1) (h : Behind N g1 w1 Pr s2 a2 w2) : Behind N g w Pr s2 a2 w2 := by
  obtain ⟨g2, e1, e2, e3⟩ := h
  exact ⟨g2, h1.trans e1, h2.trans e2, e3⟩

theorem put_size (a : Act) (d : Option Tmp) (v : Value) : (a.put d v).tmps.size = a.tmps.size := by cases d <;> simp [Act.put]
theorem put_defers (a : Act) (d : Option Tmp) (v : Value) : (a.put d v).defers = a.defers := by cases d <;> simp [Act.put]
theorem put_get (a : Act) (d : Nat) (v : Value) (h : d < a.tmps.size) (t : Nat) : (a.put (some d) v).tmps.getD t undef = if t = d then v else a.tmps.getD t undef := by
  simp only [Act.put, Array.getD_eq_getD_getElem?]
  by_cases e : t = d
  · subst e; simp [h]
  · rw [if_neg e, Array.getElem?_setIfInBounds_ne (fun x => e x.symm)]

theorem set_env {d : Option Tmp} {v : V} {u : Value} (hE : EnvOk g w Pr s.env a) (hd : ∀ x, d = some x → x < a.tmps.size ∧ RepV g w Pr (.tmp x) v u) : EnvOk g w Pr (s.set d v).env (a.put d u) := by
  cases d with
  | none => exact hE
  | some x =>
    obtain ⟨h1, h2⟩ := hd x rfl
    intro t
    simp only [St.set]
    rw [env_get_cons, put_get a x u h1]
    by_cases e : x = t
    · subst e; simp only [if_true]; exact h2
    · rw [if_neg e, if_neg (fun h => e h.symm)]; exact hE t

theorem post_behind {o : Oper} {v : V} (hA : InvA N g w Pr s a) (hd : ∀ d, o.dst = some d → d < N) (h : Post o a g w Pr s' v a' w') : Behind N g w Pr (s'.set o.dst v) a' w' := by
  obtain ⟨g', u, rfl, q, x1, x2, x3, x4, x5⟩ := h
  refine ⟨g', x1, x2, ⟨?_, ?_, ?_, ?_⟩⟩
  · cases hdst : o.dst <;> exact x3
  · exact set_env x4 (fun d hd' => ⟨by rw [hA.size]; exact hd d hd', x5 d hd'⟩)
  · rw [put_size]; exact hA.size
  · rw [put_defers]; exact hA.defers

theorem skip_behind {d : Option Tmp} (hA : InvA N g w Pr s a) (hd : ∀ x, d = some x → x < N) : InvA N g w Pr (s.set d (.tup [])) (a.put d undef) := by
  refine ⟨?_, set_env hA.env (fun x hx => ⟨by rw [hA.size]; exact hd x hx, ⟨#[], rfl, by simp⟩⟩), by rw [put_size]; exact hA.size, by rw [put_defers]; exact hA.defers⟩
  cases d <;> exact hA.inv

/-- One instruction. -/
theorem ins_okP (hS : Sound P F) (hen : ∀ f args σ lo tr r, F f args σ lo tr = some r → entered P (fnOf f) = true) {ops : Array Oper} {o : Oper} {i : AIns} (hc : chkIns P N ops o i = true)
    (hv : stepIns F bd s i = some s') (hA : InvA N g w Pr s a) (Q : Exit → Act → World → Prop) :
    if Region.wanted o (yielded ops a.tmps) then o.wp P a w (fun a' w' => Behind N g w Pr s' a' w' ∧ ∃ u, a' = a.put o.dst u) Q else Behind N g w Pr s' (a.put o.dst undef) w := by
  simp only [chkIns, Bool.and_eq_true, beq_iff_eq] at hc
  obtain ⟨⟨⟨h1, h2⟩, h3⟩, h4⟩ := hc
  have hd : ∀ d, o.dst = some d → d < N := by
    intro d hd
    rw [hd] at h2
    exact of_decide_eq_true h2
  have hgo : ∀ {v : V} {s1 : St}, stepOp F bd s i.op = some (v, s1) → s' = s1.set i.dst v → o.wp P a w (fun a' w' => Behind N g w Pr s' a' w' ∧ ∃ u, a' = a.put o.dst u) Q := by
    intro v s1 hst he
    refine Oper.wp_mono ?_ (op_ok hS hen h3 hst hA.inv hA.env Q)
    intro a' w' hp
    refine ⟨?_, ?_⟩
    · rw [he, ← h1]
      exact post_behind hA hd hp
    · obtain ⟨_, u, e, _⟩ := hp; exact ⟨u, e⟩
  unfold stepIns at hv
  split at hv
  · rename_i hg
    rw [hg] at h4
    have hog : o.guard = none := by
      cases ho : o.guard with
      | none => rfl
      | some p => rw [ho] at h4; simp at h4
    simp only [Region.wanted, hog, if_true]
    split at hv
    · rename_i v s1 hst
      cases hv
      exact hgo hst rfl
    · cases hv
  · rename_i t want hg
    rw [hg] at h4
    cases ho : o.guard with
    | none => rw [ho] at h4; simp at h4
    | some p =>
      obtain ⟨j, want'⟩ := p
      rw [ho] at h4
      simp only [Bool.and_eq_true, beq_iff_eq, decide_eq_true_eq] at h4
      obtain ⟨⟨rfl, h5⟩, h6⟩ := h4
      split at hv
      case h_3 => cases hv
      case h_2 =>
        rename_i vs hb
        cases hv
        have he := hA.env t
        rw [hb] at he
        obtain ⟨arr, he, _⟩ := he
        have ht : t < a.tmps.size := by rw [hA.size]; exact h6
        have hy : yielded ops a.tmps j = none := by
          simp only [yielded, h5, Option.bind_some]
          simp [Array.getD_eq_getD_getElem?, ht] at he
          simp [ht, he]
        have hne2 : ∀ b : Bool, ((none : Option Bool) == some b) = false := fun _ => rfl
        simp only [Region.wanted, ho, hy, hne2, Bool.false_eq_true, if_false]
        rw [← h1]
        exact Behind.refl (skip_behind hA hd)
      rename_i b hb
      have he := hA.env t
      rw [hb] at he
      have hbool := rep_bool he
      have hy : yielded ops a.tmps j = some b := by
        have ht : t < a.tmps.size := by rw [hA.size]; exact h6
        simp only [yielded, h5, Option.bind_some]
        simp [Array.getD_eq_getD_getElem?, ht] at hbool
        simp [ht, hbool]
      simp only [Region.wanted, ho, hy]
      by_cases hw : b = want'
      · subst hw
        simp only [BEq.rfl, cond_true, if_true] at hv ⊢
        split at hv
        · rename_i v s1 hst
          cases hv
          exact hgo hst rfl
        · cases hv
      · have hne : (b == want') = false := by simpa using hw
        have hne2 : ((some b : Option Bool) == some want') = false := by simpa using hw
        simp only [hne, cond_false, hne2, Bool.false_eq_true, if_false] at hv ⊢
        cases hv
        rw [← h1]
        exact Behind.refl (skip_behind hA hd)

theorem ins_ok (hS : Sound P F) (hen : ∀ f args σ lo tr r, F f args σ lo tr = some r → entered P (fnOf f) = true) {ops : Array Oper} {o : Oper} {i : AIns} (hc : chkIns P N ops o i = true)
    (hv : stepIns F bd s i = some s') (hA : InvA N g w Pr s a) (Q : Exit → Act → World → Prop) :
    if Region.wanted o (yielded ops a.tmps) then o.wp P a w (Behind N g w Pr s') Q else Behind N g w Pr s' (a.put o.dst undef) w := by
  have := ins_okP hS hen hc hv hA Q
  split
  · rename_i h; rw [if_pos h] at this; exact Oper.wp_mono (fun _ _ h => h.1) this
  · rename_i h; rw [if_neg h] at this; exact this

def chkAll (P : Program) (N : Nat) (ops : Array Oper) : List Oper → List AIns → Bool
  | [], [] => true
  | o :: os, i :: is => chkIns P N ops o i && chkAll P N ops os is
  | _, _ => false

/-- A region in the text's order. -/
theorem all_ok (hS : Sound P F) (hen : ∀ f args σ lo tr r, F f args σ lo tr = some r → entered P (fnOf f) = true) {ops : Array Oper} {Q : Exit → Act → World → Prop} :
    ∀ (os : List Oper) (is : List AIns) (k : Nat) (s s' : St) (g : G) (a : Act) (w : World), chkAll P N ops os is = true → (∀ j, os[j]? = ops[k + j]?) → stepAll F bd s is = some s' → InvA N g w Pr s a →
      (∀ a' w', Behind N g w Pr s' a' w' → Q .normal a' w') → wpOps P ops Q (List.range' k os.length) a w
  | [], is, k, s, s', g, a, w, hc, hk, hv, hA, hQ => by
    cases is with
    | nil =>
      simp only [stepAll, Option.some.injEq] at hv
      subst hv
      exact hQ _ _ (Behind.refl hA)
    | cons i is => simp [chkAll] at hc
  | o :: os, is, k, s, s', g, a, w, hc, hk, hv, hA, hQ => by
    cases is with
    | nil => simp [chkAll] at hc
    | cons i is =>
      simp only [chkAll, Bool.and_eq_true] at hc
      simp only [stepAll] at hv
      split at hv
      case h_2 => cases hv
      rename_i s1 hs1
      have ho : ops[k]? = some o := by have := hk 0; simpa using this.symm
      have hins := ins_ok hS hen hc.1 hs1 hA Q
      have hrest : ∀ a1 w1, Behind N g w Pr s1 a1 w1 → wpOps P ops Q (List.range' (k + 1) os.length) a1 w1 := by
        intro a1 w1 ⟨g1, e1, e2, e3⟩
        refine all_ok hS hen os is (k + 1) s1 s' g1 a1 w1 hc.2 (fun j => ?_) hv e3 (fun a2 w2 h2 => hQ _ _ (Behind.trans e1 e2 h2))
        have := hk (j + 1)
        simpa [Nat.add_assoc, Nat.add_comm 1 j] using this
      rw [List.length_cons, List.range'_succ, wpOps_cons]
      simp only [wpOp, ho]
      split at hins
      · rename_i hw; simp only [hw, if_true]; exact .inl (Oper.wp_mono hrest hins)
      · rename_i hw; simp only [hw]; exact hrest _ _ hins

theorem keep_get : ∀ (ts : List Nat) (e : Env) (n : Nat), (e.keep ts).get n = e.get n ∨ (e.keep ts).get n = .c (.b .any)
  | [], e, n => .inr rfl
  | t :: ts, e, n => by
    simp only [Env.keep]
    rw [env_get_cons]
    split
    · subst_vars; exact .inl rfl
    · exact keep_get ts e n

theorem keep_ok {ts : List Nat} (hA : InvA N g w Pr s a) : InvA N g w Pr { s with env := s.env.keep ts } a := by
  refine ⟨hA.inv, fun t => ?_, hA.size, hA.defers⟩
  rcases keep_get ts s.env t with h | h
  · rw [h]; exact hA.env t
  · rw [h]; trivial

theorem range_eq (n : Nat) : List.range n = List.range' 0 n := List.range_eq_range'

theorem region_ok (hS : Sound P F) (hen : ∀ f args σ lo tr r, F f args σ lo tr = some r → entered P (fnOf f) = true) {id : Nat} {ops : Array Oper} {is : List AIns} {keep : List Nat}
    (hc : chkAll P N ops ops.toList is = true) (hv : stepAll F bd s is = some s') (hA : InvA N g w Pr s a) :
    (Code.region id ops false).wp P (fun e a' w' => e = .normal ∧ Behind N g w Pr { s' with env := s'.env.keep keep } a' w') a w := by
  refine wp_region ?_
  rw [range_eq]
  have := all_ok (Q := fun e a' w' => e = .normal ∧ Behind N g w Pr { s' with env := s'.env.keep keep } a' w') hS hen ops.toList is 0 s s' g a w hc (fun j => by simp) hv hA
    (fun a' w' ⟨g', e1, e2, e3⟩ => ⟨rfl, g', e1, e2, keep_ok e3⟩)
  simpa using this
end
end Go.Proofs.Ytjkhkblabhaimaa.Am

/- Instructions whose order does not count: what they read, what they write. -/
namespace Go.Proofs.Ytjkhkblabhaimaa.Am
open Go
set_option linter.unusedVariables false
set_option linter.unusedSimpArgs false

def Opd.tmps : Opd → List Nat
  | .t n => [n]
  | .k _ => []

def oTmps : Option Opd → List Nat
  | none => []
  | some x => x.tmps

/-- What it reads. -/
def AOp.reads : AOp → List Nat
  | .mov _ x => x.tmps
  | .pick c a b => c.tmps ++ a.tmps ++ b.tmps
  | .build _ ps => ps.flatMap fun p => p.2.2.tmps
  | .bsl _ _ _ _ ps => ps.flatMap fun p => p.2.tmps
  | .ld _ _ x => x.tmps
  | .bin _ x y => x.tmps ++ y.tmps
  | .eq _ _ _ x y => x.tmps ++ y.tmps
  | .un _ x => x.tmps
  | .conv _ x => x.tmps
  | .fa _ x => x.tmps
  | .fld _ _ x => x.tmps
  | .ia _ x i => x.tmps ++ i.tmps
  | .ixs x i => x.tmps ++ i.tmps
  | .slc _ _ x lo hi => x.tmps ++ oTmps lo ++ oTmps hi
  | .slcs x lo hi => x.tmps ++ oTmps lo ++ oTmps hi
  | .mks _ _ _ _ l c => l.tmps ++ c.tmps
  | .len _ x => x.tmps
  | .nilc x => x.tmps
  | .ga _ _ x => x.tmps
  | .callp _ xs => xs.flatMap Opd.tmps
  | .callb _ xs => xs.flatMap Opd.tmps
  | _ => []

/-- From where it takes the right to grow. -/
def AOp.takes : AOp → List Nat
  | .mov .own x => x.tmps
  | _ => []

def notPtr : Opd → Bool
  | .k (.c (.b (.ptr _ _))) => false
  | _ => true

/-- May it stand in a head? -/
def headOp : AOp → Bool
  | .mov .cp _ | .mov .own _ | .pick .. | .build .. | .bsl .own .. | .bin .. | .eq .. | .un .. | .conv .. | .fa .. | .fld .. | .ia .. | .ixs .. | .slc .cp .. | .slcs .. | .mks .own .. | .len 0 _ | .len 1 _ | .callb .. | .nilc _ | .ga .. => true
  | .ld .cp _ x => notPtr x
  | _ => false

/-- A call that leaves all that stands: it may make objects. -/
def headCall : AOp → Bool
  | .callp .. | .bsl .arr .. => true
  | _ => false

theorem head_or {op : AOp} (h : headOp op = true) : headCall op = false := by
  cases op <;> first | rfl | (simp [headOp] at h) | skip
  rename_i m _ _ _ _
  cases m <;> simp_all [headOp, headCall]

def AIns.writes (i : AIns) : List Nat := i.op.takes ++ i.dst.toList
def AIns.gtmp (i : AIns) : List Nat := match i.guard with | some (t, _) => [t] | none => []
def AIns.touch (i : AIns) : List Nat := i.op.reads ++ i.gtmp ++ i.dst.toList

section
variable {F : Oracle} {bd : Bd} {s s1 s2 s' : St}

theorem took_st (s : St) (x : Opd) : (s.took x).σ = s.σ := by cases x <;> rfl
theorem set_st (s : St) (d : Option Nat) (v : V) : (s.set d v).σ = s.σ := by cases d <;> rfl

theorem raw_same {x : Opd} (h : ∀ t ∈ x.tmps, s2.env.get t = s.env.get t) : s2.raw x = s.raw x := by
  cases x with
  | t n => exact h n (by simp [Opd.tmps])
  | k v => rfl

theorem rd_same {x : Opd} (h : ∀ t ∈ x.tmps, s2.env.get t = s.env.get t) : s2.rd x = s.rd x := by rw [St.rd, raw_same h, St.rd]

theorem opt_same {x : Option Opd} {d : Int} (h : ∀ t ∈ oTmps x, s2.env.get t = s.env.get t) : optInt s2 x d = optInt s x d := by
  cases x with
  | none => rfl
  | some x => simp only [optInt, rd_same (x := x) h]

theorem parts_same : ∀ {ps : List (Nat × Nat × Opd)} {zs : List C}, (∀ t ∈ ps.flatMap (fun p => p.2.2.tmps), s2.env.get t = s.env.get t) → partsIn s2 ps zs = partsIn s ps zs
  | [], zs, h => rfl
  | (off, n, x) :: ps, zs, h => by
    simp only [partsIn]
    rw [rd_same (x := x) (fun t ht => h t (by simp [ht]))]
    have := fun zs => parts_same (ps := ps) (zs := zs) (fun t ht => h t (by simp only [List.flatMap_cons, List.mem_append]; exact .inr ht))
    simp only [this]

theorem args_same {xs : List Opd} (h : ∀ t ∈ xs.flatMap Opd.tmps, s2.env.get t = s.env.get t) : xs.map s2.rd = xs.map s.rd :=
  List.map_congr_left fun x hx => rd_same fun t ht => h t (List.mem_flatMap.2 ⟨x, hx, ht⟩)

theorem map_pair {α β : Type} {o : Option (α × β)} {a : α} {b : β} (h : o = some (a, b)) {γ : Type} (c : γ) : o.map (fun p => (p.1, c)) = some (a, c) := by rw [h]; rfl

/-- An operation of a head, in two states that agree on what it reads. -/
theorem step_same {op : AOp} {v : V} (hh : headOp op = true) (hσ : ∀ t l o ob, t ∈ op.reads → (s2.env.get t).down = .c (.b (.ptr l o)) → s.σ[l]? = some ob → s2.σ[l]? = some ob) (he : ∀ t ∈ op.reads, s2.env.get t = s.env.get t) (h : stepOp F bd s op = some (v, s1)) :
    s1.σ = s.σ ∧ (∀ t, t ∉ op.takes → s1.env.get t = s.env.get t) ∧ ∃ s3, stepOp F bd s2 op = some (v, s3) ∧ s3.σ = s2.σ ∧ (∀ t ∈ op.takes, s3.env.get t = s1.env.get t) ∧ (∀ t, t ∉ op.takes → s3.env.get t = s2.env.get t) := by
  have plain : ∀ {o : Option (V × St)}, op.takes = [] → stepOp F bd s op = o → stepOp F bd s2 op = o.map (fun p => (p.1, s2)) → (∀ p, o = some p → p.2 = s) →
      s1.σ = s.σ ∧ (∀ t, t ∉ op.takes → s1.env.get t = s.env.get t) ∧ ∃ s3, stepOp F bd s2 op = some (v, s3) ∧ s3.σ = s2.σ ∧ (∀ t ∈ op.takes, s3.env.get t = s1.env.get t) ∧ (∀ t, t ∉ op.takes → s3.env.get t = s2.env.get t) := by
    intro o ht h1 h2 h3
    have h4 : o = some (v, s1) := h1.symm.trans h
    have h5 : s1 = s := h3 _ h4
    subst h5
    refine ⟨rfl, fun _ _ => rfl, s2, by rw [h2, h4]; rfl, rfl, ?_, fun _ _ => rfl⟩
    rw [ht]; simp
  have one : ∀ {x : Opd}, (∀ t ∈ x.tmps, t ∈ op.reads) → s2.rd x = s.rd x := fun hx => rd_same fun t ht => he t (hx t ht)
  cases op with
  | mov m x =>
    cases m with
    | cp =>
      refine plain rfl rfl ?_ ?_
      · simp only [stepOp, one (x := x) (fun t ht => by simpa [AOp.reads] using ht), Option.map]
      · intro p hp; simp only [stepOp, Option.some.injEq] at hp; rw [← hp]
    | own =>
      simp only [stepOp, Option.some.injEq, Prod.mk.injEq] at h
      obtain ⟨rfl, rfl⟩ := h
      have hraw : s2.raw x = s.raw x := raw_same he
      refine ⟨took_st s x, ?_, s2.took x, by simp only [stepOp, hraw], took_st s2 x, ?_, ?_⟩
      · intro t ht
        cases x with
        | t n => simp only [AOp.takes, Opd.tmps, List.mem_singleton] at ht; simp only [St.took]; rw [env_get_cons, if_neg (fun e => ht e.symm)]
        | k v => rfl
      · intro t ht
        cases x with
        | t n =>
          simp only [AOp.takes, Opd.tmps, List.mem_singleton] at ht
          subst ht
          simp only [St.took]
          rw [env_get_cons, env_get_cons, he t (by simp [AOp.reads, Opd.tmps])]
        | k v => simp [AOp.takes, Opd.tmps] at ht
      · intro t ht
        cases x with
        | t n => simp only [AOp.takes, Opd.tmps, List.mem_singleton] at ht; simp only [St.took]; rw [env_get_cons, if_neg (fun e => ht e.symm)]
        | k v => rfl
    | _ => simp [headOp] at hh
  | pick c a b =>
    refine plain rfl rfl ?_ ?_
    · simp only [stepOp, one (x := c) (fun t ht => by simp [AOp.reads, ht]), one (x := a) (fun t ht => by simp [AOp.reads, ht]), one (x := b) (fun t ht => by simp [AOp.reads, ht])]
      split <;> rfl
    · intro p hp; simp only [stepOp] at hp; split at hp <;> cases hp; rfl
  | build zs ps =>
    refine plain rfl rfl ?_ ?_
    · simp only [stepOp, parts_same (s := s) (s2 := s2) (ps := ps) (zs := zs) he]
      split <;> rfl
    · intro p hp; simp only [stepOp] at hp; split at hp <;> cases hp; rfl
  | bsl m k n zs ps =>
    cases m with
    | own =>
      have : ∀ t ∈ (ps.map fun p => (p.1 * k, k, p.2)).flatMap (fun p => p.2.2.tmps), s2.env.get t = s.env.get t := by
        intro t ht
        refine he t ?_
        simpa [AOp.reads, List.flatMap_map] using ht
      refine plain rfl rfl ?_ ?_
      · simp only [stepOp, parts_same (s := s) (s2 := s2) this]
        split
        · split <;> rfl
        · rfl
      · intro p hp; simp only [stepOp] at hp; split at hp
        · split at hp <;> cases hp; rfl
        · cases hp
    | _ => simp [headOp] at hh
  | ld m n x =>
    cases m with
    | cp =>
      have hx : s2.rd x = s.rd x := one (x := x) (fun t ht => by simpa [AOp.reads] using ht)
      have hg : ∀ l o, s.rd x = .c (.b (.ptr l o)) → getCells s2.σ l = getCells s.σ l := by
        intro l o hl
        cases hgc : getCells s.σ l with
        | none => simp only [stepOp, hl, hgc] at h; cases h
        | some cs =>
          have hsome : s.σ[l]? = some (.cells cs) := by
            unfold getCells at hgc
            split at hgc
            · rename_i h'; cases hgc; exact h'
            · cases hgc
          cases x with
          | t n => simp only [getCells, hσ n l o _ (by simp [AOp.reads, Opd.tmps]) (by rw [← hl, ← hx]; rfl) hsome]
          | k u =>
            simp only [headOp] at hh
            cases u with
            | c c => cases c with
              | b b => cases b with
                | ptr => simp [notPtr] at hh
                | _ => simp [St.rd, St.raw, V.down, C.down] at hl
              | _ => simp [St.rd, St.raw, V.down, C.down] at hl
            | _ => simp [St.rd, St.raw, V.down] at hl
      refine plain rfl rfl ?_ ?_
      · simp only [stepOp, hx]
        split
        · rename_i l off hl
          simp only [hg l off hl]
          repeat' split
          all_goals first | rfl | simp_all
        all_goals
          repeat' split
          all_goals first | rfl | simp_all
      · intro p hp; simp only [stepOp] at hp
        repeat' split at hp
        all_goals cases hp
        all_goals rfl
    | _ => simp [headOp] at hh
  | bin op x y =>
    refine plain rfl rfl ?_ ?_
    · simp only [stepOp, one (x := x) (fun t ht => by simp [AOp.reads, ht]), one (x := y) (fun t ht => by simp [AOp.reads, ht])]
      split <;> rfl
    · intro p hp; simp only [stepOp] at hp; split at hp <;> cases hp; rfl
  | eq neg kd ks x y =>
    refine plain rfl rfl ?_ ?_
    · simp only [stepOp, one (x := x) (fun t ht => by simp [AOp.reads, ht]), one (x := y) (fun t ht => by simp [AOp.reads, ht])]
      split <;> rfl
    · intro p hp; simp only [stepOp] at hp; split at hp <;> cases hp; rfl
  | un op x =>
    refine plain rfl rfl ?_ ?_
    · simp only [stepOp, one (x := x) (fun t ht => by simp [AOp.reads, ht])]
      split <;> rfl
    · intro p hp; simp only [stepOp] at hp; split at hp <;> cases hp; rfl
  | conv k x =>
    refine plain rfl rfl ?_ ?_
    · simp only [stepOp, one (x := x) (fun t ht => by simp [AOp.reads, ht])]
      split <;> rfl
    · intro p hp; simp only [stepOp] at hp; split at hp <;> cases hp; rfl
  | fa off x =>
    refine plain rfl rfl ?_ ?_
    · simp only [stepOp, one (x := x) (fun t ht => by simp [AOp.reads, ht])]
      split <;> rfl
    · intro p hp; simp only [stepOp] at hp; split at hp <;> cases hp <;> rfl
  | nilc x =>
    refine plain rfl rfl ?_ ?_
    · simp only [stepOp, one (x := x) (fun t ht => by simpa [AOp.reads] using ht)]
      split <;> rfl
    · intro p hp; simp only [stepOp] at hp; split at hp <;> cases hp <;> rfl
  | ga g k x =>
    refine plain rfl rfl ?_ ?_
    · simp only [stepOp, one (x := x) (fun t ht => by simpa [AOp.reads] using ht)]
      repeat' split
      all_goals first | rfl | simp_all
    · intro p hp; simp only [stepOp] at hp
      repeat' split at hp
      all_goals cases hp
      all_goals rfl
  | fld off n x =>
    refine plain rfl rfl ?_ ?_
    · simp only [stepOp, one (x := x) (fun t ht => by simp [AOp.reads, ht])]
      repeat' split
      all_goals first | rfl | simp_all
    · intro p hp; simp only [stepOp] at hp
      repeat' split at hp
      all_goals cases hp
      all_goals rfl
  | ia k x i =>
    refine plain rfl rfl ?_ ?_
    · simp only [stepOp, one (x := x) (fun t ht => by simp [AOp.reads, ht]), one (x := i) (fun t ht => by simp [AOp.reads, ht])]
      repeat' split
      all_goals first | rfl | simp_all
    · intro p hp; simp only [stepOp] at hp
      repeat' split at hp
      all_goals cases hp
      all_goals rfl
  | ixs x i =>
    refine plain rfl rfl ?_ ?_
    · simp only [stepOp, one (x := x) (fun t ht => by simp [AOp.reads, ht]), one (x := i) (fun t ht => by simp [AOp.reads, ht])]
      repeat' split
      all_goals first | rfl | simp_all
    · intro p hp; simp only [stepOp] at hp
      repeat' split at hp
      all_goals cases hp
      all_goals rfl
  | slc m k x lo hi =>
    cases m with
    | cp =>
      have h1 : ∀ d, optInt s2 lo d = optInt s lo d := fun d => opt_same fun t ht => he t (by simp [AOp.reads, ht])
      have h2 : ∀ d, optInt s2 hi d = optInt s hi d := fun d => opt_same fun t ht => he t (by simp [AOp.reads, ht])
      refine plain rfl rfl ?_ ?_
      · simp only [stepOp, one (x := x) (fun t ht => by simp [AOp.reads, ht]), h1, h2]
        repeat' split
        all_goals first | rfl | simp_all
      · intro p hp; simp only [stepOp] at hp
        repeat' split at hp
        all_goals cases hp
        all_goals rfl
    | _ => simp [headOp] at hh
  | slcs x lo hi =>
    have h1 : ∀ d, optInt s2 lo d = optInt s lo d := fun d => opt_same fun t ht => he t (by simp [AOp.reads, ht])
    have h2 : ∀ d, optInt s2 hi d = optInt s hi d := fun d => opt_same fun t ht => he t (by simp [AOp.reads, ht])
    refine plain rfl rfl ?_ ?_
    · simp only [stepOp, one (x := x) (fun t ht => by simp [AOp.reads, ht]), h1, h2]
      repeat' split
      all_goals first | rfl | simp_all
    · intro p hp; simp only [stepOp] at hp
      repeat' split at hp
      all_goals cases hp
      all_goals rfl
  | mks m k b zs l c =>
    cases m with
    | own =>
      refine plain rfl rfl ?_ ?_
      · simp only [stepOp, one (x := l) (fun t ht => by simp [AOp.reads, ht]), one (x := c) (fun t ht => by simp [AOp.reads, ht])]
        repeat' split
        all_goals first | rfl | simp_all
      · intro p hp; simp only [stepOp] at hp
        repeat' split at hp
        all_goals cases hp
        all_goals rfl
    | _ => simp [headOp] at hh
  | len kd x =>
    have hkd : kd ≠ 2 := by rintro rfl; simp [headOp] at hh
    refine plain rfl rfl ?_ ?_
    · simp only [stepOp, one (x := x) (fun t ht => by simp [AOp.reads, ht])]
      repeat' split
      all_goals first | rfl | simp_all
    · intro p hp; simp only [stepOp] at hp
      repeat' split at hp
      all_goals cases hp
      all_goals rfl
  | callb f xs =>
    refine plain rfl rfl ?_ ?_
    · simp only [stepOp, args_same (s := s) (s2 := s2) he]
      repeat' split
      all_goals first | rfl | simp_all
    · intro p hp; simp only [stepOp] at hp
      repeat' split at hp
      all_goals cases hp
      all_goals rfl
  | _ => simp [headOp] at hh

/-- An instruction of a head, in two states that agree on what it touches. -/
theorem ins_same {i : AIns} (hh : headOp i.op = true) (hσ : ∀ t l o ob, t ∈ i.op.reads → (s2.env.get t).down = .c (.b (.ptr l o)) → s.σ[l]? = some ob → s2.σ[l]? = some ob) (he : ∀ t ∈ i.touch, s2.env.get t = s.env.get t) (h : stepIns F bd s i = some s1) :
    s1.σ = s.σ ∧ (∀ t, t ∉ i.writes → s1.env.get t = s.env.get t) ∧ ∃ s3, stepIns F bd s2 i = some s3 ∧ s3.σ = s2.σ ∧ (∀ t ∈ i.writes, s3.env.get t = s1.env.get t) ∧ (∀ t, t ∉ i.writes → s3.env.get t = s2.env.get t) := by
  have hr : ∀ t ∈ i.op.reads, s2.env.get t = s.env.get t := fun t ht => he t (by simp [AIns.touch, ht])
  have htk : ∀ t ∈ i.op.takes, t ∈ i.op.reads := by
    intro t ht
    cases hop : i.op <;> simp only [hop, AOp.takes, List.not_mem_nil] at ht
    rename_i m x
    cases m <;> simp_all [AOp.reads]
  have sget : ∀ (s : St) (v : V) (t : Nat), (s.set i.dst v).env.get t = if i.dst = some t then v else s.env.get t := by
    intro s v t
    cases hd : i.dst with
    | none => simp [St.set]
    | some d => simp only [St.set]; rw [env_get_cons]; simp
  have go : ∀ {v : V} {s0 : St}, stepOp F bd s i.op = some (v, s0) → s1 = s0.set i.dst v →
      s1.σ = s.σ ∧ (∀ t, t ∉ i.writes → s1.env.get t = s.env.get t) ∧ ∃ s3, stepOp F bd s2 i.op = some (v, s3) ∧ (s3.set i.dst v).σ = s2.σ ∧ (∀ t ∈ i.writes, (s3.set i.dst v).env.get t = s1.env.get t) ∧ (∀ t, t ∉ i.writes → (s3.set i.dst v).env.get t = s2.env.get t) := by
    intro v s0 h0 h1
    obtain ⟨k1, k2, s3, k3, k4, k5, k6⟩ := step_same hh hσ hr h0
    subst h1
    refine ⟨by rw [set_st]; exact k1, fun t ht => ?_, s3, k3, by rw [set_st]; exact k4, fun t ht => ?_, fun t ht => ?_⟩
    · simp only [AIns.writes, List.mem_append, Option.mem_toList, not_or] at ht
      rw [sget, if_neg ht.2]; exact k2 t ht.1
    · simp only [AIns.writes, List.mem_append, Option.mem_toList] at ht
      rw [sget, sget]
      split
      · rfl
      · rename_i hne; exact k5 t (ht.resolve_right hne)
    · simp only [AIns.writes, List.mem_append, Option.mem_toList, not_or] at ht
      rw [sget, if_neg ht.2]; exact k6 t ht.1
  unfold stepIns at h ⊢
  split at h
  · rename_i hg
    split at h
    case h_2 => cases h
    rename_i v s0 h0
    simp only [Option.some.injEq] at h
    obtain ⟨k1, k2, s3, k3, k4, k5, k6⟩ := go h0 h.symm
    exact ⟨k1, k2, _, by rw [k3], k4, k5, k6⟩
  · rename_i gt want hg
    have hgt : s2.env.get gt = s.env.get gt := he gt (by simp [AIns.touch, AIns.gtmp, hg])
    rw [hgt]
    have skp : (s.set i.dst (.tup [])).σ = s.σ ∧ (∀ t, t ∉ i.writes → (s.set i.dst (.tup [])).env.get t = s.env.get t) ∧ ∃ s3, some (s2.set i.dst (.tup [])) = some s3 ∧ s3.σ = s2.σ ∧ (∀ t ∈ i.writes, s3.env.get t = (s.set i.dst (.tup [])).env.get t) ∧ (∀ t, t ∉ i.writes → s3.env.get t = s2.env.get t) := by
      refine ⟨set_st _ _ _, fun t ht => ?_, _, rfl, set_st _ _ _, fun t ht => ?_, fun t ht => ?_⟩
      · simp only [AIns.writes, List.mem_append, Option.mem_toList, not_or] at ht
        rw [sget, if_neg ht.2]
      · simp only [AIns.writes, List.mem_append, Option.mem_toList] at ht
        rw [sget, sget]
        split
        · rfl
        · rename_i hne; exact hr t (htk t (ht.resolve_right hne))
      · simp only [AIns.writes, List.mem_append, Option.mem_toList, not_or] at ht
        rw [sget, if_neg ht.2]
    split at h
    case h_3 => cases h
    case h_2 =>
      simp only [Option.some.injEq] at h
      subst h
      exact skp
    rename_i b hb
    cases hw : b == want with
    | true =>
      rw [hw] at h
      simp only [cond_true] at h ⊢
      split at h
      case h_2 => cases h
      rename_i v s0 h0
      simp only [Option.some.injEq] at h
      obtain ⟨k1, k2, s3, k3, k4, k5, k6⟩ := go h0 h.symm
      exact ⟨k1, k2, _, by rw [k3], k4, k5, k6⟩
    | false =>
      rw [hw] at h
      simp only [cond_false, Option.some.injEq] at h ⊢
      subst h
      simpa using skp

/-- An operation that makes objects, in two states with the same objects that agree on what it reads. -/
theorem make_same {op : AOp} {v : V} (hK : KeepF F) (hh : headCall op = true) (hσ : s2.σ = s.σ) (he : ∀ t ∈ op.reads, s2.env.get t = s.env.get t) (h : stepOp F bd s op = some (v, s1)) :
    s1.env = s.env ∧ s.σ.length ≤ s1.σ.length ∧ (∀ l, l < s.σ.length → s1.σ[l]? = s.σ[l]?) ∧ stepOp F bd s2 op = some (v, { s2 with σ := s1.σ }) := by
  cases op with
  | callp f xs =>
    have hargs : xs.map s2.rd = xs.map s.rd := args_same he
    simp only [stepOp] at h ⊢
    rw [hargs, hσ]
    split at h
    case h_2 => cases h
    rename_i v1 σ1 hF
    split at h
    case isFalse => cases h
    rename_i hlen
    cases h
    refine ⟨rfl, hlen, fun l hl => hK _ _ _ _ _ _ _ hF l (by omega) hl, ?_⟩
    simp only [hF, if_pos hlen]
  | bsl m k n zs ps =>
    cases m with
    | arr =>
      have : ∀ t ∈ (ps.map fun p => (p.1 * k, k, p.2)).flatMap (fun p => p.2.2.tmps), s2.env.get t = s.env.get t := by
        intro t ht
        refine he t ?_
        simpa [AOp.reads, List.flatMap_map] using ht
      simp only [stepOp] at h ⊢
      rw [parts_same (s := s) (s2 := s2) this, hσ]
      split at h
      case h_2 => cases h
      rename_i cs hcs
      cases h
      simp only [hcs]
      exact ⟨trivial, by simp, fun l hl => by rw [List.getElem?_append_left hl], trivial⟩
    | _ => simp [headCall] at hh
  | _ => simp [headCall] at hh

theorem call_same {i : AIns} (hK : KeepF F) (hh : headCall i.op = true) (hσ : s2.σ = s.σ) (he : ∀ t ∈ i.touch, s2.env.get t = s.env.get t) (h : stepIns F bd s i = some s1) :
    s.σ.length ≤ s1.σ.length ∧ (∀ l, l < s.σ.length → s1.σ[l]? = s.σ[l]?) ∧ (∀ t, t ∉ i.writes → s1.env.get t = s.env.get t) ∧
      ∃ s3, stepIns F bd s2 i = some s3 ∧ s3.σ = s1.σ ∧ (∀ t ∈ i.writes, s3.env.get t = s1.env.get t) ∧ (∀ t, t ∉ i.writes → s3.env.get t = s2.env.get t) := by
  obtain ⟨d, op, gd⟩ := i
  have hw : (⟨d, op, gd⟩ : AIns).writes = d.toList := by
    cases op with
    | mov m x => simp [headCall] at hh
    | _ => rfl
  have sget : ∀ (s : St) (v : V) (t : Nat), (s.set d v).env.get t = if d = some t then v else s.env.get t := by
    intro s v t
    cases hd : d with
    | none => simp [St.set]
    | some d => simp only [St.set]; rw [env_get_cons]; simp
  have hargs : ∀ t ∈ op.reads, s2.env.get t = s.env.get t := fun t ht => he t (by simp only [AIns.touch, List.mem_append]; exact .inl (.inl ht))
  have go : ∀ {v : V} {s0 : St}, stepOp F bd s op = some (v, s0) → s0.env = s.env ∧ s.σ.length ≤ s0.σ.length ∧ (∀ l, l < s.σ.length → s0.σ[l]? = s.σ[l]?) ∧ stepOp F bd s2 op = some (v, { s2 with σ := s0.σ }) := fun h0 => make_same hK hh hσ hargs h0
  have fin : ∀ (v : V) (s0 : St), s0.env = s.env → (∀ t, t ∉ d.toList → (s0.set d v).env.get t = s.env.get t) ∧ (∀ t ∈ d.toList, (St.set { s2 with σ := s0.σ } d v).env.get t = (s0.set d v).env.get t) ∧ (∀ t, t ∉ d.toList → (St.set { s2 with σ := s0.σ } d v).env.get t = s2.env.get t) := by
    intro v s0 h0
    refine ⟨fun t ht => ?_, fun t ht => ?_, fun t ht => ?_⟩ <;> simp only [Option.mem_toList] at ht
    · rw [sget, if_neg ht, h0]
    · rw [sget, sget, if_pos ht, if_pos ht]
    · rw [sget, if_neg ht]
  rw [hw]
  unfold stepIns at h ⊢
  split at h
  · rename_i hg
    simp only at hg
    split at h
    case h_2 => cases h
    rename_i v s0 h0
    cases h
    obtain ⟨k1, k2, k3, k4⟩ := go h0
    obtain ⟨f1, f2, f3⟩ := fin v s0 k1
    refine ⟨by rw [set_st]; exact k2, fun l hl => by rw [set_st]; exact k3 l hl, f1, _, ?_, ?_, f2, f3⟩
    · simp only [k4]
    · rw [set_st, set_st]
  · rename_i gt want hg
    simp only at hg
    have hgt : s2.env.get gt = s.env.get gt := he gt (by simp [AIns.touch, AIns.gtmp, hg])
    simp only [hgt]
    split at h
    case h_3 => cases h
    case h_2 =>
      simp only [Option.some.injEq] at h ⊢
      subst h
      refine ⟨by rw [set_st]; exact Nat.le_refl _, fun l _ => by rw [set_st], fun t ht => ?_, _, rfl, by rw [set_st, set_st, hσ], fun t ht => ?_, fun t ht => ?_⟩ <;> simp only [Option.mem_toList] at ht
      · rw [sget, if_neg ht]
      · rw [sget, sget, if_pos ht, if_pos ht]
      · rw [sget, if_neg ht]
    rename_i b hb
    cases hwn : b == want with
    | true =>
      rw [hwn] at h
      simp only [cond_true] at h ⊢
      split at h
      case h_2 => cases h
      rename_i v s0 h0
      simp only [Option.some.injEq] at h
      subst h
      obtain ⟨k1, k2, k3, k4⟩ := go h0
      obtain ⟨f1, f2, f3⟩ := fin v s0 k1
      refine ⟨by rw [set_st]; exact k2, fun l hl => by rw [set_st]; exact k3 l hl, f1, _, by simp only [k4], ?_, f2, f3⟩
      rw [set_st, set_st]
    | false =>
      rw [hwn] at h
      simp only [cond_false, Option.some.injEq] at h ⊢
      subst h
      refine ⟨by rw [set_st]; exact Nat.le_refl _, fun l _ => by rw [set_st], fun t ht => ?_, _, rfl, by rw [set_st, set_st, hσ], fun t ht => ?_, fun t ht => ?_⟩ <;> simp only [Option.mem_toList] at ht
      · rw [sget, if_neg ht]
      · rw [sget, sget, if_pos ht, if_pos ht]
      · rw [sget, if_neg ht]
end
end Go.Proofs.Ytjkhkblabhaimaa.Am

/- Regions that draw their order: what the text's order computes every order computes. -/
namespace Go.Proofs.Ytjkhkblabhaimaa.Am
open Go
set_option linter.unusedVariables false
set_option linter.unusedSimpArgs false

inductive Waits (ops : Array Oper) : Nat → Nat → Prop where
  | edge {k : Nat} {o : Oper} {e : Edge} : ops[k]? = some o → e ∈ o.after → Region.binds .any e = true → Waits ops k e.on
  | step {k j : Nat} {o : Oper} {e : Edge} : ops[k]? = some o → e ∈ o.after → Region.binds .any e = true → Waits ops e.on j → Waits ops k j

def maskOf (acc : List Nat) : List Edge → Nat
  | [] => 0
  | e :: es => bif Region.binds .any e then 2 ^ e.on ||| acc.getD e.on 0 ||| maskOf acc es else maskOf acc es

def masks : List Oper → List Nat → List Nat
  | [], acc => acc
  | o :: os, acc => masks os (acc ++ [maskOf acc o.after.toList])

def AIns.isAlloc (i : AIns) : Bool := match i with
  | ⟨some _, .alloc _, none⟩ => true
  | _ => false

def meets (xs ys : List Nat) : Bool := xs.any fun x => ys.any fun y => Nat.beq x y

def headLen : List Nat → Nat → Nat → Nat
  | [], _, h => h
  | m :: ms, k, h => headLen ms (k + 1) (bif m == 2 ^ k - 1 then h else k + 1)

def pairsOk (ms : List Nat) (i : AIns) (k : Nat) : Nat → List AIns → Bool
  | _, [] => true
  | j, i' :: is => (!(meets i'.writes i.touch || meets i.writes i'.touch) || (if j < k then (ms.getD k 0).testBit j else if k < j then (ms.getD j 0).testBit k else true)) && pairsOk ms i k (j + 1) is

def freshOk (d k : Nat) : Nat → List AIns → Bool
  | _, [] => true
  | j, i :: is => (Nat.beq j k || !(i.touch.any fun t => Nat.beq t d)) && freshOk d k (j + 1) is

def idx (n : Nat) : List AIns → List (Nat × AIns)
  | [] => []
  | i :: is => (n, i) :: idx (n + 1) is

/-- Operations that may as well come first: moves that nothing else bears on. -/
def preOk (ops : Array Oper) (is : List AIns) : Nat → Nat → Array Bool → Bool
  | 0, _, _ => true
  | n + 1, i, listed => (match ops[i]?, is[i]? with
      | some o, some ⟨_, .mov .cp _, none⟩ => (match o.op with | .move _ => true | _ => false) && o.guard.isNone
      | _, _ => false) && Region.free .any ops listed i && (Region.ready .any ops listed).contains i && preOk ops is n (i + 1) (listed.setIfInBounds i true)

def drawTry (p : Nat) (ops : Array Oper) (is : List AIns) : Bool :=
  let ms := masks ops.toList []
  let h2 := headLen (ms.map (· ||| (2 ^ p - 1))) 0 0
  let h1 := h2 - ((is.take h2).reverse.takeWhile AIns.isAlloc).length
  let hd := is.take h1
  (decide (p ≤ h1) && Region.noSelect ops && preOk ops is p 0 (Array.replicate ops.size false)) &&
  decide (h2 ≤ ops.size) &&
  ((List.range ops.size).all fun k => match ops[k]? with | some o => o.after.all (fun e => !Region.binds .any e || decide (e.on < k)) | none => true) &&
  (((idx 0 hd).all fun q => headOp q.2.op || headCall q.2.op) &&
    ((idx 0 hd).all fun q => !headCall q.2.op || (idx 0 hd).all fun q' => !headCall q'.2.op || decide (q.1 ≤ q'.1) || decide (q'.1 < p) || (ms.getD q.1 0).testBit q'.1)) &&
  ((idx 0 hd).all fun q => decide (q.1 < p) || pairsOk ms q.2 q.1 p (hd.drop p)) &&
  ((idx 0 (is.take h2)).all fun p => decide (p.1 < h1) || (p.2.isAlloc && match p.2.dst with | some d => freshOk d p.1 0 (is.take h2) | none => false)) &&
  ((List.range ops.size).all fun k => decide (k < h2) || (ms.getD k 0 ||| (2 ^ p - 1)) == 2 ^ k - 1)

def drawOk (ops : Array Oper) (is : List AIns) : Bool := drawTry 0 ops is || drawTry 1 ops is

/-- What such a check says. -/
structure Dr (ops : Array Oper) (is : List AIns) (p h1 h2 : Nat) : Prop where
  le0 : p ≤ h1
  le1 : h1 ≤ h2
  le2 : h2 ≤ ops.size
  back : ∀ (k : Nat) (o : Oper) (e : Edge), ops[k]? = some o → e ∈ o.after → Region.binds .any e = true → e.on < k
  head : ∀ (k : Nat) (i : AIns), k < h1 → is[k]? = some i → headOp i.op = true ∨ headCall i.op = true
  calls : ∀ (j k : Nat) (i i' : AIns), p ≤ j → j < k → k < h1 → is[j]? = some i → is[k]? = some i' → headCall i.op = true → headCall i'.op = true → Waits ops k j
  fresh : ∀ (k : Nat) (i : AIns), h1 ≤ k → k < h2 → is[k]? = some i → ∃ d zs, i = ⟨some d, .alloc zs, none⟩ ∧ ∀ (j : Nat) (i' : AIns), j < h2 → j ≠ k → is[j]? = some i' → d ∉ i'.touch
  order : ∀ (j k : Nat) (i i' : AIns), p ≤ j → j < k → k < h1 → is[j]? = some i → is[k]? = some i' → ((∃ t ∈ i.writes, t ∈ i'.touch) ∨ (∃ t ∈ i'.writes, t ∈ i.touch)) → Waits ops k j
  tail : ∀ (k j : Nat), p ≤ j → h2 ≤ k → k < ops.size → j < k → Waits ops k j

theorem maskOf_waits {ops : Array Oper} {k : Nat} {o : Oper} {acc : List Nat} (ho : ops[k]? = some o) (hacc : ∀ (i m j : Nat), acc[i]? = some m → m.testBit j = true → Waits ops i j) :
    ∀ (es : List Edge), (∀ e ∈ es, e ∈ o.after) → ∀ j, (maskOf acc es).testBit j = true → Waits ops k j
  | [], _, j, h => by simp [maskOf] at h
  | e :: es, hes, j, h => by
    have ih := maskOf_waits ho hacc es (fun e he => hes e (List.mem_cons_of_mem _ he)) j
    have he := hes e List.mem_cons_self
    simp only [maskOf] at h
    cases hb : Region.binds .any e with
    | false => rw [hb] at h; exact ih h
    | true =>
      rw [hb] at h
      simp only [cond_true, Nat.testBit_or, Bool.or_eq_true] at h
      rcases h with (h | h) | h
      · rw [Nat.testBit_two_pow] at h
        have := of_decide_eq_true h
        subst this
        exact .edge ho he hb
      · rw [List.getD_eq_getElem?_getD] at h
        cases hm : acc[e.on]? with
        | none => rw [hm] at h; simp at h
        | some m => rw [hm] at h; exact .step ho he hb (hacc _ _ _ hm h)
      · exact ih h

theorem masks_waits {ops : Array Oper} : ∀ (os : List Oper) (acc : List Nat), (∀ j, os[j]? = ops[acc.length + j]?) → (∀ (i m j : Nat), acc[i]? = some m → m.testBit j = true → Waits ops i j) →
    ∀ (i m j : Nat), (masks os acc)[i]? = some m → m.testBit j = true → Waits ops i j
  | [], acc, _, h => h
  | o :: os, acc, hk, h => by
    have ho : ops[acc.length]? = some o := by have := hk 0; simpa using this.symm
    refine masks_waits os _ (fun j => ?_) ?_
    · have := hk (j + 1)
      simpa [Nat.add_assoc, Nat.add_comm 1 j] using this
    · intro i m j hi hj
      by_cases hlt : i < acc.length
      · rw [List.getElem?_append_left hlt] at hi; exact h i m j hi hj
      · rw [List.getElem?_append_right (by omega)] at hi
        have : i = acc.length := by
          have := (List.getElem?_eq_some_iff.mp hi).1
          simp at this; omega
        subst this
        simp only [Nat.sub_self, List.getElem?_cons_zero, Option.some.injEq] at hi
        subst hi
        exact maskOf_waits ho h _ (fun e he => Array.mem_toList_iff.1 he) j hj

theorem meets_true {xs ys : List Nat} {t : Nat} (hx : t ∈ xs) (hy : t ∈ ys) : meets xs ys = true := by
  simp only [meets, List.any_eq_true]
  exact ⟨t, hx, t, hy, by simp⟩

theorem idx_get : ∀ (is : List AIns) (n k : Nat) (i : AIns), is[k]? = some i → (n + k, i) ∈ idx n is
  | [], n, k, i, h => by simp at h
  | x :: xs, n, 0, i, h => by simp at h; subst h; simp [idx]
  | x :: xs, n, k + 1, i, h => by
    have := idx_get xs (n + 1) k i (by simpa using h)
    simp only [idx, List.mem_cons]
    right
    rw [show n + (k + 1) = n + 1 + k by omega]
    exact this

theorem pairsOk_get {ms : List Nat} {i : AIns} {k : Nat} : ∀ {is : List AIns} {n : Nat}, pairsOk ms i k n is = true → ∀ (j : Nat) (i' : AIns), is[j]? = some i' → (meets i'.writes i.touch = true ∨ meets i.writes i'.touch = true) →
    (n + j < k → (ms.getD k 0).testBit (n + j) = true) ∧ (k < n + j → (ms.getD (n + j) 0).testBit k = true)
  | [], n, h, j, i', hj, hm => by simp at hj
  | x :: xs, n, h, j, i', hj, hm => by
    simp only [pairsOk, Bool.and_eq_true] at h
    cases j with
    | zero =>
      simp only [List.getElem?_cons_zero, Option.some.injEq] at hj
      subst hj
      have h0 := h.1
      rw [show (meets x.writes i.touch || meets i.writes x.touch) = true by rcases hm with hm | hm <;> simp [hm]] at h0
      simp only [Bool.not_true, Bool.false_or] at h0
      refine ⟨fun hlt => ?_, fun hlt => ?_⟩
      · simp only [Nat.add_zero] at hlt ⊢; rw [if_pos hlt] at h0; exact h0
      · simp only [Nat.add_zero] at hlt ⊢; rw [if_neg (by omega), if_pos hlt] at h0; exact h0
    | succ j =>
      have := pairsOk_get h.2 j i' (by simpa using hj) hm
      rw [show n + 1 + j = n + (j + 1) by omega] at this
      exact this

theorem freshOk_get {d k : Nat} : ∀ {is : List AIns} {n : Nat}, freshOk d k n is = true → ∀ (j : Nat) (i' : AIns), is[j]? = some i' → n + j ≠ k → d ∉ i'.touch
  | [], n, h, j, i', hj, hm => by simp at hj
  | x :: xs, n, h, j, i', hj, hm => by
    simp only [freshOk, Bool.and_eq_true] at h
    cases j with
    | zero =>
      simp only [List.getElem?_cons_zero, Option.some.injEq] at hj
      subst hj
      have h0 := h.1
      simp only [Bool.or_eq_true, Nat.beq_eq_true_eq] at h0
      rcases h0 with h0 | h0
      · exact absurd h0 (by simpa using hm)
      · intro hd
        simp only [Bool.not_eq_true', List.any_eq_false, Nat.beq_eq_true_eq] at h0
        exact h0 d hd (by simp)
    | succ j => exact freshOk_get h.2 j i' (by simpa using hj) (by omega)

theorem two_pow_bit {k j : Nat} (h : j < k) : (2 ^ k - 1).testBit j = true := by
  rw [Nat.testBit_two_pow_sub_one]; simpa using h

theorem drawTry_dr {p : Nat} {ops : Array Oper} {is : List AIns} (h : drawTry p ops is = true) : Region.noSelect ops = true ∧ preOk ops is p 0 (Array.replicate ops.size false) = true ∧ ∃ h1 h2, Dr ops is p h1 h2 := by
  simp only [drawTry, Bool.and_eq_true, decide_eq_true_eq, List.all_eq_true, List.mem_range] at h
  generalize hms : masks ops.toList [] = ms at h
  generalize headLen (ms.map (· ||| (2 ^ p - 1))) 0 0 = h2 at h
  have hw : ∀ (i m j : Nat), ms[i]? = some m → m.testBit j = true → Waits ops i j := by
    rw [← hms]
    exact masks_waits ops.toList [] (fun j => by simp) (fun i m j hi => by simp at hi)
  have hw' : ∀ (i j : Nat), (ms.getD i 0).testBit j = true → Waits ops i j := by
    intro i j hj
    rw [List.getD_eq_getElem?_getD] at hj
    cases hm : ms[i]? with
    | none => rw [hm] at hj; simp at hj
    | some m => rw [hm] at hj; exact hw _ _ _ hm hj
  have hle : h2 - ((is.take h2).reverse.takeWhile AIns.isAlloc).length ≤ h2 := Nat.sub_le _ _
  generalize h2 - ((is.take h2).reverse.takeWhile AIns.isAlloc).length = h1 at h hle
  obtain ⟨⟨⟨⟨⟨⟨⟨⟨a01, a02⟩, a03⟩, a1⟩, a2⟩, a3, a3'⟩, a4⟩, a5⟩, a6⟩ := h
  have tk : ∀ {n k : Nat} {i : AIns}, k < n → is[k]? = some i → (is.take n)[k]? = some i := by
    intro n k i hk hi
    rw [List.getElem?_take, if_pos hk]; exact hi
  refine ⟨a02, a03, h1, h2, a01, hle, a1, ?_, ?_, ?_, ?_, ?_, ?_⟩
  · intro k o e ho he hb
    have := a2 k (Array.getElem?_eq_some_iff.1 ho).1
    rw [ho] at this
    simp only [Array.all_eq_true_iff_forall_mem, Bool.or_eq_true, Bool.not_eq_true', decide_eq_true_eq] at this
    exact (this e he).resolve_left (by rw [hb]; simp)
  · intro k i hk hi
    have := a3 (k, i) (by have := idx_get _ 0 k i (tk hk hi); simpa using this)
    simpa only [Bool.or_eq_true] using this
  · intro j k i i' hpj hjk hk hi hi' hc hc'
    have h0 := a3' (k, i') (by have := idx_get _ 0 k i' (tk hk hi'); simpa using this)
    rw [hc', Bool.not_true, Bool.false_or, List.all_eq_true] at h0
    have := h0 (j, i) (by have := idx_get _ 0 j i (tk (Nat.lt_trans hjk hk) hi); simpa using this)
    simp only [hc, Bool.not_true, Bool.false_or, Bool.or_eq_true, decide_eq_true_eq] at this
    rcases this with (h | h) | h
    · omega
    · omega
    · exact hw' _ _ h
  · intro k i hk1 hk2 hi
    have := a5 (k, i) (by have := idx_get _ 0 k i (tk hk2 hi); simpa using this)
    simp only [Bool.or_eq_true, decide_eq_true_eq, Bool.and_eq_true] at this
    obtain ⟨b1, b2⟩ := this.resolve_left (by omega)
    obtain ⟨d, op, gd⟩ := i
    unfold AIns.isAlloc at b1
    split at b1
    · rename_i d' zs heq
      cases heq
      simp only at b2
      refine ⟨d', zs, rfl, fun j i' hj hne hi' => ?_⟩
      exact freshOk_get b2 j i' (tk hj hi') (by simpa using hne)
    · cases b1
  · intro j k i i' hpj hjk hk hi hi' hm
    have hmm : meets i.writes i'.touch = true ∨ meets i'.writes i.touch = true := by
      rcases hm with ⟨t, x, y⟩ | ⟨t, x, y⟩
      · exact .inl (meets_true x y)
      · exact .inr (meets_true x y)
    have := a4 (k, i') (by have := idx_get _ 0 k i' (tk hk hi'); simpa using this)
    simp only [Bool.or_eq_true, decide_eq_true_eq] at this
    have := (pairsOk_get (this.resolve_left (by omega)) (j - p) i (by rw [List.getElem?_drop, show p + (j - p) = j by omega]; exact tk (by omega) hi) hmm).1
    rw [show p + (j - p) = j by omega] at this
    exact hw' _ _ (this hjk)
  · intro k j hpj hk hks hj
    have := a6 k hks
    simp only [Bool.or_eq_true, decide_eq_true_eq, beq_iff_eq] at this
    have := this.resolve_left (by omega)
    have hb := two_pow_bit hj
    rw [← this, Nat.testBit_or, Bool.or_eq_true] at hb
    refine hw' _ _ (hb.resolve_right ?_)
    rw [Nat.testBit_two_pow_sub_one]
    simp; omega
end Go.Proofs.Ytjkhkblabhaimaa.Am

/- Blocks that are drawn before their time: they are nobody's, and later an object's. -/
namespace Go.Proofs.Ytjkhkblabhaimaa.Am
open Go
set_option linter.unusedVariables false
set_option linter.unusedSimpArgs false

section
variable {g g' : G} {w w' : World} {Pr Pr2 : Nat → Prop} {s s' : St} {a a' : Act}

theorem RepC.pw (hp : ∀ b, g.kind b ≠ .free → Pr2 b → Pr b) {p : Place} {x : C} {v : Value} (h : RepC g w Pr p x v) : RepC g w Pr2 p x v := by
  cases x with
  | b x => exact h
  | osl k rows =>
    obtain ⟨h1, h2, h3⟩ := h
    refine ⟨h1, h2, h3.imp id ?_⟩
    rintro ⟨a, cap, h4, h5⟩
    refine ⟨a, cap, h4, h5.imp id ?_⟩
    rintro ⟨s1, s2, s3, s4, s5, s6⟩
    exact ⟨s1, s2, s3, s4, fun h => s5 (hp _ (by rw [s3]; simp) h), s6⟩
  | fn f fst cap => exact h
  | nilf => exact h

theorem RepV1.pw (hp : ∀ b, g.kind b ≠ .free → Pr2 b → Pr b) {r : Root} {path : List Nat} {x : V} {v : Value} (h : RepV1 g w Pr r path x v) : RepV1 g w Pr2 r path x v := by
  cases x with
  | c x => exact RepC.pw hp h
  | agg cs =>
    obtain ⟨arr, h1, h2, h3⟩ := h
    refine ⟨arr, h1, h2, fun i c hi => ?_⟩
    obtain ⟨u, k1, k2, k3⟩ := h3 i c hi
    exact ⟨u, k1, k2, RepC.pw hp k3⟩
  | tup vs => exact h

theorem RepV.pw (hp : ∀ b, g.kind b ≠ .free → Pr2 b → Pr b) {r : Root} {x : V} {v : Value} (h : RepV g w Pr r x v) : RepV g w Pr2 r x v := by
  cases x with
  | c x => exact RepV1.pw (x := .c x) (path := []) hp h
  | agg cs => exact RepV1.pw (x := .agg cs) (path := []) hp h
  | tup vs =>
    obtain ⟨arr, h1, h2⟩ := h
    refine ⟨arr, h1, fun i x hi => ?_⟩
    obtain ⟨u, k1, k2⟩ := h2 i x hi
    exact ⟨u, k1, RepV1.pw hp k2⟩

theorem RepOb.pw (hp : ∀ b, g.kind b ≠ .free → Pr2 b → Pr b) {l : Nat} {x : Ob} (h : RepOb g w Pr l x) : RepOb g w Pr2 l x := by
  cases x with
  | cells cs =>
    obtain ⟨b, o, arr, ty, h1, h2, h3, h4, h5⟩ := h
    refine ⟨b, o, arr, ty, h1, h2, h3, h4, fun i c hi => ?_⟩
    obtain ⟨u, k1, k2, k3⟩ := h5 i c hi
    exact ⟨u, k1, k2, RepC.pw hp k3⟩
  | map es =>
    obtain ⟨b, o, mes, clock, h1, h2, h3, h4, h5⟩ := h
    refine ⟨b, o, mes, clock, h1, h2, h3, h4, fun i k v hi => ?_⟩
    obtain ⟨m, k1, k2, k3⟩ := h5 i k v hi
    exact ⟨m, k1, RepV1.pw hp k2, RepV1.pw hp k3⟩
  | dead => trivial

theorem EnvOk.pw (hp : ∀ b, g.kind b ≠ .free → Pr2 b → Pr b) {env : Env} (h : EnvOk g w Pr env a) : EnvOk g w Pr2 env a := fun t => RepV.pw hp (h t)

theorem Inv.pr' {σ : List Ob} (hI : Inv g w Pr σ) (hp : ∀ b, g.kind b ≠ .free → Pr2 b → Pr b) (hq : ∀ b, Pr2 b → b < w.heap.size ∧ (∀ l, g.kind b ≠ .obj l) ∧ ∀ l i, g.own b ≠ some (.cell l, i)) : Inv g w Pr2 σ where
  len := hI.len
  ob l o h := RepOb.pw hp (hI.ob l o h)
  lt := hI.lt
  pr := hq
  gl := hI.gl

theorem InvA.less {N : Nat} (hA : InvA N g w Pr s a) (hp : ∀ b, Pr2 b → Pr b) : InvA N g w Pr2 s a :=
  ⟨hA.inv.pr' (fun b _ h => hp b h) (fun b h => hA.inv.pr b (hp b h)), hA.env.pw (fun b _ h => hp b h), hA.size, hA.defers⟩

/-- A block that is nobody's. -/
def G.noOwn (g : G) (b : Nat) : G := { g with own := fun x => if x = b then none else g.own x }

theorem lone_kind (hI : Inv g w Pr s.σ) : g.kind w.heap.size = .free := by
  cases h : g.kind w.heap.size with
  | free => rfl
  | _ => exact absurd (hI.lt _ (by rw [h]; simp)) (by omega)

theorem lone_ext (hI : Inv g w Pr s.σ) (o : Obj) : Ext g w (g.noOwn w.heap.size) (w.alloc o) where
  st x v h := by
    obtain ⟨h1, h2, h3⟩ := h
    have hlt : x.block < w.heap.size := hI.lt _ (by rcases h3 with h3 | ⟨n, h3, _⟩ <;> rw [h3] <;> simp)
    exact ⟨h1, by rw [alloc_cell hlt]; exact h2, h3⟩
  loc l x h := h
  size := by simp
  shape b arr ty fz h := ⟨arr, by rw [alloc_get b (Array.getElem?_eq_some_iff.mp h).1]; exact h, rfl⟩
  os := rfl
  tape := rfl
  output := rfl

theorem lone_keep (hI : Inv g w Pr s.σ) (p : Place) : Keep g (g.noOwn w.heap.size) p := by
  intro b n h1 h2
  have hlt : b < w.heap.size := hI.lt _ (by rw [h2]; simp)
  have hne : b ≠ w.heap.size := by omega
  exact ⟨by simpa [G.noOwn, hne] using h1, h2⟩

theorem lone_fr (hI : Inv g w Pr s.σ) (o : Obj) : Fr Pr g w (g.noOwn w.heap.size) (w.alloc o) := by
  intro b hb
  have hlt := (hI.pr b hb).1
  have hne : b ≠ w.heap.size := by omega
  exact ⟨alloc_get b hlt, rfl, by simp [G.noOwn, hne]⟩

/-- A new block that is nobody's, and is to stay so. -/
theorem lone {N : Nat} (hA : InvA N g w Pr s a) (o : Obj) : InvA N (g.noOwn w.heap.size) (w.alloc o) (fun b => Pr b ∨ b = w.heap.size) s a := by
  have hI := hA.inv
  have hE := lone_ext hI o
  have hinv : Inv (g.noOwn w.heap.size) (w.alloc o) Pr s.σ := by
    refine ⟨hI.len, fun l x hx => ?_, fun b hb => ?_, fun b hb => ?_, hI.gl.mono hE.st⟩
    · refine RepOb.frame hE (fun i => lone_keep hI _) ?_ (hI.ob l x hx)
      intro b hb
      have hlt : b < w.heap.size := hI.lt _ (by rw [hb]; simp)
      exact ⟨alloc_get b hlt, hb⟩
    · have := hI.lt b hb
      simp; omega
    · obtain ⟨h1, h2, h3⟩ := hI.pr b hb
      have hne : b ≠ w.heap.size := by omega
      exact ⟨by simp; omega, h2, by simpa [G.noOwn, hne] using h3⟩
  have hk : (g.noOwn w.heap.size).kind w.heap.size = .free := lone_kind (g := g) (s := s) hI
  have hpr : ∀ b, (g.noOwn w.heap.size).kind b ≠ .free → (Pr b ∨ b = w.heap.size) → Pr b := by
    rintro b h1 (h2 | rfl)
    · exact h2
    · exact absurd hk h1
  refine ⟨hinv.pr' hpr ?_, EnvOk.pw hpr (hA.env.ext hE (fun _ _ => lone_keep hI _)), hA.size, hA.defers⟩
  rintro b (hb | rfl)
  · exact hinv.pr b hb
  · exact ⟨by simp, by rw [hk]; simp, by simp [G.noOwn]⟩

/-- Such a block becomes an object. -/
def G.adopt (g : G) (b l : Nat) : G := (g.withKind b (.obj l)).withLoc (b, 0)

theorem adopt_ext {b l : Nat} (hk : g.kind b = .free) : Ext g w (g.adopt b l) w where
  st x v h := by
    obtain ⟨h1, h2, h3⟩ := h
    have hne : x.block ≠ b := by rintro rfl; rcases h3 with h3 | ⟨n, h3, _⟩ <;> rw [hk] at h3 <;> cases h3
    exact ⟨h1, h2, by simpa [G.adopt, G.withKind, G.withLoc, hne] using h3⟩
  loc l x h := loc_old h
  size := Nat.le_refl _
  shape b arr ty fz h := ⟨arr, h, rfl⟩
  os := rfl
  tape := rfl
  output := rfl

theorem adopt_keep {b l : Nat} (hk : g.kind b = .free) (p : Place) : Keep g (g.adopt b l) p := by
  intro x n h1 h2
  have hne : x ≠ b := by rintro rfl; rw [hk] at h2; cases h2
  exact ⟨h1, by simpa [G.adopt, G.withKind, G.withLoc, hne] using h2⟩

theorem adopt_inv {N : Nat} (hA : InvA N g w Pr s a) {b : Nat} {arr : Array Value} {ty : TypeId} {zs : List C} (hk : g.kind b = .free) (hb : w.heap[b]? = some (.cells arr ty (0, 0))) (hl : zs.length ≤ arr.size)
    (hc : ∀ (i : Nat) (c : C), zs[i]? = some c → ∃ u, arr[i]? = some u ∧ u.oneCell' = true ∧ ∀ p, RepC g w Pr p c u) {d : Nat} (hd : a.tmps.getD d undef = .pointer (some ⟨b, 0, none⟩)) :
    InvA N (g.adopt b s.σ.length) w (fun x => Pr x ∧ x ≠ b) ⟨(d, .c (.b (.ptr s.σ.length 0))) :: s.env, s.σ ++ [.cells zs]⟩ a := by
  have hI := hA.inv
  have hE : Ext g w (g.adopt b s.σ.length) w := adopt_ext hk
  have hpr : ∀ x, (g.adopt b s.σ.length).kind x ≠ .free → (Pr x ∧ x ≠ b) → Pr x := fun x _ h => h.1
  have hloc : (g.adopt b s.σ.length).loc[s.σ.length]? = some (b, 0) := by simp [G.adopt, G.withLoc, G.withKind, ← hI.len]
  refine ⟨⟨by simp [G.adopt, G.withLoc, G.withKind, hI.len], fun l x hx => ?_, fun x hx => ?_, fun x hx => ?_, hI.gl.mono hE.st⟩, fun t => ?_, hA.size, hA.defers⟩
  · by_cases hlt : l < s.σ.length
    · rw [List.getElem?_append_left hlt] at hx
      refine RepOb.pw hpr (RepOb.frame hE (fun i => adopt_keep hk _) ?_ (hI.ob l x hx))
      intro y hy
      have hne : y ≠ b := by rintro rfl; rw [hk] at hy; cases hy
      exact ⟨rfl, by simpa [G.adopt, G.withKind, G.withLoc, hne] using hy⟩
    · rw [List.getElem?_append_right (by omega)] at hx
      have : l = s.σ.length := by
        have := (List.getElem?_eq_some_iff.mp hx).1
        simp at this; omega
      subst this
      simp at hx
      subst hx
      refine ⟨b, 0, arr, ty, hloc, by simp [G.adopt, G.withKind, G.withLoc], hb, by omega, fun i c hi => ?_⟩
      obtain ⟨u, k1, k2, k3⟩ := hc i c hi
      exact ⟨u, by simpa using k1, k2, RepC.pw hpr (RepC.ext hE (adopt_keep hk _) (k3 _))⟩
  · by_cases he : x = b
    · subst he; exact (Array.getElem?_eq_some_iff.1 hb).1
    · exact hI.lt x (by simpa [G.adopt, G.withKind, G.withLoc, he] using hx)
  · obtain ⟨h1, h2, h3⟩ := hI.pr x hx.1
    exact ⟨h1, by simpa [G.adopt, G.withKind, G.withLoc, hx.2] using h2, h3⟩
  · show RepV _ _ _ _ (Env.get ((d, _) :: s.env) t) _
    rw [env_get_cons]
    split
    · rename_i e; subst e; rw [hd]; exact ⟨b, 0, hloc, by simp⟩
    · exact RepV.pw hpr (RepV.ext hE (fun _ => adopt_keep hk _) (hA.env t))
end
end Go.Proofs.Ytjkhkblabhaimaa.Am

/- Regions that draw their order: the proof. -/
namespace Go.Proofs.Ytjkhkblabhaimaa.Am
open Go
set_option linter.unusedVariables false
set_option linter.unusedSimpArgs false

abbrev Ld (listed : Array Bool) (j : Nat) : Prop := listed.getD j false = true

theorem ld_set {listed : Array Bool} {i j : Nat} (hi : i < listed.size) : Ld (listed.setIfInBounds i true) j ↔ (j = i ∨ Ld listed j) := by
  unfold Ld
  simp only [Array.getD_eq_getD_getElem?]
  by_cases h : j = i
  · subst h; simp [hi]
  · rw [Array.getElem?_setIfInBounds_ne (fun e => h e.symm)]; simp [h]

def Closed (ops : Array Oper) (listed : Array Bool) : Prop := ∀ (k : Nat) (o : Oper) (e : Edge), Ld listed k → ops[k]? = some o → e ∈ o.after → Region.binds .any e = true → Ld listed e.on

theorem waits_ld {ops : Array Oper} {listed : Array Bool} (hc : Closed ops listed) {k j : Nat} (h : Waits ops k j) : (∀ (o : Oper) (e : Edge), ops[k]? = some o → e ∈ o.after → Region.binds .any e = true → Ld listed e.on) → Ld listed j := by
  induction h with
  | edge h1 h2 h3 => exact fun h => h _ _ h1 h2 h3
  | step h1 h2 h3 _ ih => exact fun h => ih fun o e a b c => hc _ o e (h _ _ h1 h2 h3) a b c

theorem cnt_set : ∀ (l : List Bool) (i : Nat), l[i]? = some false → (l.set i true).count false + 1 = l.count false
  | [], i, h => by simp at h
  | b :: l, 0, h => by simp at h; subst h; simp
  | b :: l, i + 1, h => by
    have := cnt_set l i (by simpa using h)
    simp only [List.set_cons_succ, List.count_cons]
    omega

theorem ready_nil {ops : Array Oper} {is : List AIns} {p h1 h2 : Nat} (hd : Dr ops is p h1 h2) {listed : Array Bool} (hsz : listed.size = ops.size) (h : Region.ready .any ops listed = []) : ∀ k, k < ops.size → Ld listed k := by
  intro k
  induction k using Nat.strongRecOn with
  | _ k ih =>
    intro hk
    refine Decidable.byContradiction fun hn => ?_
    have : k ∈ Region.ready .any ops listed := by
      rw [mem_ready]
      refine ⟨?_, ops[k], by simp [hk], fun e he hb => ih _ (hd.back k ops[k] e (by simp [hk]) he hb) (by have := hd.back k ops[k] e (by simp [hk]) he hb; omega)⟩
      unfold Ld at hn
      simp only [Array.getD_eq_getD_getElem?] at hn ⊢
      have : k < listed.size := by omega
      simp only [this, getElem?_pos, Option.getD_some] at hn ⊢
      simpa using hn
    rw [h] at this
    cases this

section
variable {P : Program} {N : Nat} {F : Oracle} {bd : Bd} {ops : Array Oper} {is : List AIns} {p h1 h2 : Nat} {S : Nat → St} {g0 : G} {w0 : World} {Pr : Nat → Prop}

def Writes (is : List AIns) (k t : Nat) : Prop := ∃ i, is[k]? = some i ∧ t ∈ i.writes

/-- The text's states. -/
def Text (F : Oracle) (bd : Bd) (is : List AIns) (S : Nat → St) : Prop := ∀ (k : Nat) (i : AIns), is[k]? = some i → stepIns F bd (S k) i = some (S (k + 1))

theorem text_of : ∀ (is : List AIns) (s s' : St), stepAll F bd s is = some s' → ∃ S, S 0 = s ∧ S is.length = s' ∧ Text F bd is S
  | [], s, s', h => by
    simp only [stepAll, Option.some.injEq] at h
    exact ⟨fun _ => s, rfl, h, fun k i hk => by simp at hk⟩
  | i :: is, s, s', h => by
    simp only [stepAll] at h
    split at h
    case h_2 => cases h
    rename_i s1 hs1
    obtain ⟨S, e1, e2, e3⟩ := text_of is s1 s' h
    refine ⟨fun | 0 => s | k + 1 => S k, rfl, e2, ?_⟩
    intro k x hk
    cases k with
    | zero => simp at hk; subst hk; simp only [e1]; exact hs1
    | succ k => exact e3 k x (by simpa using hk)

theorem head_keeps {i : AIns} {s s1 : St} (hK : KeepF F) (hh : headOp i.op = true ∨ headCall i.op = true) (h : stepIns F bd s i = some s1) : ∀ t, t ∉ i.writes → s1.env.get t = s.env.get t := by
  rcases hh with hh | hh
  · exact (ins_same (s2 := s) hh (fun _ _ _ _ _ _ h => h) (fun _ _ => rfl) h).2.1
  · exact (call_same (s2 := s) hK hh rfl (fun _ _ => rfl) h).2.2.1

/-- Does it make objects? -/
def Makes (is : List AIns) (k : Nat) : Prop := ∃ i, is[k]? = some i ∧ headCall i.op = true

theorem text_lo (hK : KeepF F) (hd : Dr ops is p h1 h2) (hl : is.length = ops.size) (hS : Text F bd is S) {a : Nat} : ∀ n, a + n ≤ h1 → (∀ j, a ≤ j → j < a + n → ¬ Makes is j) → (S (a + n)).σ = (S a).σ
  | 0, _, _ => rfl
  | n + 1, hk, hm => by
    have hlt : a + n < is.length := by have := hd.le1; have := hd.le2; omega
    have hi : is[a + n]? = some is[a + n] := by simp [hlt]
    have hh := (hd.head (a + n) _ (by omega) hi).resolve_right (fun h => hm (a + n) (by omega) (by omega) ⟨_, hi, h⟩)
    rw [show a + (n + 1) = a + n + 1 by omega, (ins_same (s2 := S (a + n)) hh (fun _ _ _ _ _ _ h => h) (fun _ _ => rfl) (hS _ _ hi)).1]
    exact text_lo hK hd hl hS n (by omega) (fun j h3 h4 => hm j h3 (by omega))

theorem text_eq (hK : KeepF F) (hd : Dr ops is p h1 h2) (hl : is.length = ops.size) (hS : Text F bd is S) {a b : Nat} (hab : a ≤ b) (hb : b ≤ h1) (hm : ∀ j, a ≤ j → j < b → ¬ Makes is j) : (S b).σ = (S a).σ := by
  have := text_lo hK hd hl hS (a := a) (b - a) (by omega) (fun j h3 h4 => hm j h3 (by omega))
  rwa [show a + (b - a) = b by omega] at this

theorem text_ext (hK : KeepF F) (hd : Dr ops is p h1 h2) (hl : is.length = ops.size) (hS : Text F bd is S) {a : Nat} : ∀ n, a + n ≤ h1 → (S a).σ.length ≤ (S (a + n)).σ.length ∧ ∀ l, l < (S a).σ.length → (S (a + n)).σ[l]? = (S a).σ[l]?
  | 0, _ => ⟨Nat.le_refl _, fun _ _ => rfl⟩
  | n + 1, hk => by
    have hlt : a + n < is.length := by have := hd.le1; have := hd.le2; omega
    have hi : is[a + n]? = some is[a + n] := by simp [hlt]
    obtain ⟨h3, h4⟩ := text_ext hK hd hl hS (a := a) n (by omega)
    rw [show a + (n + 1) = a + n + 1 by omega]
    rcases hd.head (a + n) _ (by omega) hi with hh | hh
    · rw [(ins_same (s2 := S (a + n)) hh (fun _ _ _ _ _ _ h => h) (fun _ _ => rfl) (hS _ _ hi)).1]
      exact ⟨h3, h4⟩
    · obtain ⟨k1, k2, _⟩ := call_same (s2 := S (a + n)) hK hh rfl (fun _ _ => rfl) (hS _ _ hi)
      exact ⟨Nat.le_trans h3 k1, fun l hl => (k2 l (by omega)).trans (h4 l hl)⟩

theorem text_sub (hK : KeepF F) (hd : Dr ops is p h1 h2) (hl : is.length = ops.size) (hS : Text F bd is S) {a b : Nat} (hab : a ≤ b) (hb : b ≤ h1) : ∀ l, l < (S a).σ.length → (S b).σ[l]? = (S a).σ[l]? := by
  have := (text_ext hK hd hl hS (a := a) (b - a) (by omega)).2
  rwa [show a + (b - a) = b by omega] at this

theorem text_env (hK : KeepF F) (hd : Dr ops is p h1 h2) (hl : is.length = ops.size) (hS : Text F bd is S) {t a : Nat} : ∀ b, a ≤ b → b ≤ h1 → (∀ j, a ≤ j → j < b → ¬ Writes is j t) → (S b).env.get t = (S a).env.get t
  | b, hab, hb, hw => by
    rcases Nat.lt_or_ge a b with hlt | hge
    · obtain ⟨e, rfl⟩ : ∃ e, b = e + 1 := ⟨b - 1, by omega⟩
      have hlt' : e < is.length := by have := hd.le1; have := hd.le2; omega
      have hi : is[e]? = some is[e] := by simp [hlt']
      rw [head_keeps hK (hd.head e _ (by omega) hi) (hS e _ hi) t (fun h => hw e (by omega) (by omega) ⟨_, hi, h⟩)]
      exact text_env hK hd hl hS e (by omega) (by omega) (fun j x y => hw j x (by omega))
    · have : a = b := by omega
      subst this; rfl

/-- The objects, somewhere in the head: those of the makers that are listed. -/
def Fits (is : List AIns) (S : Nat → St) (h1 : Nat) (listed : Array Bool) (σ : List Ob) : Prop :=
  ∃ x, x ≤ h1 ∧ σ = (S x).σ ∧ (∀ j, j < x → Makes is j → Ld listed j) ∧ ∀ j, x ≤ j → j < h1 → Makes is j → ¬ Ld listed j

theorem fits_set {listed : Array Bool} {σ : List Ob} {k : Nat} (hks : k < listed.size) (h : Fits is S h1 listed σ) (hk : ¬ (k < h1 ∧ Makes is k)) : Fits is S h1 (listed.setIfInBounds k true) σ := by
  obtain ⟨x, x1, x2, x3, x4⟩ := h
  refine ⟨x, x1, x2, fun j hj hm => (ld_set hks).2 (.inr (x3 j hj hm)), fun j hj hj1 hm hld => ?_⟩
  rcases (ld_set hks).1 hld with rfl | hld
  · exact hk ⟨hj1, hm⟩
  · exact x4 j hj hj1 hm hld

/-- A block that was drawn for the k-th instruction. -/
structure Drawn (is : List AIns) (h1 h2 : Nat) (g : G) (w0 w : World) (a : Act) (k b : Nat) : Prop where
  lo : h1 ≤ k
  hi : k < h2
  free : g.kind b = .free
  new : w0.heap.size ≤ b
  ins : ∃ d zs arr ty, is[k]? = some ⟨some d, .alloc zs, none⟩ ∧ a.tmps.getD d undef = .pointer (some ⟨b, 0, none⟩) ∧ w.heap[b]? = some (.cells arr ty (0, 0)) ∧ zs.length ≤ arr.size ∧
    ∀ (i : Nat) (c : C), zs[i]? = some c → ∃ u, arr[i]? = some u ∧ u.oneCell' = true ∧ ∀ g w Pr p, RepC g w Pr p c u

/-- Somewhere in the head. -/
structure Head (P : Program) (N : Nat) (ops : Array Oper) (is : List AIns) (p h1 h2 : Nat) (S : Nat → St) (g0 : G) (w0 : World) (Pr : Nat → Prop) (listed : Array Bool) (a : Act) (w : World)
    (g : G) (sc : St) (blk : Nat → Option Nat) : Prop where
  closed : Closed ops listed
  pre : ∀ j, j < p → Ld listed j
  none : ∀ k, h2 ≤ k → ¬ Ld listed k
  ext : Ext g0 w0 g w
  fr : Fr Pr g0 w0 g w
  inv : InvA N g w (fun b => Pr b ∨ ∃ k, blk k = some b) sc a
  σ : Fits is S h1 listed sc.σ
  env : ∀ t, (∀ (k : Nat) (i : AIns), h1 ≤ k → k < h2 → is[k]? = some i → i.dst ≠ some t) →
    (∃ k, k < h1 ∧ Ld listed k ∧ Writes is k t ∧ (∀ j, j < h1 → Ld listed j → Writes is j t → j ≤ k) ∧ sc.env.get t = (S (k + 1)).env.get t) ∨
    ((∀ j, j < h1 → Ld listed j → ¬ Writes is j t) ∧ sc.env.get t = (S 0).env.get t)
  pend : ∀ k b, blk k = some b → Drawn is h1 h2 g w0 w a k b
  all : ∀ k, h1 ≤ k → k < h2 → Ld listed k → ∃ b, blk k = some b
  inj : ∀ k k' b, blk k = some b → blk k' = some b → k = k'

/-- Behind the head: the text's order. -/
def Tail (N : Nat) (ops : Array Oper) (h2 : Nat) (S : Nat → St) (g0 : G) (w0 : World) (Pr : Nat → Prop) (listed : Array Bool) (a : Act) (w : World) (n : Nat) : Prop :=
  h2 ≤ n ∧ n ≤ ops.size ∧ (∀ j, Ld listed j ↔ j < n) ∧ Behind N g0 w0 Pr (S n) a w

theorem alloc_step {bd : Bd} {s s' : St} {d : Nat} {zs : List C} (h : stepIns F bd s ⟨some d, .alloc zs, none⟩ = some s') : s' = ⟨(d, .c (.b (.ptr s.σ.length 0))) :: s.env, s.σ ++ [.cells zs]⟩ := by
  simp only [stepIns, stepOp, Option.some.injEq] at h
  rw [← h]; rfl

/-- The head is done. -/
theorem head_done (hK : KeepF F) (hd : Dr ops is p h1 h2) (hl : is.length = ops.size) (hS : Text F bd is S) (hpr0 : ∀ b, Pr b → b < w0.heap.size) {listed : Array Bool} (hsz : listed.size = ops.size) {a : Act} {w : World} {g : G} {sc : St} {blk : Nat → Option Nat}
    (hH : Head P N ops is p h1 h2 S g0 w0 Pr listed a w g sc blk) (hall : ∀ k, k < h2 → Ld listed k) : Tail N ops h2 S g0 w0 Pr listed a w h2 := by
  have key : ∀ n, h1 + n ≤ h2 → ∃ g sc, Ext g0 w0 g w ∧ Fr Pr g0 w0 g w ∧ InvA N g w (fun b => Pr b ∨ ∃ k, h1 + n ≤ k ∧ blk k = some b) sc a ∧ sc.σ = (S (h1 + n)).σ ∧
      (∀ t, (∀ (k : Nat) (i : AIns), h1 + n ≤ k → k < h2 → is[k]? = some i → i.dst ≠ some t) → sc.env.get t = (S (h1 + n)).env.get t) ∧ (∀ k b, h1 + n ≤ k → blk k = some b → Drawn is h1 h2 g w0 w a k b) := by
    intro n
    induction n with
    | zero =>
      intro hle
      refine ⟨g, sc, hH.ext, hH.fr, hH.inv.less ?_, ?_, ?_, fun k b _ h => hH.pend k b h⟩
      · rintro b (h | ⟨k, _, h⟩)
        · exact .inl h
        · exact .inr ⟨k, h⟩
      · rw [Nat.add_zero]
        obtain ⟨x, x1, x2, x3, x4⟩ := hH.σ
        rw [x2]
        exact (text_eq hK hd hl hS x1 (Nat.le_refl _) (fun j hj hj1 hm => x4 j hj hj1 hm (hall j (by have := hd.le1; omega)))).symm
      · intro t ht
        simp only [Nat.add_zero] at ht ⊢
        rcases hH.env t ht with ⟨k, k1, k2, k3, k4, k5⟩ | ⟨k1, k2⟩
        · rw [k5]
          exact (text_env hK hd hl hS (t := t) (a := k + 1) h1 (by omega) (Nat.le_refl _) (fun j x y z => by have := k4 j y (hall j (by have := hd.le1; omega)) z; omega)).symm
        · rw [k2]
          exact (text_env hK hd hl hS (t := t) (a := 0) h1 (by omega) (Nat.le_refl _) (fun j x y z => k1 j y (hall j (by have := hd.le1; omega)) z)).symm
    | succ n ih =>
      intro hle
      obtain ⟨g, sc, x1, x2, x3, x4, x5, x6⟩ := ih (by omega)
      obtain ⟨b, hb⟩ := hH.all (h1 + n) (by omega) (by omega) (hall _ (by omega))
      have hD := x6 (h1 + n) b (Nat.le_refl _) hb
      obtain ⟨d, zs, arr, ty, y1, y2, y3, y4, y5⟩ := hD.ins
      have hst := alloc_step (hS _ _ y1)
      have hA := adopt_inv x3 hD.free y3 y4 (fun i c hi => by obtain ⟨u, z1, z2, z3⟩ := y5 i c hi; exact ⟨u, z1, z2, z3 _ _ _⟩) y2
      have hE : Ext g w (g.adopt b sc.σ.length) w := adopt_ext hD.free
      refine ⟨_, _, x1.trans hE, x2.trans ?_, hA.less ?_, ?_, ?_, ?_⟩
      · intro x hx
        have hne : x ≠ b := by have := hpr0 x hx; have := hD.new; omega
        exact ⟨rfl, by simp [G.adopt, G.withKind, G.withLoc, hne], rfl⟩
      · rintro x (hx | ⟨k, hk, hx⟩)
        · exact ⟨.inl hx, by have := hpr0 x hx; have := hD.new; omega⟩
        · refine ⟨.inr ⟨k, by omega, hx⟩, ?_⟩
          rintro rfl
          have := hH.inj _ _ _ hb hx
          omega
      · rw [show h1 + (n + 1) = h1 + n + 1 by omega, hst, ← x4]
      · intro t ht
        rw [show h1 + (n + 1) = h1 + n + 1 by omega, hst]
        show Env.get ((d, _) :: sc.env) t = Env.get ((d, _) :: _) t
        rw [env_get_cons, env_get_cons, x4]
        split
        · rfl
        · rename_i hne
          refine x5 t ?_
          intro k i hk1 hk2 hk3 hdst
          by_cases e : k = h1 + n
          · subst e; rw [y1] at hk3; cases hk3; simp only [Option.some.injEq] at hdst; exact hne hdst
          · exact ht k i (by omega) hk2 hk3 hdst
      · intro k b' hk hb'
        obtain ⟨z1, z2, z3, z4, z5⟩ := x6 k b' (by omega) hb'
        have hne : b' ≠ b := by
          rintro rfl
          have := hH.inj _ _ _ hb hb'
          omega
        exact ⟨z1, z2, by simpa [G.adopt, G.withKind, G.withLoc, hne] using z3, z4, z5⟩
  obtain ⟨g1, sc1, x1, x2, x3, x4, x5, x6⟩ := key (h2 - h1) (by have := hd.le1; omega)
  have e : h1 + (h2 - h1) = h2 := by have := hd.le1; omega
  rw [e] at x3 x4 x5 x6
  refine ⟨Nat.le_refl _, hd.le2, fun j => ⟨fun h => ?_, hall j⟩, g1, x1, x2, ?_⟩
  · exact Nat.lt_of_not_le fun h' => hH.none j h' h
  · have hA := x3.less (Pr2 := Pr) (fun b hb => .inl hb)
    refine ⟨by rw [← x4]; exact hA.inv, fun t => ?_, hA.size, hA.defers⟩
    rw [← x5 t (fun k i h3 h4 => by omega)]
    exact hA.env t

/-- What an instruction of the head finds. -/
theorem head_sees (hK : KeepF F) (hd : Dr ops is p h1 h2) (hl : is.length = ops.size) (hS : Text F bd is S) {listed : Array Bool} {a : Act} {w : World} {g : G} {sc : St} {blk : Nat → Option Nat}
    (hH : Head P N ops is p h1 h2 S g0 w0 Pr listed a w g sc blk) {k : Nat} {i : AIns} (hk : k < h1) (hi : is[k]? = some i) (hun : ¬ Ld listed k)
    (hrd : ∀ (o : Oper) (e : Edge), ops[k]? = some o → e ∈ o.after → Region.binds .any e = true → Ld listed e.on) {t : Nat} (ht : t ∈ i.touch) : sc.env.get t = (S k).env.get t := by
  have hpk : p ≤ k := Nat.le_of_not_lt fun h => hun (hH.pre k h)
  have hbefore : ∀ j, j < k → Writes is j t → Ld listed j := fun j hj ⟨i', hi', hw⟩ => by
    rcases Nat.lt_or_ge j p with hp | hp
    · exact hH.pre j hp
    · exact waits_ld hH.closed (hd.order j k i' i hp hj hk hi' hi (.inl ⟨t, hw, ht⟩)) hrd
  have hafter : ∀ j, k < j → j < h1 → Writes is j t → ¬ Ld listed j := fun j hj hj1 ⟨i', hi', hw⟩ hld =>
    hun (waits_ld hH.closed (hd.order k j i i' hpk hj hj1 hi hi' (.inr ⟨t, hw, ht⟩)) (fun o e => hH.closed j o e hld))
  have hfresh : ∀ (k' : Nat) (i' : AIns), h1 ≤ k' → k' < h2 → is[k']? = some i' → i'.dst ≠ some t := by
    intro k' i' x y z hdst
    obtain ⟨d, zs, rfl, hf⟩ := hd.fresh k' i' x y z
    simp only [Option.some.injEq] at hdst
    subst hdst
    exact hf k i (by omega) (by omega) hi ht
  rcases hH.env t hfresh with ⟨j, j1, j2, j3, j4, j5⟩ | ⟨j1, j2⟩
  · have hjk : j < k := by
      rcases Nat.lt_trichotomy j k with h | h | h
      · exact h
      · subst h; exact absurd j2 hun
      · exact absurd j2 (hafter j h j1 j3)
    rw [j5]
    exact (text_env hK hd hl hS (t := t) (a := j + 1) k (by omega) (by omega) (fun x x1 x2 x3 => by have := j4 x (by omega) (hbefore x x2 x3) x3; omega)).symm
  · rw [j2]
    exact (text_env hK hd hl hS (t := t) (a := 0) k (by omega) (by omega) (fun x x1 x2 x3 => j1 x (by omega) (hbefore x x2 x3) x3)).symm

theorem put_other {a : Act} {d : Option Tmp} {u : Value} {t : Nat} (h : d ≠ some t) : (a.put d u).tmps.getD t undef = a.tmps.getD t undef := by
  cases d with
  | none => rfl
  | some d =>
    simp only [Act.put, Array.getD_eq_getD_getElem?]
    rw [Array.getElem?_setIfInBounds_ne (fun e => h (by rw [e]))]

theorem chkAll_get : ∀ {os : List Oper} {is : List AIns}, chkAll P N ops os is = true → is.length = os.length ∧ ∀ (k : Nat) (o : Oper) (i : AIns), os[k]? = some o → is[k]? = some i → chkIns P N ops o i = true
  | [], [], _ => ⟨rfl, fun k o i h => by simp at h⟩
  | [], _ :: _, h => by simp [chkAll] at h
  | _ :: _, [], h => by simp [chkAll] at h
  | o :: os, i :: is, h => by
    simp only [chkAll, Bool.and_eq_true] at h
    obtain ⟨h1, h2⟩ := chkAll_get h.2
    refine ⟨by simp [h1], fun k x y hx hy => ?_⟩
    cases k with
    | zero => simp at hx hy; subst hx hy; exact h.1
    | succ k => exact h2 k x y (by simpa using hx) (by simpa using hy)

/-- One instruction more of the head: not an allocation. -/
theorem head_more (hd : Dr ops is p h1 h2) (hl : is.length = ops.size) (hS : Text F bd is S) {listed : Array Bool} (hsz : listed.size = ops.size) {a : Act} {w : World} {g : G} {sc : St} {blk : Nat → Option Nat}
    (hH : Head P N ops is p h1 h2 S g0 w0 Pr listed a w g sc blk) {k : Nat} {o : Oper} {i : AIns} (hk : k < h1) (ho : ops[k]? = some o) (hi : is[k]? = some i) (hun : ¬ Ld listed k)
    (hrd : ∀ (o : Oper) (e : Edge), ops[k]? = some o → e ∈ o.after → Region.binds .any e = true → Ld listed e.on) {s3 : St} (h3 : Fits is S h1 (listed.setIfInBounds k true) s3.σ)
    (hw : ∀ t ∈ i.writes, s3.env.get t = (S (k + 1)).env.get t) (hnw : ∀ t, t ∉ i.writes → s3.env.get t = sc.env.get t) {a' : Act} {w' : World} {u : Value} (ha' : a' = a.put i.dst u)
    (hB : Behind N g w (fun b => Pr b ∨ ∃ k, blk k = some b) s3 a' w') : ∃ g', Head P N ops is p h1 h2 S g0 w0 Pr (listed.setIfInBounds k true) a' w' g' s3 blk := by
  obtain ⟨g', e1, e2, e3⟩ := hB
  have hks : k < listed.size := by rw [hsz]; exact (Array.getElem?_eq_some_iff.1 ho).1
  refine ⟨g', ⟨?_, fun j hj => (ld_set hks).2 (.inr (hH.pre j hj)), ?_, hH.ext.trans e1, hH.fr.trans (fun b hb => e2 b (.inl hb)), e3, h3, ?_, ?_, ?_, hH.inj⟩⟩
  · intro j oj e hj h4 h5 h6
    rw [ld_set hks] at hj ⊢
    rcases hj with rfl | hj
    · exact .inr (hrd oj e h4 h5 h6)
    · exact .inr (hH.closed j oj e hj h4 h5 h6)
  · intro j hj h
    rw [ld_set hks] at h
    rcases h with rfl | h
    · have := hd.le1; omega
    · exact hH.none j hj h
  · intro t ht
    by_cases hwt : t ∈ i.writes
    · refine .inl ⟨k, hk, (ld_set hks).2 (.inl rfl), ⟨i, hi, hwt⟩, ?_, hw t hwt⟩
      intro j hj hld hwj
      rw [ld_set hks] at hld
      rcases hld with rfl | hld
      · exact Nat.le_refl _
      · refine Nat.le_of_not_lt fun hlt => ?_
        obtain ⟨i', hi', hw'⟩ := hwj
        have htt : t ∈ i.touch := by
          simp only [AIns.writes, List.mem_append] at hwt
          rcases hwt with hwt | hwt
          · have : t ∈ i.op.reads := by
              cases hop : i.op <;> simp only [hop, AOp.takes, List.not_mem_nil] at hwt
              rename_i m x
              cases m <;> simp_all [AOp.reads]
            simp [AIns.touch, this]
          · simp only [AIns.touch, List.mem_append]; exact .inr hwt
        exact hun (waits_ld hH.closed (hd.order k j i i' (Nat.le_of_not_lt fun h => hun (hH.pre k h)) hlt hj hi hi' (.inr ⟨t, hw', htt⟩)) (fun o e => hH.closed j o e hld))
    · rw [hnw t hwt]
      rcases hH.env t ht with ⟨j, j1, j2, j3, j4, j5⟩ | ⟨j1, j2⟩
      · refine .inl ⟨j, j1, (ld_set hks).2 (.inr j2), j3, ?_, j5⟩
        intro x hx hld hwx
        rw [ld_set hks] at hld
        rcases hld with rfl | hld
        · obtain ⟨i', hi', hw'⟩ := hwx
          rw [hi] at hi'; cases hi'
          exact absurd hw' hwt
        · exact j4 x hx hld hwx
      · refine .inr ⟨?_, j2⟩
        intro x hx hld hwx
        rw [ld_set hks] at hld
        rcases hld with rfl | hld
        · obtain ⟨i', hi', hw'⟩ := hwx
          rw [hi] at hi'; cases hi'
          exact absurd hw' hwt
        · exact j1 x hx hld hwx
  · intro j b hb
    obtain ⟨z1, z2, z3, z4, d, zs, arr, ty, y1, y2, y3, y4, y5⟩ := hH.pend j b hb
    obtain ⟨f1, f2, f3⟩ := e2 b (.inr ⟨j, hb⟩)
    refine ⟨z1, z2, by rw [f2]; exact z3, z4, d, zs, arr, ty, y1, ?_, by rw [f1]; exact y3, y4, y5⟩
    rw [ha', put_other, y2]
    intro hdst
    obtain ⟨d', zs', e, hf⟩ := hd.fresh j _ z1 z2 y1
    cases e
    exact hf k i (by omega) (by omega) hi (by simp [AIns.touch, hdst])
  · intro j x y hld
    rw [ld_set hks] at hld
    rcases hld with rfl | hld
    · omega
    · exact hH.all j x y hld

theorem put_any {g : G} {w : World} {Pr : Nat → Prop} {s : St} {a : Act} {d : Nat} {u : Value} (hA : InvA N g w Pr s a) (hd : d < N) : InvA N g w Pr (s.set (some d) (.c (.b .any))) (a.put (some d) u) :=
  ⟨hA.inv, set_env hA.env (fun x hx => ⟨by cases hx; rw [hA.size]; exact hd, trivial⟩), by rw [put_size]; exact hA.size, by rw [put_defers]; exact hA.defers⟩

/-- One instruction more of the head: an allocation. -/
theorem head_alloc (hd : Dr ops is p h1 h2) (hl : is.length = ops.size) {listed : Array Bool} (hsz : listed.size = ops.size) {a : Act} {w : World} {g : G} {sc : St} {blk : Nat → Option Nat}
    (hH : Head P N ops is p h1 h2 S g0 w0 Pr listed a w g sc blk) {k : Nat} {o : Oper} {d : Nat} {zs : List C} (hk1 : h1 ≤ k) (hk2 : k < h2) (ho : ops[k]? = some o) (hi : is[k]? = some ⟨some d, .alloc zs, none⟩) (hun : ¬ Ld listed k)
    (hrd : ∀ (o : Oper) (e : Edge), ops[k]? = some o → e ∈ o.after → Region.binds .any e = true → Ld listed e.on) (hdN : d < N) {arr : Array Value} {ty : TypeId} (hz1 : zs.length ≤ arr.size)
    (hz2 : ∀ (i : Nat) (c : C), zs[i]? = some c → ∃ u, arr[i]? = some u ∧ u.oneCell' = true ∧ ∀ g w Pr p, RepC g w Pr p c u) :
    ∃ g' sc' blk', Head P N ops is p h1 h2 S g0 w0 Pr (listed.setIfInBounds k true) (a.put (some d) (.pointer (some ⟨w.heap.size, 0, none⟩))) (w.alloc (.cells arr ty)) g' sc' blk' := by
  have hI := hH.inv
  have hks : k < listed.size := by rw [hsz]; exact (Array.getElem?_eq_some_iff.1 ho).1
  have hA := lone hI (.cells arr ty)
  have hE := lone_ext hI.inv (.cells arr ty)
  have hF := lone_fr hI.inv (.cells arr ty)
  have hnb : ∀ j b, blk j = some b → b ≠ w.heap.size := by
    intro j b hb e
    obtain ⟨d', zs', arr', ty', y1, y2, y3, y4, y5⟩ := (hH.pend j b hb).ins
    have := (Array.getElem?_eq_some_iff.1 y3).1
    omega
  refine ⟨g.noOwn w.heap.size, sc.set (some d) (.c (.b .any)), fun x => if x = k then some w.heap.size else blk x, ⟨?_, fun j hj => (ld_set hks).2 (.inr (hH.pre j hj)), ?_, hH.ext.trans hE, hH.fr.trans (fun b hb => hF b (.inl hb)), ?_, fits_set hks hH.σ (fun h => by omega), ?_, ?_, ?_, ?_⟩⟩
  · intro j oj e hj h4 h5 h6
    rw [ld_set hks] at hj ⊢
    rcases hj with rfl | hj
    · exact .inr (hrd oj e h4 h5 h6)
    · exact .inr (hH.closed j oj e hj h4 h5 h6)
  · intro j hj h
    rw [ld_set hks] at h
    rcases h with rfl | h
    · omega
    · exact hH.none j hj h
  · refine put_any ?_ hdN
    refine hA.less ?_
    rintro b (hb | ⟨j, hj⟩)
    · exact .inl (.inl hb)
    · split at hj
      · cases hj; exact .inr rfl
      · exact .inl (.inr ⟨j, hj⟩)
  · intro t ht
    have hne : d ≠ t := fun e => ht k _ hk1 hk2 hi (by rw [e])
    have hget : (sc.set (some d) (.c (.b .any))).env.get t = sc.env.get t := by
      simp only [St.set]; rw [env_get_cons, if_neg hne]
    rw [hget]
    rcases hH.env t ht with ⟨j, j1, j2, j3, j4, j5⟩ | ⟨j1, j2⟩
    · refine .inl ⟨j, j1, (ld_set hks).2 (.inr j2), j3, ?_, j5⟩
      intro x hx hld hwx
      rw [ld_set hks] at hld
      rcases hld with rfl | hld
      · omega
      · exact j4 x hx hld hwx
    · refine .inr ⟨?_, j2⟩
      intro x hx hld hwx
      rw [ld_set hks] at hld
      rcases hld with rfl | hld
      · omega
      · exact j1 x hx hld hwx
  · intro j b hb
    by_cases hjk : j = k
    · subst hjk
      simp only [if_true, Option.some.injEq] at hb
      subst hb
      refine ⟨hk1, hk2, lone_kind (g := g) (s := sc) hI.inv, hH.ext.size, d, zs, arr, ty, hi, ?_, alloc_new, hz1, hz2⟩
      rw [put_get a d _ (by rw [hI.size]; exact hdN), if_pos rfl]
    · rw [if_neg hjk] at hb
      obtain ⟨z1, z2, z3, z4, d', zs', arr', ty', y1, y2, y3, y4, y5⟩ := hH.pend j b hb
      refine ⟨z1, z2, z3, z4, d', zs', arr', ty', y1, ?_, ?_, y4, y5⟩
      · rw [put_other, y2]
        intro e
        obtain ⟨d2, zs2, e2, hf⟩ := hd.fresh j _ z1 z2 y1
        cases e2
        exact hf k _ hk2 (fun e => hjk e.symm) hi (by simp [AIns.touch, e])
      · rw [alloc_get b (Array.getElem?_eq_some_iff.1 y3).1]; exact y3
  · intro j x y hld
    rw [ld_set hks] at hld
    by_cases hjk : j = k
    · exact ⟨_, by rw [if_pos hjk]⟩
    · obtain ⟨b, hb⟩ := hH.all j x y (hld.resolve_left hjk)
      exact ⟨b, by rw [if_neg hjk]; exact hb⟩
  · intro j j' b hj hj'
    by_cases h : j = k
    · by_cases h' : j' = k
      · rw [h, h']
      · rw [if_pos h] at hj; rw [if_neg h'] at hj'
        cases hj
        exact absurd rfl (hnb j' _ hj')
    · by_cases h' : j' = k
      · rw [if_neg h] at hj; rw [if_pos h'] at hj'
        cases hj'
        exact absurd rfl (hnb j _ hj)
      · rw [if_neg h] at hj; rw [if_neg h'] at hj'
        exact hH.inj _ _ _ hj hj'

theorem zero_any {z : Value} {zs : List C} (h : chkZero z zs = true) : z.cells.size = zs.length ∧ ∀ (i : Nat) (c : C), zs[i]? = some c → ∃ u, z.cells[i]? = some u ∧ u.oneCell' = true ∧ ∀ g w Pr p, RepC g w Pr p c u := by
  refine ⟨(chkZero_ok (g := ⟨[], fun _ => .free, fun _ => none⟩) (w := default) (Pr := fun _ => False) h).1, fun i c hi => ?_⟩
  obtain ⟨u, k1, k2, k3⟩ := (chkZero_ok (g := ⟨[], fun _ => .free, fun _ => none⟩) (w := default) (Pr := fun _ => False) h).2 i c hi
  refine ⟨u, k1, k2, fun g w Pr p => ?_⟩
  obtain ⟨u', k1', k2', k3'⟩ := (chkZero_ok (g := g) (w := w) (Pr := Pr) h).2 i c hi
  rw [k1] at k1'; cases k1'
  exact k3' p

theorem wp_draw (hS : Sound P F) (hen : ∀ f args σ lo tr r, F f args σ lo tr = some r → entered P (fnOf f) = true) (hd : Dr ops is p h1 h2) (hl : is.length = ops.size) (hT : Text F bd is S)
    (hpr0 : ∀ b, Pr b → b < w0.heap.size) (hc : ∀ (k : Nat) (o : Oper) (i : AIns), ops[k]? = some o → is[k]? = some i → chkIns P N ops o i = true)
    {Q : Exit → Act → World → Prop} (hQ : ∀ a w, Behind N g0 w0 Pr (S ops.size) a w → Q .normal a w) :
    ∀ (fuel : Nat) (listed : Array Bool) (a : Act) (w : World), listed.size = ops.size → listed.toList.count false ≤ fuel →
      ((∃ g sc blk, Head P N ops is p h1 h2 S g0 w0 Pr listed a w g sc blk) ∨ ∃ n, Tail N ops h2 S g0 w0 Pr listed a w n) → wpAny P .any ops Q fuel listed a w := by
  have done : ∀ (listed : Array Bool) (a : Act) (w : World), listed.size = ops.size → (∀ k, k < ops.size → Ld listed k) →
      ((∃ g sc blk, Head P N ops is p h1 h2 S g0 w0 Pr listed a w g sc blk) ∨ ∃ n, Tail N ops h2 S g0 w0 Pr listed a w n) → Q .normal a w := by
    intro listed a w hsz hall hst
    have htail : ∃ n, Tail N ops h2 S g0 w0 Pr listed a w n := by
      rcases hst with ⟨g, sc, blk, hH⟩ | h
      · exact ⟨h2, head_done hS.2 hd hl hT hpr0 hsz hH (fun k hk => hall k (by have := hd.le2; omega))⟩
      · exact h
    obtain ⟨n, t1, t2, t3, t4⟩ := htail
    have hn : n = ops.size := by
      rcases Nat.lt_or_ge n ops.size with h | h
      · exact absurd ((t3 n).1 (hall n h)) (by omega)
      · omega
    subst hn
    exact hQ _ _ t4
  intro fuel
  induction fuel with
  | zero =>
    intro listed a w hsz hcnt hst
    have hall : ∀ k, k < ops.size → Ld listed k := by
      intro k hk
      have h0 : listed.toList.count false = 0 := by omega
      rw [List.count_eq_zero] at h0
      unfold Ld
      rw [Array.getD_eq_getD_getElem?]
      have hk' : k < listed.size := by omega
      simp only [hk', getElem?_pos, Option.getD_some]
      cases hb : listed[k] with
      | true => rfl
      | false => exact absurd (by rw [← hb]; simp) h0
    refine ⟨?_, done listed a w hsz hall hst⟩
    rw [List.eq_nil_iff_forall_not_mem]
    intro k hk
    rw [mem_ready] at hk
    obtain ⟨h1, o, ho, _⟩ := hk
    have hlt := (Array.getElem?_eq_some_iff.1 ho).1
    have := hall k hlt
    unfold Ld at this
    rw [Array.getD_eq_getD_getElem?] at this h1
    have hk' : k < listed.size := by omega
    simp only [hk', getElem?_pos, Option.getD_some] at this h1
    rw [this] at h1; cases h1
  | succ fuel ih =>
    intro listed a w hsz hcnt hst
    refine ⟨fun h => done listed a w hsz (ready_nil hd hsz h) hst, fun k hk => ?_⟩
    rw [mem_ready] at hk
    obtain ⟨hun0, o, ho, hrd0⟩ := hk
    have hlt := (Array.getElem?_eq_some_iff.1 ho).1
    have hks : k < listed.size := by omega
    have hun : ¬ Ld listed k := by
      unfold Ld
      rw [Array.getD_eq_getD_getElem?] at hun0 ⊢
      simp only [hks, getElem?_pos, Option.getD_some] at hun0 ⊢
      rw [hun0]; simp
    have hrd : ∀ (o : Oper) (e : Edge), ops[k]? = some o → e ∈ o.after → Region.binds .any e = true → Ld listed e.on := by
      intro o' e ho' he hb
      rw [ho] at ho'; cases ho'
      exact hrd0 e he hb
    have hsz' : (listed.setIfInBounds k true).size = ops.size := by simpa using hsz
    have hcnt' : (listed.setIfInBounds k true).toList.count false ≤ fuel := by
      have := cnt_set listed.toList k (by
        rw [Array.getD_eq_getD_getElem?] at hun0
        simp only [hks, getElem?_pos, Option.getD_some] at hun0
        simp [hks, hun0])
      rw [Array.toList_setIfInBounds]
      omega
    have hilt : k < is.length := by omega
    have hi : is[k]? = some is[k] := by simp [hilt]
    generalize is[k] = i at hi
    have hci := hc k o i ho hi
    -- the tail's one instruction
    have htail : ∀ n, Tail N ops h2 S g0 w0 Pr listed a w n → wpOp P ops Q k (wpAny P .any ops Q fuel (listed.setIfInBounds k true)) a w := by
      rintro n ⟨t1, t2, t3, g1, x1, x2, x3⟩
      have hkn : k = n := by
        have hge : n ≤ k := Nat.le_of_not_lt fun h => hun ((t3 k).2 h)
        rcases Nat.lt_or_ge n k with h | h
        · exact absurd ((t3 n).1 (waits_ld (fun k o e hk _ he hb => by
            rw [t3] at hk ⊢
            have := hd.back k o e (by assumption) he hb
            omega) (hd.tail k n (by have := hd.le0; have := hd.le1; omega) (by omega) hlt h) hrd)) (by omega)
        · omega
      subst hkn
      have hins := ins_okP hS hen hci (hT k i hi) x3 Q
      have hnext : ∀ a1 w1, Behind N g1 w Pr (S (k + 1)) a1 w1 → wpAny P .any ops Q fuel (listed.setIfInBounds k true) a1 w1 := by
        intro a1 w1 hB
        refine ih _ _ _ hsz' hcnt' (.inr ⟨k + 1, by omega, hlt, fun j => ?_, Behind.trans x1 x2 hB⟩)
        rw [ld_set hks, t3]
        omega
      simp only [wpOp, ho]
      split at hins
      · rename_i hw; simp only [hw, if_true]; exact .inl (Oper.wp_mono (fun a1 w1 h => hnext a1 w1 h.1) hins)
      · rename_i hw; simp only [hw]; exact hnext _ _ hins
    rcases hst with ⟨g, sc, blk, hH⟩ | ⟨n, hTl⟩
    case inr => exact htail n hTl
    by_cases hall : ∀ k, k < h2 → Ld listed k
    · exact htail h2 (head_done hS.2 hd hl hT hpr0 hsz hH hall)
    have hk2 : k < h2 := by
      refine Nat.lt_of_not_le fun hle => hall fun j hj => ?_
      rcases Nat.lt_or_ge j p with hp | hp
      · exact hH.pre j hp
      · exact waits_ld hH.closed (hd.tail k j hp hle hlt (by omega)) hrd
    by_cases hk1 : k < h1
    · have hsees : ∀ t ∈ i.touch, sc.env.get t = (S k).env.get t := fun t ht => head_sees hS.2 hd hl hT hH hk1 hi hun hrd ht
      obtain ⟨s3, k3, k4, k5, k6⟩ : ∃ s3, stepIns F bd sc i = some s3 ∧ Fits is S h1 (listed.setIfInBounds k true) s3.σ ∧ (∀ t ∈ i.writes, s3.env.get t = (S (k + 1)).env.get t) ∧ (∀ t, t ∉ i.writes → s3.env.get t = sc.env.get t) := by
        obtain ⟨x, x1, x2, x3, x4⟩ := hH.σ
        rcases hd.head k i hk1 hi with hh | hh
        · have hob : ∀ t l o ob, t ∈ i.op.reads → (sc.env.get t).down = .c (.b (.ptr l o)) → (S k).σ[l]? = some ob → sc.σ[l]? = some ob := by
            intro t l o ob ht hp hob
            have hl1 : l < sc.σ.length := by
              have hr := hH.inv.env t
              have hg : ∃ b o, g.loc[l]? = some (b, o) := by
                cases hv : sc.env.get t with
                | c x =>
                  rw [hv] at hp hr
                  cases x with
                  | b x =>
                    simp only [V.down, C.down, V.c.injEq, C.b.injEq] at hp
                    subst hp
                    obtain ⟨b, o', h, _⟩ := hr
                    exact ⟨b, o', h⟩
                  | _ => simp [V.down, C.down] at hp
                | _ => rw [hv] at hp; simp [V.down] at hp
              obtain ⟨b, o', h⟩ := hg
              have := (List.getElem?_eq_some_iff.mp h).1
              rw [hH.inv.inv.len] at this
              exact this
            rw [x2] at hl1 ⊢
            rcases Nat.le_total x k with hxk | hkx
            · rw [← text_sub hS.2 hd hl hT hxk (by omega) l hl1]; exact hob
            · rw [text_sub hS.2 hd hl hT hkx x1 l (List.getElem?_eq_some_iff.mp hob).1]; exact hob
          obtain ⟨k1, k2, s3, k3, k4, k5, k6⟩ := ins_same (s2 := sc) hh hob hsees (hT k i hi)
          refine ⟨s3, k3, ?_, k5, k6⟩
          rw [k4]
          refine fits_set hks ⟨x, x1, x2, x3, x4⟩ ?_
          rintro ⟨_, i', hi', hm⟩
          rw [hi] at hi'; cases hi'
          rw [head_or hh] at hm; cases hm
        · have hmk : Makes is k := ⟨i, hi, hh⟩
          have hlow : ∀ j, j < k → Makes is j → Ld listed j := by
            rintro j hj ⟨i', hi', hm⟩
            rcases Nat.lt_or_ge j p with hp | hp
            · exact hH.pre j hp
            · exact waits_ld hH.closed (hd.calls j k i' i hp hj hk1 hi' hi hm hh) hrd
          have hup : ∀ j, k < j → j < h1 → Makes is j → ¬ Ld listed j := by
            rintro j hj hj1 ⟨i', hi', hm⟩ hld
            exact hun (waits_ld hH.closed (hd.calls k j i i' (Nat.le_of_not_lt fun h => hun (hH.pre k h)) hj hj1 hi hi' hh hm) (fun o e => hH.closed j o e hld))
          have hxk : x ≤ k := Nat.le_of_not_lt fun h => hun (x3 k h hmk)
          have hσ : sc.σ = (S k).σ := by
            rw [x2]
            exact (text_eq hS.2 hd hl hT hxk (by omega) (fun j hj hj1 hm => x4 j hj (by omega) hm (hlow j hj1 hm))).symm
          obtain ⟨k1, k2, k2', s3, k3, k4, k5, k6⟩ := call_same (s2 := sc) hS.2 hh hσ hsees (hT k i hi)
          refine ⟨s3, k3, ⟨k + 1, by omega, k4, fun j hj hm => (ld_set hks).2 ?_, fun j hj hj1 hm hld => ?_⟩, k5, k6⟩
          · rcases Nat.lt_or_ge j k with h | h
            · exact .inr (hlow j h hm)
            · exact .inl (by omega)
          · rcases (ld_set hks).1 hld with rfl | hld
            · omega
            · exact hup j (by omega) hj1 hm hld
      have hins := ins_okP hS hen hci k3 hH.inv Q
      have hdst : o.dst = i.dst := by
        simp only [chkIns, Bool.and_eq_true, beq_iff_eq] at hci
        exact hci.1.1.1
      have hnext : ∀ a1 w1, Behind N g w (fun b => Pr b ∨ ∃ k, blk k = some b) s3 a1 w1 → (∃ u, a1 = a.put o.dst u) → wpAny P .any ops Q fuel (listed.setIfInBounds k true) a1 w1 := by
        rintro a1 w1 hB ⟨u, hu⟩
        obtain ⟨g', hH'⟩ := head_more hd hl hT hsz hH hk1 ho hi hun hrd k4 k5 k6 (by rw [hu, hdst]) hB
        exact ih _ _ _ hsz' hcnt' (.inl ⟨g', s3, blk, hH'⟩)
      simp only [wpOp, ho]
      split at hins
      · rename_i hw; simp only [hw, if_true]; exact .inl (Oper.wp_mono (fun a1 w1 h => hnext a1 w1 h.1 h.2) hins)
      · rename_i hw; simp only [hw]; exact hnext _ _ hins ⟨_, rfl⟩
    · obtain ⟨d, zs, rfl, hf⟩ := hd.fresh k i (by omega) hk2 hi
      simp only [chkIns, Bool.and_eq_true, beq_iff_eq] at hci
      obtain ⟨⟨⟨c1, c2⟩, c3⟩, c4⟩ := hci
      rw [c1] at c2
      have hdN : d < N := of_decide_eq_true c2
      have hg : o.guard = none := by
        cases hg : o.guard with
        | none => rfl
        | some p => rw [hg] at c4; simp at c4
      simp only [chkOp] at c3
      split at c3
      case h_2 => cases c3
      rename_i t hop
      split at c3
      case h_2 => cases c3
      rename_i inf hinf
      split at c3
      case h_2 => cases c3
      rename_i z hz
      obtain ⟨z1, z2⟩ := zero_any c3
      have hrun : (execOp a.eval o).run P w = .ok (.value (.pointer (some ⟨w.heap.size, 0, none⟩))) (w.alloc (.cells z.cells t)) := by
        simp [execOp, hop, Instr.alloc, zeroValue, typeInfo, hinf, hz, newVar, newRow]
      obtain ⟨g', sc', blk', hH'⟩ := head_alloc (ty := t) hd hl hsz hH (by omega) hk2 ho hi hun hrd hdN (by omega) z2
      have hw : Region.wanted o (yielded ops a.tmps) = true := by simp [Region.wanted, hg]
      simp only [wpOp, ho, hw, if_true, Oper.wp, hrun, Oper.upon]
      refine .inl ?_
      rw [c1]
      exact ih _ _ _ hsz' hcnt' (.inl ⟨g', sc', blk', hH'⟩)

/-- The moves that come first. -/
theorem wp_pre (hS : Sound P F) (hen : ∀ f args σ lo tr r, F f args σ lo tr = some r → entered P (fnOf f) = true) (hd : Dr ops is p h1 h2) (hl : is.length = ops.size) (hT : Text F bd is S)
    (hpr0 : ∀ b, Pr b → b < w0.heap.size) (hc : ∀ (k : Nat) (o : Oper) (i : AIns), ops[k]? = some o → is[k]? = some i → chkIns P N ops o i = true) (hns : Region.noSelect ops = true)
    {Q : Exit → Act → World → Prop} (hQ : ∀ a w, Behind N g0 w0 Pr (S ops.size) a w → Q .normal a w) (hQp : ∀ c a a' w, Q (.panic c) a w → Q (.panic c) a' w) :
    ∀ (n i : Nat) (listed : Array Bool) (a : Act), i + n = p → listed.size = ops.size → (∀ j, Ld listed j ↔ j < i) → preOk ops is n i listed = true → InvA N g0 w0 Pr (S i) a →
      ∀ fuel, listed.toList.count false ≤ fuel → wpAny P .any ops Q fuel listed a w0 := by
  intro n
  induction n with
  | zero =>
    intro i listed a hip hsz hld _ hA fuel hcnt
    have hip' : i = p := by omega
    subst hip'
    refine wp_draw hS hen hd hl hT hpr0 hc hQ fuel listed a w0 hsz hcnt (.inl ⟨g0, S i, fun _ => none, ?_⟩)
    refine ⟨fun k o e h ho he hb => ?_, fun j hj => (hld j).2 hj, fun k hk h => ?_, .refl _ _, .refl _ _ _, hA.less (fun b hb => ?_), ⟨i, hd.le0, rfl, fun j hj _ => (hld j).2 hj, fun j hj _ _ h => by have := (hld j).1 h; omega⟩, fun t _ => ?_, fun k b hb => (by cases hb), fun k h3 _ h => ?_, fun _ _ _ hb => (by cases hb)⟩
    · rw [hld] at h ⊢
      have := hd.back k o e ho he hb
      omega
    · rw [hld] at h
      have := hd.le0; have := hd.le1
      omega
    · rcases hb with hb | ⟨k, hb⟩
      · exact hb
      · cases hb
    · -- the last writer, if any
      have key : ∀ m, m ≤ i → (∃ k, k < h1 ∧ k < m ∧ Writes is k t ∧ (∀ j, j < m → Writes is j t → j ≤ k) ∧ (S m).env.get t = (S (k + 1)).env.get t) ∨ ((∀ j, j < m → ¬ Writes is j t) ∧ (S m).env.get t = (S 0).env.get t) := by
        intro m
        induction m with
        | zero => exact fun _ => .inr ⟨fun j hj => by omega, rfl⟩
        | succ m ih =>
          intro hm
          have := hd.le0
          by_cases hw : Writes is m t
          · exact .inl ⟨m, by omega, by omega, hw, fun j hj _ => by omega, rfl⟩
          · have he := text_env hS.2 hd hl hT (t := t) (a := m) (m + 1) (by omega) (by omega) (fun j x y hj => hw (by rw [show m = j by omega]; exact hj))
            rcases ih (by omega) with ⟨k, k1, k2, k3, k4, k5⟩ | ⟨k1, k2⟩
            · refine .inl ⟨k, k1, by omega, k3, fun j hj hwj => ?_, by rw [he, k5]⟩
              by_cases e : j = m
              · subst e; exact absurd hwj hw
              · exact k4 j (by omega) hwj
            · refine .inr ⟨fun j hj hwj => ?_, by rw [he, k2]⟩
              by_cases e : j = m
              · subst e; exact hw hwj
              · exact k1 j (by omega) hwj
      rcases key i (Nat.le_refl _) with ⟨k, k1, k2, k3, k4, k5⟩ | ⟨k1, k2⟩
      · exact .inl ⟨k, k1, (hld k).2 k2, k3, fun j _ hj hwj => k4 j ((hld j).1 hj) hwj, k5⟩
      · exact .inr ⟨fun j _ hj => k1 j ((hld j).1 hj), k2⟩
    · rw [hld] at h
      have := hd.le0
      omega
  | succ n ih =>
    intro i listed a hip hsz hld hpre hA fuel hcnt
    simp only [preOk, Bool.and_eq_true] at hpre
    obtain ⟨⟨⟨b1, b2⟩, b3⟩, b4⟩ := hpre
    split at b1
    case h_2 => cases b1
    rename_i o d x ho hi
    simp only [Bool.and_eq_true, Option.isNone_iff_eq_none] at b1
    obtain ⟨b5, b6⟩ := b1
    split at b5
    case h_2 => cases b5
    rename_i y hop
    have hlt := (Array.getElem?_eq_some_iff.1 ho).1
    have hks : i < listed.size := by omega
    have hci := hc i o _ ho hi
    have hun : ¬ Ld listed i := fun h => by have := (hld i).1 h; omega
    have hf0 : listed[i]? = some false := by
      unfold Ld at hun
      rw [Array.getD_eq_getD_getElem?] at hun
      simp only [hks, getElem?_pos, Option.getD_some] at hun ⊢
      simpa using hun
    obtain ⟨fuel, rfl⟩ : ∃ m, fuel = m + 1 := by
      refine ⟨fuel - 1, ?_⟩
      have h1 := cnt_set listed.toList i (by simpa using hf0)
      omega
    have hwant : Region.wanted o (yielded ops a.tmps) = true := by simp [Region.wanted, b6]
    have hrun : ∀ w, (execOp a.eval o).run P w = .ok (.value (a.eval y)) w := fun w => by simp only [execOp, hop]; rfl
    refine wpAny_take (v := a.eval y) ho hns b2 b3 (fun c a w h => hQp c _ a w h) (.inl ⟨hwant, hrun⟩) ?_
    -- the state behind it
    have hst := hT i _ hi
    simp only [stepIns, stepOp, Option.some.injEq] at hst
    simp only [chkIns, Bool.and_eq_true, beq_iff_eq] at hci
    obtain ⟨⟨⟨c1, c2⟩, c3⟩, c4⟩ := hci
    simp only [chkOp, hop] at c3
    have hA' : InvA N g0 w0 Pr (S (i + 1)) (a.put o.dst (a.eval y)) := by
      rw [← hst]
      refine ⟨by rw [set_st]; exact hA.inv, ?_, by rw [put_size]; exact hA.size, by rw [put_defers]; exact hA.defers⟩
      rw [c1]
      refine set_env hA.env (fun x' hx' => ⟨?_, opd_rd hA.env c3 _⟩)
      subst hx'
      rw [c1] at c2
      rw [hA.size]
      exact of_decide_eq_true c2
    refine ih (i + 1) _ _ (by omega) (by simpa using hsz) (fun j => ?_) b4 hA' fuel ?_
    · rw [ld_set hks, hld]; omega
    · have h1 := cnt_set listed.toList i (by simpa using hf0)
      rw [Array.toList_setIfInBounds]
      omega

theorem region_draw_ok {g : G} {w : World} {s s' : St} {a : Act} (hm : P.follows .mixedOrders = true) (hS : Sound P F) (hen : ∀ f args σ lo tr r, F f args σ lo tr = some r → entered P (fnOf f) = true) {id : Nat} {keep : List Nat}
    (hc : chkAll P N ops ops.toList is = true) (hd : drawOk ops is = true) (hv : stepAll F bd s is = some s') (hA : InvA N g w Pr s a) :
    (Code.region id ops true).wp P (fun e a' w' => e = .normal ∧ Behind N g w Pr { s' with env := s'.env.keep keep } a' w') a w := by
  have hd' : ∃ p, drawTry p ops is = true := by
    simp only [drawOk, Bool.or_eq_true] at hd
    exact hd.elim (fun h => ⟨_, h⟩) (fun h => ⟨_, h⟩)
  obtain ⟨p, hd'⟩ := hd'
  obtain ⟨hns, hpre, h1, h2, hD⟩ := drawTry_dr hd'
  obtain ⟨S, S0, Sn, hT⟩ := text_of is s s' hv
  obtain ⟨hl, hci⟩ := chkAll_get hc
  have hl' : is.length = ops.size := by simpa using hl
  refine wp_region_any hm ?_
  have hw : Ext g w g { w with drawn := w.drawn + 1 } := ⟨fun _ _ h => h, fun _ _ h => h, Nat.le_refl _, fun _ arr _ _ h => ⟨arr, h, rfl⟩, rfl, rfl, rfl⟩
  have hf : Fr Pr g w g { w with drawn := w.drawn + 1 } := fun _ _ => ⟨rfl, rfl, rfl⟩
  have hA' : InvA N g { w with drawn := w.drawn + 1 } Pr s a := by
    refine ⟨⟨hA.inv.len, fun l o h => RepOb.frame hw (fun _ => Keep.refl _ _) (fun b hb => ⟨rfl, hb⟩) (hA.inv.ob l o h), hA.inv.lt, hA.inv.pr, hA.inv.gl.mono hw.st⟩, hA.env.ext hw (fun _ _ => Keep.refl _ _), hA.size, hA.defers⟩
  refine wp_pre (g0 := g) (w0 := { w with drawn := w.drawn + 1 }) (Pr := Pr) (N := N) hS hen hD hl' hT (fun b hb => (hA'.inv.pr b hb).1) (fun k o i ho hi => hci k o i (by simpa using ho) hi) hns ?_ (fun c a a' w h => (by cases h.1)) p 0 _ a (by omega) (by simp) (fun j => ?_) hpre (by rw [S0]; exact hA') _ (by simp)
  · rintro a1 w1 hB
    refine ⟨rfl, ?_⟩
    rw [← hl', Sn] at hB
    obtain ⟨g', e1, e2, e3⟩ := hB
    exact ⟨g', hw.trans e1, hf.trans e2, keep_ok e3⟩
  · simp only [Ld, Array.getD_eq_getD_getElem?, Array.getElem?_replicate, Nat.not_lt_zero, iff_false]
    split <;> simp
end
end Go.Proofs.Ytjkhkblabhaimaa.Am

