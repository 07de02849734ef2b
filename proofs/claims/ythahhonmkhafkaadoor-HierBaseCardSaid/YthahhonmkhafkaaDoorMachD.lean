/- The abstract machine, part D. What each part holds stands ahead of it. -/
import Derived.Test.YthahhonmkhafkaaDoorMachC
/- Instructions, regions, code: what the abstract machine does the model does. -/
namespace Go.Proofs.YthahhonmkhafkaaDoor.Am
set_option linter.unusedSimpArgs false
set_option linter.unusedVariables false
set_option linter.unusedSectionVars false
open Go
set_option linter.unusedVariables false

def AExit.out : AExit → Exit
  | .normal => .normal
  | .exit i => .exit i
  | .ret => .ret

/-- All that is kept of a state. -/
structure InvA (N : Nat) (g : G) (w : World) (Pr : Nat → Prop) (s : St) (a : Act) : Prop where
  inv : Inv g w Pr s.σ
  env : EnvOk g w Pr s.env a
  size : a.tmps.size = N
  defers : a.defers = []

/-- A state behind another one. -/
def Behind (N : Nat) (g : G) (w : World) (Pr : Nat → Prop) (s' : St) (a' : Act) (w' : World) : Prop := ∃ g', Ext g w g' w' ∧ Fr Pr g w g' w' ∧ InvA N g' w' Pr s' a'

/-- Which instruction stands for which operation. -/
def chkIns (P : Program) (N : Nat) (ops : Array Oper) (o : Oper) (i : AIns) : Bool :=
  o.dst == i.dst && (match o.dst with | some d => decide (d < N) | none => true) && chkOp P o i.op &&
  (match o.guard, i.guard with
    | none, none => true
    | some (j, want), some (t, want') => want == want' && ((ops[j]?).bind (·.dst)) == some t && decide (t < N)
    | _, _ => false)

section
variable {P : Program} {N : Nat} {g g' : G} {w w' : World} {Pr : Nat → Prop} {s s' : St} {a a' : Act} {F : Oracle} {bd : Bd}

theorem Behind.refl (h : InvA N g w Pr s a) : Behind N g w Pr s a w := ⟨g, .refl _ _, .refl _ _ _, h⟩
theorem Behind.trans {g1 : G} {w1 : World} {s2 : St} {a2 : Act} {w2 : World} (h1 : Ext g w g1 w1) (h2 : Fr Pr g w g1 w1) (h : Behind N g1 w1 Pr s2 a2 w2) : Behind N g w Pr s2 a2 w2 := by
  obtain ⟨g2, e1, e2, e3⟩ := h
  exact ⟨g2, h1.trans e1, h2.trans e2, e3⟩

theorem put_size (a : Act) (d : Option Tmp) (v : Value) : (a.put d v).tmps.size = a.tmps.size := by cases d <;> simp [Act.put]
theorem put_defers (a : Act) (d : Option Tmp) (v : Value) : (a.put d v).defers = a.defers := by cases d <;> simp [Act.put]
theorem put_get (a : Act) (d : Nat) (v : Value) (h : d < a.tmps.size) (t : Nat) : (a.put (some d) v).tmps.getD t undef = if t = d then v else a.tmps.getD t undef := by
  simp only [Act.put, Array.getD_eq_getD_getElem?]
  by_cases e : t = d
  · subst e; simp [h]
  · rw [if_neg e, Array.getElem?_setIfInBounds_ne (fun x => e x.symm)]

theorem set_env {d : Option Tmp} {v : V} {u : Value} (hE : EnvOk g w Pr s.env a) (hd : ∀ x, d = some x → x < a.tmps.size ∧ RepV g w Pr (.tmp x) v u) : EnvOk g w Pr (s.set d v).env (a.put d u) := by
  cases d with
  | none => exact hE
  | some x =>
    obtain ⟨h1, h2⟩ := hd x rfl
    intro t
    simp only [St.set]
    rw [env_get_cons, put_get a x u h1]
    by_cases e : x = t
    · subst e; simp only [if_true]; exact h2
    · rw [if_neg e, if_neg (fun h => e h.symm)]; exact hE t

theorem post_behind {o : Oper} {v : V} (hA : InvA N g w Pr s a) (hd : ∀ d, o.dst = some d → d < N) (h : Post o a g w Pr s' v a' w') : Behind N g w Pr (s'.set o.dst v) a' w' := by
  obtain ⟨g', u, rfl, q, x1, x2, x3, x4, x5⟩ := h
  refine ⟨g', x1, x2, ⟨?_, ?_, ?_, ?_⟩⟩
  · cases hdst : o.dst <;> exact x3
  · exact set_env x4 (fun d hd' => ⟨by rw [hA.size]; exact hd d hd', x5 d hd'⟩)
  · rw [put_size]; exact hA.size
  · rw [put_defers]; exact hA.defers

theorem skip_behind {d : Option Tmp} (hA : InvA N g w Pr s a) (hd : ∀ x, d = some x → x < N) : InvA N g w Pr (s.set d (.tup [])) (a.put d undef) := by
  refine ⟨?_, set_env hA.env (fun x hx => ⟨by rw [hA.size]; exact hd x hx, ⟨#[], rfl, by simp⟩⟩), by rw [put_size]; exact hA.size, by rw [put_defers]; exact hA.defers⟩
  cases d <;> exact hA.inv

/-- One instruction. -/
theorem ins_okP (hS : Sound P F) (hen : ∀ f args σ lo tr r, F f args σ lo tr = some r → entered P (fnOf f) = true) {ops : Array Oper} {o : Oper} {i : AIns} (hc : chkIns P N ops o i = true)
    (hv : stepIns F bd s i = some s') (hA : InvA N g w Pr s a) (Q : Exit → Act → World → Prop) :
    if Region.wanted o (yielded ops a.tmps) then o.wp P a w (fun a' w' => Behind N g w Pr s' a' w' ∧ ∃ u, a' = a.put o.dst u) Q else Behind N g w Pr s' (a.put o.dst undef) w := by
  simp only [chkIns, Bool.and_eq_true, beq_iff_eq] at hc
  obtain ⟨⟨⟨h1, h2⟩, h3⟩, h4⟩ := hc
  have hd : ∀ d, o.dst = some d → d < N := by
    intro d hd
    rw [hd] at h2
    exact of_decide_eq_true h2
  have hgo : ∀ {v : V} {s1 : St}, stepOp F bd s i.op = some (v, s1) → s' = s1.set i.dst v → o.wp P a w (fun a' w' => Behind N g w Pr s' a' w' ∧ ∃ u, a' = a.put o.dst u) Q := by
    intro v s1 hst he
    refine Oper.wp_mono ?_ (op_ok hS hen h3 hst hA.inv hA.env Q)
    intro a' w' hp
    refine ⟨?_, ?_⟩
    · rw [he, ← h1]
      exact post_behind hA hd hp
    · obtain ⟨_, u, e, _⟩ := hp; exact ⟨u, e⟩
  unfold stepIns at hv
  split at hv
  · rename_i hg
    rw [hg] at h4
    have hog : o.guard = none := by
      cases ho : o.guard with
      | none => rfl
      | some p => rw [ho] at h4; simp at h4
    simp only [Region.wanted, hog, if_true]
    split at hv
    · rename_i v s1 hst
      cases hv
      exact hgo hst rfl
    · cases hv
  · rename_i t want hg
    rw [hg] at h4
    cases ho : o.guard with
    | none => rw [ho] at h4; simp at h4
    | some p =>
      obtain ⟨j, want'⟩ := p
      rw [ho] at h4
      simp only [Bool.and_eq_true, beq_iff_eq, decide_eq_true_eq] at h4
      obtain ⟨⟨rfl, h5⟩, h6⟩ := h4
      split at hv
      case h_3 => cases hv
      case h_2 =>
        rename_i vs hb
        cases hv
        have he := hA.env t
        rw [hb] at he
        obtain ⟨arr, he, _⟩ := he
        have ht : t < a.tmps.size := by rw [hA.size]; exact h6
        have hy : yielded ops a.tmps j = none := by
          simp only [yielded, h5, Option.bind_some]
          simp [Array.getD_eq_getD_getElem?, ht] at he
          simp [ht, he]
        have hne2 : ∀ b : Bool, ((none : Option Bool) == some b) = false := fun _ => rfl
        simp only [Region.wanted, ho, hy, hne2, Bool.false_eq_true, if_false]
        rw [← h1]
        exact Behind.refl (skip_behind hA hd)
      rename_i b hb
      have he := hA.env t
      rw [hb] at he
      have hbool := rep_bool he
      have hy : yielded ops a.tmps j = some b := by
        have ht : t < a.tmps.size := by rw [hA.size]; exact h6
        simp only [yielded, h5, Option.bind_some]
        simp [Array.getD_eq_getD_getElem?, ht] at hbool
        simp [ht, hbool]
      simp only [Region.wanted, ho, hy]
      by_cases hw : b = want'
      · subst hw
        simp only [BEq.rfl, cond_true, if_true] at hv ⊢
        split at hv
        · rename_i v s1 hst
          cases hv
          exact hgo hst rfl
        · cases hv
      · have hne : (b == want') = false := by simpa using hw
        have hne2 : ((some b : Option Bool) == some want') = false := by simpa using hw
        simp only [hne, cond_false, hne2, Bool.false_eq_true, if_false] at hv ⊢
        cases hv
        rw [← h1]
        exact Behind.refl (skip_behind hA hd)

theorem ins_ok (hS : Sound P F) (hen : ∀ f args σ lo tr r, F f args σ lo tr = some r → entered P (fnOf f) = true) {ops : Array Oper} {o : Oper} {i : AIns} (hc : chkIns P N ops o i = true)
    (hv : stepIns F bd s i = some s') (hA : InvA N g w Pr s a) (Q : Exit → Act → World → Prop) :
    if Region.wanted o (yielded ops a.tmps) then o.wp P a w (Behind N g w Pr s') Q else Behind N g w Pr s' (a.put o.dst undef) w := by
  have := ins_okP hS hen hc hv hA Q
  split
  · rename_i h; rw [if_pos h] at this; exact Oper.wp_mono (fun _ _ h => h.1) this
  · rename_i h; rw [if_neg h] at this; exact this

def chkAll (P : Program) (N : Nat) (ops : Array Oper) : List Oper → List AIns → Bool
  | [], [] => true
  | o :: os, i :: is => chkIns P N ops o i && chkAll P N ops os is
  | _, _ => false

/-- A region in the text's order. -/
theorem all_ok (hS : Sound P F) (hen : ∀ f args σ lo tr r, F f args σ lo tr = some r → entered P (fnOf f) = true) {ops : Array Oper} {Q : Exit → Act → World → Prop} :
    ∀ (os : List Oper) (is : List AIns) (k : Nat) (s s' : St) (g : G) (a : Act) (w : World), chkAll P N ops os is = true → (∀ j, os[j]? = ops[k + j]?) → stepAll F bd s is = some s' → InvA N g w Pr s a →
      (∀ a' w', Behind N g w Pr s' a' w' → Q .normal a' w') → wpOps P ops Q (List.range' k os.length) a w
  | [], is, k, s, s', g, a, w, hc, hk, hv, hA, hQ => by
    cases is with
    | nil =>
      simp only [stepAll, Option.some.injEq] at hv
      subst hv
      exact hQ _ _ (Behind.refl hA)
    | cons i is => simp [chkAll] at hc
  | o :: os, is, k, s, s', g, a, w, hc, hk, hv, hA, hQ => by
    cases is with
    | nil => simp [chkAll] at hc
    | cons i is =>
      simp only [chkAll, Bool.and_eq_true] at hc
      simp only [stepAll] at hv
      split at hv
      case h_2 => cases hv
      rename_i s1 hs1
      have ho : ops[k]? = some o := by have := hk 0; simpa using this.symm
      have hins := ins_ok hS hen hc.1 hs1 hA Q
      have hrest : ∀ a1 w1, Behind N g w Pr s1 a1 w1 → wpOps P ops Q (List.range' (k + 1) os.length) a1 w1 := by
        intro a1 w1 ⟨g1, e1, e2, e3⟩
        refine all_ok hS hen os is (k + 1) s1 s' g1 a1 w1 hc.2 (fun j => ?_) hv e3 (fun a2 w2 h2 => hQ _ _ (Behind.trans e1 e2 h2))
        have := hk (j + 1)
        simpa [Nat.add_assoc, Nat.add_comm 1 j] using this
      rw [List.length_cons, List.range'_succ, wpOps_cons]
      simp only [wpOp, ho]
      split at hins
      · rename_i hw; simp only [hw, if_true]; exact .inl (Oper.wp_mono hrest hins)
      · rename_i hw; simp only [hw]; exact hrest _ _ hins

theorem keep_get : ∀ (ts : List Nat) (e : Env) (n : Nat), (e.keep ts).get n = e.get n ∨ (e.keep ts).get n = .c (.b .any)
  | [], e, n => .inr rfl
  | t :: ts, e, n => by
    simp only [Env.keep]
    rw [env_get_cons]
    split
    · subst_vars; exact .inl rfl
    · exact keep_get ts e n

theorem keep_ok {ts : List Nat} (hA : InvA N g w Pr s a) : InvA N g w Pr { s with env := s.env.keep ts } a := by
  refine ⟨hA.inv, fun t => ?_, hA.size, hA.defers⟩
  rcases keep_get ts s.env t with h | h
  · rw [h]; exact hA.env t
  · rw [h]; trivial

theorem range_eq (n : Nat) : List.range n = List.range' 0 n := List.range_eq_range'

theorem region_ok (hS : Sound P F) (hen : ∀ f args σ lo tr r, F f args σ lo tr = some r → entered P (fnOf f) = true) {id : Nat} {ops : Array Oper} {is : List AIns} {keep : List Nat}
    (hc : chkAll P N ops ops.toList is = true) (hv : stepAll F bd s is = some s') (hA : InvA N g w Pr s a) :
    (Code.region id ops false).wp P (fun e a' w' => e = .normal ∧ Behind N g w Pr { s' with env := s'.env.keep keep } a' w') a w := by
  refine wp_region ?_
  rw [range_eq]
  have := all_ok (Q := fun e a' w' => e = .normal ∧ Behind N g w Pr { s' with env := s'.env.keep keep } a' w') hS hen ops.toList is 0 s s' g a w hc (fun j => by simp) hv hA
    (fun a' w' ⟨g', e1, e2, e3⟩ => ⟨rfl, g', e1, e2, keep_ok e3⟩)
  simpa using this
end
end Go.Proofs.YthahhonmkhafkaaDoor.Am

/- Instructions whose order does not count: what they read, what they write. -/
namespace Go.Proofs.YthahhonmkhafkaaDoor.Am
set_option linter.unusedSimpArgs false
set_option linter.unusedVariables false
set_option linter.unusedSectionVars false
open Go
set_option linter.unusedVariables false
set_option linter.unusedSimpArgs false

def Opd.tmps : Opd → List Nat
  | .t n => [n]
  | .k _ => []

def oTmps : Option Opd → List Nat
  | none => []
  | some x => x.tmps

/-- What it reads. -/
def AOp.reads : AOp → List Nat
  | .mov _ x => x.tmps
  | .pick c a b => c.tmps ++ a.tmps ++ b.tmps
  | .build _ ps => ps.flatMap fun p => p.2.2.tmps
  | .bsl _ _ _ _ ps => ps.flatMap fun p => p.2.tmps
  | .ld _ _ x => x.tmps
  | .bin _ x y => x.tmps ++ y.tmps
  | .eq _ _ _ x y => x.tmps ++ y.tmps
  | .un _ x => x.tmps
  | .conv _ x => x.tmps
  | .fa _ x => x.tmps
  | .fld _ _ x => x.tmps
  | .ia _ x i => x.tmps ++ i.tmps
  | .ixs x i => x.tmps ++ i.tmps
  | .slc _ _ x lo hi => x.tmps ++ oTmps lo ++ oTmps hi
  | .slcs x lo hi => x.tmps ++ oTmps lo ++ oTmps hi
  | .mks _ _ _ _ l c => l.tmps ++ c.tmps
  | .len _ x => x.tmps
  | .nilc x => x.tmps
  | .appn _ _ x y => x.tmps ++ y.tmps
  | .ga _ _ x => x.tmps
  | .callp _ xs => xs.flatMap Opd.tmps
  | .callb _ xs => xs.flatMap Opd.tmps
  | _ => []

/-- Through what it looks into objects. -/
def AOp.looks : AOp → List Nat
  | .ld _ _ x => x.tmps
  | _ => []

/-- From where it takes the right to grow. -/
def AOp.takes : AOp → List Nat
  | .mov .own x => x.tmps
  | _ => []

def notPtr : Opd → Bool
  | .k (.c (.b (.ptr _ _))) => false
  | _ => true

/-- May it stand in a head? -/
def headOp : AOp → Bool
  | .mov .cp _ | .mov .own _ | .pick .. | .build .. | .bsl .own .. | .bin .. | .eq .. | .un .. | .conv .. | .fa .. | .fld .. | .ia .. | .ixs .. | .slc .cp .. | .slcs .. | .mks .own .. | .len 0 _ | .len 1 _ | .callb .. | .nilc _ | .ga .. | .appn .. => true
  | .ld .cp _ x => notPtr x
  | _ => false

/-- A call that leaves all that stands: it may make objects. -/
def headCall : AOp → Bool
  | .callp .. | .bsl .arr .. => true
  | _ => false

theorem head_or {op : AOp} (h : headOp op = true) : headCall op = false := by
  cases op <;> first | rfl | (simp [headOp] at h) | skip
  rename_i m _ _ _ _
  cases m <;> simp_all [headOp, headCall]

def AIns.writes (i : AIns) : List Nat := i.op.takes ++ i.dst.toList
def AIns.gtmp (i : AIns) : List Nat := match i.guard with | some (t, _) => [t] | none => []
def AIns.touch (i : AIns) : List Nat := i.op.reads ++ i.gtmp ++ i.dst.toList

section
variable {F : Oracle} {bd : Bd} {s s1 s2 s' : St}

theorem took_st (s : St) (x : Opd) : (s.took x).σ = s.σ := by cases x <;> rfl
theorem set_st (s : St) (d : Option Nat) (v : V) : (s.set d v).σ = s.σ := by cases d <;> rfl

theorem raw_same {x : Opd} (h : ∀ t ∈ x.tmps, s2.env.get t = s.env.get t) : s2.raw x = s.raw x := by
  cases x with
  | t n => exact h n (by simp [Opd.tmps])
  | k v => rfl

theorem rd_same {x : Opd} (h : ∀ t ∈ x.tmps, s2.env.get t = s.env.get t) : s2.rd x = s.rd x := by rw [St.rd, raw_same h, St.rd]

theorem opt_same {x : Option Opd} {d : Int} (h : ∀ t ∈ oTmps x, s2.env.get t = s.env.get t) : optInt s2 x d = optInt s x d := by
  cases x with
  | none => rfl
  | some x => simp only [optInt, rd_same (x := x) h]

theorem parts_same : ∀ {ps : List (Nat × Nat × Opd)} {zs : List C}, (∀ t ∈ ps.flatMap (fun p => p.2.2.tmps), s2.env.get t = s.env.get t) → partsIn s2 ps zs = partsIn s ps zs
  | [], zs, h => rfl
  | (off, n, x) :: ps, zs, h => by
    simp only [partsIn]
    rw [rd_same (x := x) (fun t ht => h t (by simp [ht]))]
    have := fun zs => parts_same (ps := ps) (zs := zs) (fun t ht => h t (by simp only [List.flatMap_cons, List.mem_append]; exact .inr ht))
    simp only [this]

theorem args_same {xs : List Opd} (h : ∀ t ∈ xs.flatMap Opd.tmps, s2.env.get t = s.env.get t) : xs.map s2.rd = xs.map s.rd :=
  List.map_congr_left fun x hx => rd_same fun t ht => h t (List.mem_flatMap.2 ⟨x, hx, ht⟩)

theorem map_pair {α β : Type} {o : Option (α × β)} {a : α} {b : β} (h : o = some (a, b)) {γ : Type} (c : γ) : o.map (fun p => (p.1, c)) = some (a, c) := by rw [h]; rfl

theorem looks_reads {op : AOp} {t : Nat} (h : t ∈ op.looks) : t ∈ op.reads := by cases op <;> simp_all [AOp.looks, AOp.reads]

/-- An operation of a head, in two states that agree on what it reads. -/
theorem step_same {op : AOp} {v : V} (hh : headOp op = true) (hσ : ∀ t l o cs, t ∈ op.looks → (s2.env.get t).down = .c (.b (.ptr l o)) → s.σ[l]? = some (.cells cs) → ∃ cs2, s2.σ[l]? = some (.cells cs2) ∧ cs2.map C.down = cs.map C.down) (he : ∀ t ∈ op.reads, s2.env.get t = s.env.get t) (h : stepOp F bd s op = some (v, s1)) :
    s1.σ = s.σ ∧ (∀ t, t ∉ op.takes → s1.env.get t = s.env.get t) ∧ ∃ s3, stepOp F bd s2 op = some (v, s3) ∧ s3.σ = s2.σ ∧ (∀ t ∈ op.takes, s3.env.get t = s1.env.get t) ∧ (∀ t, t ∉ op.takes → s3.env.get t = s2.env.get t) := by
  have plain : ∀ {o : Option (V × St)}, op.takes = [] → stepOp F bd s op = o → stepOp F bd s2 op = o.map (fun p => (p.1, s2)) → (∀ p, o = some p → p.2 = s) →
      s1.σ = s.σ ∧ (∀ t, t ∉ op.takes → s1.env.get t = s.env.get t) ∧ ∃ s3, stepOp F bd s2 op = some (v, s3) ∧ s3.σ = s2.σ ∧ (∀ t ∈ op.takes, s3.env.get t = s1.env.get t) ∧ (∀ t, t ∉ op.takes → s3.env.get t = s2.env.get t) := by
    intro o ht h1 h2 h3
    have h4 : o = some (v, s1) := h1.symm.trans h
    have h5 : s1 = s := h3 _ h4
    subst h5
    refine ⟨rfl, fun _ _ => rfl, s2, by rw [h2, h4]; rfl, rfl, ?_, fun _ _ => rfl⟩
    rw [ht]; simp
  have one : ∀ {x : Opd}, (∀ t ∈ x.tmps, t ∈ op.reads) → s2.rd x = s.rd x := fun hx => rd_same fun t ht => he t (hx t ht)
  cases op with
  | mov m x =>
    cases m with
    | cp =>
      refine plain rfl rfl ?_ ?_
      · simp only [stepOp, one (x := x) (fun t ht => by simpa [AOp.reads] using ht), Option.map]
      · intro p hp; simp only [stepOp, Option.some.injEq] at hp; rw [← hp]
    | own =>
      simp only [stepOp, Option.some.injEq, Prod.mk.injEq] at h
      obtain ⟨rfl, rfl⟩ := h
      have hraw : s2.raw x = s.raw x := raw_same he
      refine ⟨took_st s x, ?_, s2.took x, by simp only [stepOp, hraw], took_st s2 x, ?_, ?_⟩
      · intro t ht
        cases x with
        | t n => simp only [AOp.takes, Opd.tmps, List.mem_singleton] at ht; simp only [St.took]; rw [env_get_cons, if_neg (fun e => ht e.symm)]
        | k v => rfl
      · intro t ht
        cases x with
        | t n =>
          simp only [AOp.takes, Opd.tmps, List.mem_singleton] at ht
          subst ht
          simp only [St.took]
          rw [env_get_cons, env_get_cons, he t (by simp [AOp.reads, Opd.tmps])]
        | k v => simp [AOp.takes, Opd.tmps] at ht
      · intro t ht
        cases x with
        | t n => simp only [AOp.takes, Opd.tmps, List.mem_singleton] at ht; simp only [St.took]; rw [env_get_cons, if_neg (fun e => ht e.symm)]
        | k v => rfl
    | _ => simp [headOp] at hh
  | pick c a b =>
    refine plain rfl rfl ?_ ?_
    · simp only [stepOp, one (x := c) (fun t ht => by simp [AOp.reads, ht]), one (x := a) (fun t ht => by simp [AOp.reads, ht]), one (x := b) (fun t ht => by simp [AOp.reads, ht])]
      split <;> rfl
    · intro p hp; simp only [stepOp] at hp; split at hp <;> cases hp; rfl
  | build zs ps =>
    refine plain rfl rfl ?_ ?_
    · simp only [stepOp, parts_same (s := s) (s2 := s2) (ps := ps) (zs := zs) he]
      split <;> rfl
    · intro p hp; simp only [stepOp] at hp; split at hp <;> cases hp; rfl
  | bsl m k n zs ps =>
    cases m with
    | own =>
      have : ∀ t ∈ (ps.map fun p => (p.1 * k, k, p.2)).flatMap (fun p => p.2.2.tmps), s2.env.get t = s.env.get t := by
        intro t ht
        refine he t ?_
        simpa [AOp.reads, List.flatMap_map] using ht
      refine plain rfl rfl ?_ ?_
      · simp only [stepOp, parts_same (s := s) (s2 := s2) this]
        split
        · split <;> rfl
        · rfl
      · intro p hp; simp only [stepOp] at hp; split at hp
        · split at hp <;> cases hp; rfl
        · cases hp
    | _ => simp [headOp] at hh
  | ld m n x =>
    cases m with
    | cp =>
      have hx : s2.rd x = s.rd x := one (x := x) (fun t ht => by simpa [AOp.reads] using ht)
      have hg : ∀ l o cs, s.rd x = .c (.b (.ptr l o)) → getCells s.σ l = some cs → ∃ cs2, getCells s2.σ l = some cs2 ∧ cs2.map C.down = cs.map C.down := by
        intro l o cs hl hgc
        have hsome : s.σ[l]? = some (.cells cs) := by
          unfold getCells at hgc
          split at hgc
          · rename_i h'; cases hgc; exact h'
          · cases hgc
        cases x with
        | t n =>
          obtain ⟨cs2, e1, e2⟩ := hσ n l o cs (by simp [AOp.looks, Opd.tmps]) (by rw [← hl, ← hx]; rfl) hsome
          exact ⟨cs2, by simp only [getCells, e1], e2⟩
        | k u =>
          simp only [headOp] at hh
          cases u with
          | c c => cases c with
            | b b => cases b with
              | ptr => simp [notPtr] at hh
              | _ => simp [St.rd, St.raw, V.down, C.down] at hl
            | _ => simp [St.rd, St.raw, V.down, C.down] at hl
          | _ => simp [St.rd, St.raw, V.down] at hl
      refine plain rfl rfl ?_ ?_
      · simp only [stepOp, hx]
        split
        · rename_i l off hl
          cases hgc : getCells s.σ l with
          | none => simp only [stepOp, hl, hgc] at h; cases h
          | some cs =>
            obtain ⟨cs2, e1, e2⟩ := hg l off cs hl hgc
            have hlen : cs2.length = cs.length := by simpa using congrArg List.length e2
            simp only [e1]
            cases n with
            | none =>
              have hget : (cs2[off]?).map C.down = (cs[off]?).map C.down := by rw [← List.getElem?_map, e2, List.getElem?_map]
              cases h1 : cs[off]? with
              | none =>
                rw [h1] at hget
                cases h2 : cs2[off]? with
                | none => rfl
                | some c2 => rw [h2] at hget; cases hget
              | some c =>
                rw [h1] at hget
                cases h2 : cs2[off]? with
                | none => rw [h2] at hget; cases hget
                | some c2 =>
                  rw [h2] at hget
                  simp only [Option.map_some, Option.some.injEq] at hget
                  simp [hget]
            | some n =>
              have : ((cs2.drop off).take n).map C.down = ((cs.drop off).take n).map C.down := by
                rw [List.map_take, List.map_drop, e2, List.map_take, List.map_drop]
              simp only [hlen, this]
              split <;> rfl
        all_goals
          repeat' split
          all_goals first | rfl | simp_all
      · intro p hp; simp only [stepOp] at hp
        repeat' split at hp
        all_goals cases hp
        all_goals rfl
    | _ => simp [headOp] at hh
  | bin op x y =>
    refine plain rfl rfl ?_ ?_
    · simp only [stepOp, one (x := x) (fun t ht => by simp [AOp.reads, ht]), one (x := y) (fun t ht => by simp [AOp.reads, ht])]
      split <;> rfl
    · intro p hp; simp only [stepOp] at hp; split at hp <;> cases hp; rfl
  | eq neg kd ks x y =>
    refine plain rfl rfl ?_ ?_
    · simp only [stepOp, one (x := x) (fun t ht => by simp [AOp.reads, ht]), one (x := y) (fun t ht => by simp [AOp.reads, ht])]
      split <;> rfl
    · intro p hp; simp only [stepOp] at hp; split at hp <;> cases hp; rfl
  | un op x =>
    refine plain rfl rfl ?_ ?_
    · simp only [stepOp, one (x := x) (fun t ht => by simp [AOp.reads, ht])]
      split <;> rfl
    · intro p hp; simp only [stepOp] at hp; split at hp <;> cases hp; rfl
  | conv k x =>
    refine plain rfl rfl ?_ ?_
    · simp only [stepOp, one (x := x) (fun t ht => by simp [AOp.reads, ht])]
      split <;> rfl
    · intro p hp; simp only [stepOp] at hp; split at hp <;> cases hp; rfl
  | fa off x =>
    refine plain rfl rfl ?_ ?_
    · simp only [stepOp, one (x := x) (fun t ht => by simp [AOp.reads, ht])]
      split <;> rfl
    · intro p hp; simp only [stepOp] at hp; split at hp <;> cases hp <;> rfl
  | nilc x =>
    refine plain rfl rfl ?_ ?_
    · simp only [stepOp, one (x := x) (fun t ht => by simpa [AOp.reads] using ht)]
      split <;> rfl
    · intro p hp; simp only [stepOp] at hp; split at hp <;> cases hp <;> rfl
  | appn k bytes x y =>
    refine plain rfl rfl ?_ ?_
    · simp only [stepOp, one (x := x) (fun t ht => by simp [AOp.reads, ht]), one (x := y) (fun t ht => by simp [AOp.reads, ht])]
      repeat' split
      all_goals first | rfl | simp_all
    · intro p hp; simp only [stepOp] at hp
      repeat' split at hp
      all_goals cases hp
      all_goals rfl
  | ga g k x =>
    refine plain rfl rfl ?_ ?_
    · simp only [stepOp, one (x := x) (fun t ht => by simpa [AOp.reads] using ht)]
      repeat' split
      all_goals first | rfl | simp_all
    · intro p hp; simp only [stepOp] at hp
      repeat' split at hp
      all_goals cases hp
      all_goals rfl
  | fld off n x =>
    refine plain rfl rfl ?_ ?_
    · simp only [stepOp, one (x := x) (fun t ht => by simp [AOp.reads, ht])]
      repeat' split
      all_goals first | rfl | simp_all
    · intro p hp; simp only [stepOp] at hp
      repeat' split at hp
      all_goals cases hp
      all_goals rfl
  | ia k x i =>
    refine plain rfl rfl ?_ ?_
    · simp only [stepOp, one (x := x) (fun t ht => by simp [AOp.reads, ht]), one (x := i) (fun t ht => by simp [AOp.reads, ht])]
      repeat' split
      all_goals first | rfl | simp_all
    · intro p hp; simp only [stepOp] at hp
      repeat' split at hp
      all_goals cases hp
      all_goals rfl
  | ixs x i =>
    refine plain rfl rfl ?_ ?_
    · simp only [stepOp, one (x := x) (fun t ht => by simp [AOp.reads, ht]), one (x := i) (fun t ht => by simp [AOp.reads, ht])]
      repeat' split
      all_goals first | rfl | simp_all
    · intro p hp; simp only [stepOp] at hp
      repeat' split at hp
      all_goals cases hp
      all_goals rfl
  | slc m k x lo hi =>
    cases m with
    | cp =>
      have h1 : ∀ d, optInt s2 lo d = optInt s lo d := fun d => opt_same fun t ht => he t (by simp [AOp.reads, ht])
      have h2 : ∀ d, optInt s2 hi d = optInt s hi d := fun d => opt_same fun t ht => he t (by simp [AOp.reads, ht])
      refine plain rfl rfl ?_ ?_
      · simp only [stepOp, one (x := x) (fun t ht => by simp [AOp.reads, ht]), h1, h2]
        repeat' split
        all_goals first | rfl | simp_all
      · intro p hp; simp only [stepOp] at hp
        repeat' split at hp
        all_goals cases hp
        all_goals rfl
    | _ => simp [headOp] at hh
  | slcs x lo hi =>
    have h1 : ∀ d, optInt s2 lo d = optInt s lo d := fun d => opt_same fun t ht => he t (by simp [AOp.reads, ht])
    have h2 : ∀ d, optInt s2 hi d = optInt s hi d := fun d => opt_same fun t ht => he t (by simp [AOp.reads, ht])
    refine plain rfl rfl ?_ ?_
    · simp only [stepOp, one (x := x) (fun t ht => by simp [AOp.reads, ht]), h1, h2]
      repeat' split
      all_goals first | rfl | simp_all
    · intro p hp; simp only [stepOp] at hp
      repeat' split at hp
      all_goals cases hp
      all_goals rfl
  | mks m k b zs l c =>
    cases m with
    | own =>
      refine plain rfl rfl ?_ ?_
      · simp only [stepOp, one (x := l) (fun t ht => by simp [AOp.reads, ht]), one (x := c) (fun t ht => by simp [AOp.reads, ht])]
        repeat' split
        all_goals first | rfl | simp_all
      · intro p hp; simp only [stepOp] at hp
        repeat' split at hp
        all_goals cases hp
        all_goals rfl
    | _ => simp [headOp] at hh
  | len kd x =>
    have hkd : kd ≠ 2 := by rintro rfl; simp [headOp] at hh
    refine plain rfl rfl ?_ ?_
    · simp only [stepOp, one (x := x) (fun t ht => by simp [AOp.reads, ht])]
      repeat' split
      all_goals first | rfl | simp_all
    · intro p hp; simp only [stepOp] at hp
      repeat' split at hp
      all_goals cases hp
      all_goals rfl
  | callb f xs =>
    refine plain rfl rfl ?_ ?_
    · simp only [stepOp, args_same (s := s) (s2 := s2) he]
      repeat' split
      all_goals first | rfl | simp_all
    · intro p hp; simp only [stepOp] at hp
      repeat' split at hp
      all_goals cases hp
      all_goals rfl
  | _ => simp [headOp] at hh

/-- An instruction of a head, in two states that agree on what it touches. -/
theorem ins_same {i : AIns} (hh : headOp i.op = true) (hσ : ∀ t l o cs, t ∈ i.op.looks → (s2.env.get t).down = .c (.b (.ptr l o)) → s.σ[l]? = some (.cells cs) → ∃ cs2, s2.σ[l]? = some (.cells cs2) ∧ cs2.map C.down = cs.map C.down) (he : ∀ t ∈ i.touch, s2.env.get t = s.env.get t) (h : stepIns F bd s i = some s1) :
    s1.σ = s.σ ∧ (∀ t, t ∉ i.writes → s1.env.get t = s.env.get t) ∧ ∃ s3, stepIns F bd s2 i = some s3 ∧ s3.σ = s2.σ ∧ (∀ t ∈ i.writes, s3.env.get t = s1.env.get t) ∧ (∀ t, t ∉ i.writes → s3.env.get t = s2.env.get t) := by
  have hr : ∀ t ∈ i.op.reads, s2.env.get t = s.env.get t := fun t ht => he t (by simp [AIns.touch, ht])
  have htk : ∀ t ∈ i.op.takes, t ∈ i.op.reads := by
    intro t ht
    cases hop : i.op <;> simp only [hop, AOp.takes, List.not_mem_nil] at ht
    rename_i m x
    cases m <;> simp_all [AOp.reads]
  have sget : ∀ (s : St) (v : V) (t : Nat), (s.set i.dst v).env.get t = if i.dst = some t then v else s.env.get t := by
    intro s v t
    cases hd : i.dst with
    | none => simp [St.set]
    | some d => simp only [St.set]; rw [env_get_cons]; simp
  have go : ∀ {v : V} {s0 : St}, stepOp F bd s i.op = some (v, s0) → s1 = s0.set i.dst v →
      s1.σ = s.σ ∧ (∀ t, t ∉ i.writes → s1.env.get t = s.env.get t) ∧ ∃ s3, stepOp F bd s2 i.op = some (v, s3) ∧ (s3.set i.dst v).σ = s2.σ ∧ (∀ t ∈ i.writes, (s3.set i.dst v).env.get t = s1.env.get t) ∧ (∀ t, t ∉ i.writes → (s3.set i.dst v).env.get t = s2.env.get t) := by
    intro v s0 h0 h1
    obtain ⟨k1, k2, s3, k3, k4, k5, k6⟩ := step_same hh hσ hr h0
    subst h1
    refine ⟨by rw [set_st]; exact k1, fun t ht => ?_, s3, k3, by rw [set_st]; exact k4, fun t ht => ?_, fun t ht => ?_⟩
    · simp only [AIns.writes, List.mem_append, Option.mem_toList, not_or] at ht
      rw [sget, if_neg ht.2]; exact k2 t ht.1
    · simp only [AIns.writes, List.mem_append, Option.mem_toList] at ht
      rw [sget, sget]
      split
      · rfl
      · rename_i hne; exact k5 t (ht.resolve_right hne)
    · simp only [AIns.writes, List.mem_append, Option.mem_toList, not_or] at ht
      rw [sget, if_neg ht.2]; exact k6 t ht.1
  unfold stepIns at h ⊢
  split at h
  · rename_i hg
    split at h
    case h_2 => cases h
    rename_i v s0 h0
    simp only [Option.some.injEq] at h
    obtain ⟨k1, k2, s3, k3, k4, k5, k6⟩ := go h0 h.symm
    exact ⟨k1, k2, _, by rw [k3], k4, k5, k6⟩
  · rename_i gt want hg
    have hgt : s2.env.get gt = s.env.get gt := he gt (by simp [AIns.touch, AIns.gtmp, hg])
    rw [hgt]
    have skp : (s.set i.dst (.tup [])).σ = s.σ ∧ (∀ t, t ∉ i.writes → (s.set i.dst (.tup [])).env.get t = s.env.get t) ∧ ∃ s3, some (s2.set i.dst (.tup [])) = some s3 ∧ s3.σ = s2.σ ∧ (∀ t ∈ i.writes, s3.env.get t = (s.set i.dst (.tup [])).env.get t) ∧ (∀ t, t ∉ i.writes → s3.env.get t = s2.env.get t) := by
      refine ⟨set_st _ _ _, fun t ht => ?_, _, rfl, set_st _ _ _, fun t ht => ?_, fun t ht => ?_⟩
      · simp only [AIns.writes, List.mem_append, Option.mem_toList, not_or] at ht
        rw [sget, if_neg ht.2]
      · simp only [AIns.writes, List.mem_append, Option.mem_toList] at ht
        rw [sget, sget]
        split
        · rfl
        · rename_i hne; exact hr t (htk t (ht.resolve_right hne))
      · simp only [AIns.writes, List.mem_append, Option.mem_toList, not_or] at ht
        rw [sget, if_neg ht.2]
    split at h
    case h_3 => cases h
    case h_2 =>
      simp only [Option.some.injEq] at h
      subst h
      exact skp
    rename_i b hb
    cases hw : b == want with
    | true =>
      rw [hw] at h
      simp only [cond_true] at h ⊢
      split at h
      case h_2 => cases h
      rename_i v s0 h0
      simp only [Option.some.injEq] at h
      obtain ⟨k1, k2, s3, k3, k4, k5, k6⟩ := go h0 h.symm
      exact ⟨k1, k2, _, by rw [k3], k4, k5, k6⟩
    | false =>
      rw [hw] at h
      simp only [cond_false, Option.some.injEq] at h ⊢
      subst h
      simpa using skp

/-- An operation that makes objects, in two states with the same objects that agree on what it reads. -/
theorem make_same {op : AOp} {v : V} (hK : KeepF F) (hh : headCall op = true) (hσ : s2.σ = s.σ) (he : ∀ t ∈ op.reads, s2.env.get t = s.env.get t) (h : stepOp F bd s op = some (v, s1)) :
    s1.env = s.env ∧ s.σ.length ≤ s1.σ.length ∧ (∀ l, l < s.σ.length → s1.σ[l]? = s.σ[l]?) ∧ stepOp F bd s2 op = some (v, { s2 with σ := s1.σ }) := by
  cases op with
  | callp f xs =>
    have hargs : xs.map s2.rd = xs.map s.rd := args_same he
    simp only [stepOp] at h ⊢
    rw [hargs, hσ]
    split at h
    case h_2 => cases h
    rename_i v1 σ1 hF
    split at h
    case isFalse => cases h
    rename_i hlen
    cases h
    refine ⟨rfl, hlen, fun l hl => hK _ _ _ _ _ _ _ hF l (by omega) hl, ?_⟩
    simp only [hF, if_pos hlen]
  | bsl m k n zs ps =>
    cases m with
    | arr =>
      have : ∀ t ∈ (ps.map fun p => (p.1 * k, k, p.2)).flatMap (fun p => p.2.2.tmps), s2.env.get t = s.env.get t := by
        intro t ht
        refine he t ?_
        simpa [AOp.reads, List.flatMap_map] using ht
      simp only [stepOp] at h ⊢
      rw [parts_same (s := s) (s2 := s2) this, hσ]
      split at h
      case h_2 => cases h
      rename_i cs hcs
      cases h
      simp only [hcs]
      exact ⟨trivial, by simp, fun l hl => by rw [List.getElem?_append_left hl], trivial⟩
    | _ => simp [headCall] at hh
  | _ => simp [headCall] at hh

theorem call_same {i : AIns} (hK : KeepF F) (hh : headCall i.op = true) (hσ : s2.σ = s.σ) (he : ∀ t ∈ i.touch, s2.env.get t = s.env.get t) (h : stepIns F bd s i = some s1) :
    s.σ.length ≤ s1.σ.length ∧ (∀ l, l < s.σ.length → s1.σ[l]? = s.σ[l]?) ∧ (∀ t, t ∉ i.writes → s1.env.get t = s.env.get t) ∧
      ∃ s3, stepIns F bd s2 i = some s3 ∧ s3.σ = s1.σ ∧ (∀ t ∈ i.writes, s3.env.get t = s1.env.get t) ∧ (∀ t, t ∉ i.writes → s3.env.get t = s2.env.get t) := by
  obtain ⟨d, op, gd⟩ := i
  have hw : (⟨d, op, gd⟩ : AIns).writes = d.toList := by
    cases op with
    | mov m x => simp [headCall] at hh
    | _ => rfl
  have sget : ∀ (s : St) (v : V) (t : Nat), (s.set d v).env.get t = if d = some t then v else s.env.get t := by
    intro s v t
    cases hd : d with
    | none => simp [St.set]
    | some d => simp only [St.set]; rw [env_get_cons]; simp
  have hargs : ∀ t ∈ op.reads, s2.env.get t = s.env.get t := fun t ht => he t (by simp only [AIns.touch, List.mem_append]; exact .inl (.inl ht))
  have go : ∀ {v : V} {s0 : St}, stepOp F bd s op = some (v, s0) → s0.env = s.env ∧ s.σ.length ≤ s0.σ.length ∧ (∀ l, l < s.σ.length → s0.σ[l]? = s.σ[l]?) ∧ stepOp F bd s2 op = some (v, { s2 with σ := s0.σ }) := fun h0 => make_same hK hh hσ hargs h0
  have fin : ∀ (v : V) (s0 : St), s0.env = s.env → (∀ t, t ∉ d.toList → (s0.set d v).env.get t = s.env.get t) ∧ (∀ t ∈ d.toList, (St.set { s2 with σ := s0.σ } d v).env.get t = (s0.set d v).env.get t) ∧ (∀ t, t ∉ d.toList → (St.set { s2 with σ := s0.σ } d v).env.get t = s2.env.get t) := by
    intro v s0 h0
    refine ⟨fun t ht => ?_, fun t ht => ?_, fun t ht => ?_⟩ <;> simp only [Option.mem_toList] at ht
    · rw [sget, if_neg ht, h0]
    · rw [sget, sget, if_pos ht, if_pos ht]
    · rw [sget, if_neg ht]
  rw [hw]
  unfold stepIns at h ⊢
  split at h
  · rename_i hg
    simp only at hg
    split at h
    case h_2 => cases h
    rename_i v s0 h0
    cases h
    obtain ⟨k1, k2, k3, k4⟩ := go h0
    obtain ⟨f1, f2, f3⟩ := fin v s0 k1
    refine ⟨by rw [set_st]; exact k2, fun l hl => by rw [set_st]; exact k3 l hl, f1, _, ?_, ?_, f2, f3⟩
    · simp only [k4]
    · rw [set_st, set_st]
  · rename_i gt want hg
    simp only at hg
    have hgt : s2.env.get gt = s.env.get gt := he gt (by simp [AIns.touch, AIns.gtmp, hg])
    simp only [hgt]
    split at h
    case h_3 => cases h
    case h_2 =>
      simp only [Option.some.injEq] at h ⊢
      subst h
      refine ⟨by rw [set_st]; exact Nat.le_refl _, fun l _ => by rw [set_st], fun t ht => ?_, _, rfl, by rw [set_st, set_st, hσ], fun t ht => ?_, fun t ht => ?_⟩ <;> simp only [Option.mem_toList] at ht
      · rw [sget, if_neg ht]
      · rw [sget, sget, if_pos ht, if_pos ht]
      · rw [sget, if_neg ht]
    rename_i b hb
    cases hwn : b == want with
    | true =>
      rw [hwn] at h
      simp only [cond_true] at h ⊢
      split at h
      case h_2 => cases h
      rename_i v s0 h0
      simp only [Option.some.injEq] at h
      subst h
      obtain ⟨k1, k2, k3, k4⟩ := go h0
      obtain ⟨f1, f2, f3⟩ := fin v s0 k1
      refine ⟨by rw [set_st]; exact k2, fun l hl => by rw [set_st]; exact k3 l hl, f1, _, by simp only [k4], ?_, f2, f3⟩
      rw [set_st, set_st]
    | false =>
      rw [hwn] at h
      simp only [cond_false, Option.some.injEq] at h ⊢
      subst h
      refine ⟨by rw [set_st]; exact Nat.le_refl _, fun l _ => by rw [set_st], fun t ht => ?_, _, rfl, by rw [set_st, set_st, hσ], fun t ht => ?_, fun t ht => ?_⟩ <;> simp only [Option.mem_toList] at ht
      · rw [sget, if_neg ht]
      · rw [sget, sget, if_pos ht, if_pos ht]
      · rw [sget, if_neg ht]
end
end Go.Proofs.YthahhonmkhafkaaDoor.Am

/- Operations of a head leave every block that stands. -/
namespace Go.Proofs.YthahhonmkhafkaaDoor.Am
set_option linter.unusedSimpArgs false
set_option linter.unusedVariables false
set_option linter.unusedSectionVars false
open Go
set_option linter.unusedVariables false
set_option linter.unusedSimpArgs false

section
variable {P : Program} {N : Nat} {g g' : G} {w w' : World} {Pr : Nat → Prop} {s s' : St} {a a' : Act} {F : Oracle} {bd : Bd}

theorem head_still {o : Oper} {ao : AOp} (hc : chkOp P o ao = true) (hh : headOp ao = true) : still o.op = true ∨ (∃ f xs, ao = .callb f xs) ∨ ∃ k b x y, ao = .appn k b x y := by
  cases hst : still o.op with
  | true => exact .inl rfl
  | false =>
    right
    unfold still at hst
    split at hst
    · rename_i hop
      exfalso
      cases ao with
      | ld m n x => cases m <;> cases n <;> simp_all [chkOp, headOp]
      | mov m x => cases m <;> simp_all [chkOp, headOp]
      | bsl m k n zs ps => cases m <;> simp_all [chkOp, headOp]
      | slc m k x lo hi => cases m <;> cases hi <;> simp_all [chkOp, headOp]
      | mks m k b zs x y => cases m <;> simp_all [chkOp, headOp]
      | _ => simp_all [chkOp, headOp]
    · rename_i hop
      exfalso
      cases ao with
      | ld m n x => cases m <;> cases n <;> simp_all [chkOp, headOp]
      | mov m x => cases m <;> simp_all [chkOp, headOp]
      | bsl m k n zs ps => cases m <;> simp_all [chkOp, headOp]
      | slc m k x lo hi => cases m <;> cases hi <;> simp_all [chkOp, headOp]
      | mks m k b zs x y => cases m <;> simp_all [chkOp, headOp]
      | _ => simp_all [chkOp, headOp]
    · rename_i hop
      exfalso
      cases ao with
      | ld m n x => cases m <;> cases n <;> simp_all [chkOp, headOp]
      | mov m x => cases m <;> simp_all [chkOp, headOp]
      | bsl m k n zs ps => cases m <;> simp_all [chkOp, headOp]
      | slc m k x lo hi => cases m <;> cases hi <;> simp_all [chkOp, headOp]
      | mks m k b zs x y => cases m <;> simp_all [chkOp, headOp]
      | _ => simp_all [chkOp, headOp]
    · rename_i c hop
      obtain ⟨callee, args, ts⟩ := c
      cases ao with
      | callb f xs => exact .inl ⟨f, xs, rfl⟩
      | appn k b x y => exact .inr ⟨k, b, x, y, rfl⟩
      | len kd x =>
        exfalso
        simp only [chkOp, hop] at hc
        split at hst
        all_goals first | cases hst | skip
        all_goals simp_all
      | mm mx x y => simp [headOp] at hh
      | ld m n x => exfalso; cases m <;> cases n <;> simp_all [chkOp, headOp]
      | mov m x => exfalso; cases m <;> simp_all [chkOp, headOp]
      | bsl m k n zs ps => exfalso; cases m <;> simp_all [chkOp, headOp]
      | slc m k x lo hi => exfalso; cases m <;> cases hi <;> simp_all [chkOp, headOp]
      | mks m k b zs x y => exfalso; cases m <;> simp_all [chkOp, headOp]
      | _ => exfalso; simp_all [chkOp, headOp]
    · cases hst

theorem op_okS (hS : Sound P F) (hen : ∀ f args σ lo tr r, F f args σ lo tr = some r → entered P (fnOf f) = true) {o : Oper} {ao : AOp} {v : V} (hc : chkOp P o ao = true) (hh : headOp ao = true)
    (hv : stepOp F bd s ao = some (v, s')) (hI : Inv g w Pr s.σ) (hE : EnvOk g w Pr s.env a) (Q : Exit → Act → World → Prop) : o.wp P a w (fun a' w' => Post o a g w Pr s' v a' w' ∧ Same w w') Q := by
  rcases head_still hc hh with h | ⟨f, ys, rfl⟩ | ⟨k, bytes, x, y, rfl⟩
  · refine Oper.wp_mono (fun a' w' hp => ⟨hp, ?_⟩) (op_ok hS hen hc hv hI hE Q)
    obtain ⟨g', u, _, hs, _⟩ := hp
    exact hs h
  · simp only [chkOp] at hc
    split at hc
    case h_2 => cases hc
    rename_i f' xs ts ho
    simp only [Bool.and_eq_true, beq_iff_eq] at hc
    obtain ⟨⟨rfl, h2⟩, h3⟩ := hc
    exact ok_callb o (hS.1 f) ho h2 h3 hv hI hE Q
  · simp only [chkOp] at hc
    split at hc
    case h_2 => cases hc
    rename_i xs ts ho
    split at hc
    case h_2 => cases hc
    rename_i x' y' t t2 hxs hts
    obtain rfl : xs = #[x', y'] := by cases xs; simp_all
    obtain rfl : ts = #[t, t2] := by cases ts; simp_all
    simp only [Bool.and_eq_true] at hc
    obtain ⟨⟨h1, h2⟩, h3⟩ := hc
    split at h3
    case h_2 => cases h3
    rename_i e i e2 hel hu2
    split at h3
    case h_2 => cases h3
    rename_i z hz
    simp only [Bool.and_eq_true, beq_iff_eq, bne_iff_ne, ne_eq] at h3
    obtain ⟨⟨⟨q1, q2⟩, q3⟩, q4⟩ := h3
    obtain ⟨e1, e2⟩ := sliceElem_ok hel
    obtain ⟨hok, hsame⟩ := ok_appn o ho h1 h2 e1 hu2 e2 hz q1 q2 q3 q4 hv hI hE
    obtain ⟨u, w', g', q, hr, x1, x2, x3, x4, x5⟩ := hok
    unfold Oper.wp
    rcases hr with hr | ⟨hr, rfl⟩
    · rw [hr]; exact ⟨⟨g', u, rfl, q, x1, x2, x3, x4, x5⟩, hsame u w' (.inl hr)⟩
    · rw [hr]; exact ⟨⟨g', undef, rfl, q, x1, x2, x3, x4, x5⟩, hsame undef w' (.inr hr)⟩

/-- One instruction of a head. -/
theorem ins_okS (hS : Sound P F) (hen : ∀ f args σ lo tr r, F f args σ lo tr = some r → entered P (fnOf f) = true) {ops : Array Oper} {o : Oper} {i : AIns} (hc : chkIns P N ops o i = true) (hh : headOp i.op = true)
    (hv : stepIns F bd s i = some s') (hA : InvA N g w Pr s a) (Q : Exit → Act → World → Prop) :
    if Region.wanted o (yielded ops a.tmps) then o.wp P a w (fun a' w' => Behind N g w Pr s' a' w' ∧ (∃ u, a' = a.put o.dst u) ∧ Same w w') Q else Behind N g w Pr s' (a.put o.dst undef) w := by
  have h0 := ins_okP hS hen hc hv hA Q
  simp only [chkIns, Bool.and_eq_true, beq_iff_eq] at hc
  obtain ⟨⟨⟨h1, h2⟩, h3⟩, h4⟩ := hc
  have hd : ∀ d, o.dst = some d → d < N := by
    intro d hd
    rw [hd] at h2
    exact of_decide_eq_true h2
  split at h0
  case isFalse hw => rw [if_neg hw]; exact h0
  rename_i hw
  rw [if_pos hw]
  -- it is carried out
  have hgo : ∀ {v : V} {s1 : St}, stepOp F bd s i.op = some (v, s1) → s' = s1.set i.dst v → o.wp P a w (fun a' w' => Behind N g w Pr s' a' w' ∧ (∃ u, a' = a.put o.dst u) ∧ Same w w') Q := by
    intro v s1 hst he
    refine Oper.wp_mono ?_ (op_okS hS hen h3 hh hst hA.inv hA.env Q)
    rintro a' w' ⟨hp, hs⟩
    refine ⟨?_, ?_, hs⟩
    · rw [he, ← h1]
      exact post_behind hA hd hp
    · obtain ⟨_, u, e, _⟩ := hp; exact ⟨u, e⟩
  unfold stepIns at hv
  split at hv
  · split at hv
    · rename_i v s1 hst; cases hv; exact hgo hst rfl
    · cases hv
  · rename_i t want hg
    rw [hg] at h4
    cases ho : o.guard with
    | none => rw [ho] at h4; simp at h4
    | some p =>
      obtain ⟨j, want'⟩ := p
      rw [ho] at h4
      simp only [Bool.and_eq_true, beq_iff_eq, decide_eq_true_eq] at h4
      obtain ⟨⟨rfl, h5⟩, h6⟩ := h4
      split at hv
      case h_3 => cases hv
      · rename_i b hb
        have he := hA.env t
        rw [hb] at he
        have hbool := rep_bool he
        have hy : yielded ops a.tmps j = some b := by
          have ht : t < a.tmps.size := by rw [hA.size]; exact h6
          simp only [yielded, h5, Option.bind_some]
          simp [Array.getD_eq_getD_getElem?, ht] at hbool
          simp [ht, hbool]
        simp only [Region.wanted, ho, hy] at hw
        have hbw : b = want' := by simpa using hw
        subst hbw
        simp only [BEq.rfl, cond_true] at hv
        split at hv
        · rename_i v s1 hst; cases hv; exact hgo hst rfl
        · cases hv
      · rename_i vs hb
        have he := hA.env t
        rw [hb] at he
        obtain ⟨arr, he, _⟩ := he
        have ht : t < a.tmps.size := by rw [hA.size]; exact h6
        have hy : yielded ops a.tmps j = none := by
          simp only [yielded, h5, Option.bind_some]
          simp [Array.getD_eq_getD_getElem?, ht] at he
          simp [ht, he]
        have hne2 : ∀ b : Bool, ((none : Option Bool) == some b) = false := fun _ => rfl
        simp [Region.wanted, ho, hy, hne2] at hw

/-- What a load finds. -/
theorem ld_ident {o : Oper} {x : Opd} {v : V} {l off : Nat} (hc : chkOp P o (.ld .cp none x) = true) (hr : s.rd x = .c (.b (.ptr l off))) (hv : stepOp F bd s (.ld .cp none x) = some (v, s')) (hI : Inv g w Pr s.σ) (hE : EnvOk g w Pr s.env a) :
    ∃ b o' arr ty u, g.loc[l]? = some (b, o') ∧ w.heap[b]? = some (.cells arr ty (0, 0)) ∧ arr[o' + off]? = some u ∧ (execOp a.eval o).run P w = .ok (.value u) w := by
  simp only [chkOp] at hc
  split at hc
  case h_2 => cases hc
  rename_i t y ho
  split at hc
  case h_2 => cases hc
  rename_i i hi
  simp only [Bool.and_eq_true, beq_iff_eq] at hc
  obtain ⟨⟨c1, c2⟩, c3⟩ := hc
  have hs : isStr P t = false := by
    cases hb : isStr P t
    · rfl
    · rw [aggOf, hb] at c3; cases c3
  have h1 := opd_rd hE c1 (.tmp 0)
  rw [hr] at h1
  obtain ⟨b, q, hl, h2⟩ := h1
  simp only [stepOp, hr] at hv
  split at hv
  case h_2 => cases hv
  rename_i cs hcs
  split at hv
  case h_2 => cases hv
  rename_i c hcc
  obtain ⟨b', q', arr, ty, h3, h4, h5, h6, h7⟩ := hI.ob _ _ (getCells_eq hcs)
  rw [hl] at h3
  cases h3
  obtain ⟨u, k1, k2, k3⟩ := h7 _ _ hcc
  refine ⟨b, q, arr, ty, u, hl, h5, k1, ?_⟩
  simp only [execOp, ho, h2, Sem.run_bind, run_ld1 c2 hs ((cell_of h5 _).trans k1)]; rfl

/-- The right to grow goes from an object's cell to a temporary that holds the same. -/
theorem up_ok (hA : InvA N g w Pr s a) {d l off b o' : Nat} {cs : List C} {c : C} {arr : Array Value} {ty : TypeId} (hl : g.loc[l]? = some (b, o')) (hcs : s.σ[l]? = some (.cells cs)) (hc : cs[off]? = some c)
    (hb : w.heap[b]? = some (.cells arr ty (0, 0))) (hu : arr[o' + off]? = some (a.tmps.getD d undef)) :
    ∃ g', Ext g w g' w ∧ Fr Pr g w g' w ∧ ∀ s', s'.σ = s.σ.set l (.cells (cs.set off c.down)) → s'.env.get d = .c c → (∀ t, t ≠ d → s'.env.get t = s.env.get t) → InvA N g' w Pr s' a := by
  have hI := hA.inv
  let φ : Place → Place := fun p => if p = (.cell l, [off]) then (.tmp d, []) else p
  have hφ : ∀ p, p ≠ (.cell l, [off]) → φ p = p := fun p hp => by simp only [φ]; rw [if_neg hp]
  obtain ⟨b2, q2, arr2, ty2, h3, h4, h5, h6, h7⟩ := hI.ob _ _ hcs
  rw [hl] at h3
  cases h3
  rw [hb] at h5
  cases h5
  obtain ⟨u, k1, k2, k3⟩ := h7 _ _ hc
  rw [hu] at k1
  cases k1
  refine ⟨g.ren Pr φ, Ext.ren φ, Fr.ren φ, fun s' e1 e2 e3 => ⟨?_, ?_, hA.size, hA.defers⟩⟩
  · rw [e1]
    refine ⟨by simpa [G.ren] using hI.len, fun l' ob hob => ?_, hI.lt, fun c hc => ?_, hI.gl⟩
    · rw [List.getElem?_set] at hob
      split at hob
      · subst_vars
        split at hob
        · cases hob
          refine ⟨b, o', arr, ty, hl, h4, hb, by simpa using h6, fun i c' hi => ?_⟩
          rw [List.getElem?_set] at hi
          split at hi
          · subst_vars
            split at hi
            · cases hi
              exact ⟨_, hu, k2, RepC.down (RepC.ren φ rfl k3)⟩
            · cases hi
          · rename_i hne
            obtain ⟨u', e1, e2, e3⟩ := h7 _ _ hi
            exact ⟨u', e1, e2, RepC.ren φ (hφ _ (by intro e; simp at e; exact hne e.symm)) e3⟩
        · cases hob
      · rename_i hne
        exact RepOb.ren φ (fun i => hφ _ (by intro e; simp at e; exact hne e.1.symm)) (hI.ob _ _ hob)
    · obtain ⟨p1, p2, p3⟩ := hI.pr c hc
      exact ⟨p1, p2, by simpa [G.ren, hc] using p3⟩
  · intro t
    by_cases ht : t = d
    · subst ht
      rw [e2]
      exact RepC.ren φ (by simp [φ]) k3
    · rw [e3 t ht]
      exact RepV.ren φ (fun p => hφ _ (by simp)) (hA.env t)

theorem Inv.veil {σ : List Ob} (hI : Inv g w Pr σ) {l n : Nat} {cs : List C} (h : σ[l]? = some (.cells cs)) (hn : cs.length = n) : Inv g w Pr (σ.set l (.blank n)) where
  len := by simpa using hI.len
  ob l' x hx := by
    rw [List.getElem?_set] at hx
    split at hx
    · subst_vars
      split at hx
      · cases hx
        obtain ⟨b, o, arr, ty, h1, h2, h3, h4, _⟩ := hI.ob _ _ h
        exact ⟨b, o, arr, ty, h1, h2, h3, h4⟩
      · cases hx
    · exact hI.ob l' x hx
  lt := hI.lt
  pr := hI.pr
  gl := hI.gl

/-- An object's cells, known again: they are what was stored. -/
theorem up_st (hA : InvA N g w Pr s a) {l b o' n : Nat} {y : Operand} {y' : Opd} {cs : List C} {arr : Array Value} {ty : TypeId} (hl : g.loc[l]? = some (b, o')) (hσ : s.σ[l]? = some (.blank n)) (hy : chkOpd y y' = true) (hcs : (s.raw y').cells = some cs) (hn : cs.length = n)
    (hb : w.heap[b]? = some (.cells arr ty (0, 0))) (hsz : o' + n ≤ arr.size) (hu : ∀ j, j < n → arr[o' + j]? = (a.eval y).cells[j]?) :
    ∃ g', Ext g w g' w ∧ Fr Pr g w g' w ∧ ∀ s', s'.σ = s.σ.set l (.cells cs) → (∀ t, s'.env.get t = (s.took y').env.get t) → InvA N g' w Pr s' a := by
  obtain ⟨g1, x1, x2, x3, x4, x5, x6⟩ := give_ok (l := l) (off := 0) hy hcs hA.inv hA.env
  obtain ⟨b', q', arr', ty', h3, h4, h5, h6⟩ := x3.ob _ _ hσ
  rw [x1.loc _ _ hl] at h3
  cases h3
  refine ⟨g1, x1, x2, fun s' e1 e2 => ⟨?_, fun t => by rw [e2]; exact x4 t, hA.size, hA.defers⟩⟩
  rw [e1]
  refine ⟨by simpa using x3.len, fun l' ob hob => ?_, x3.lt, x3.pr, x3.gl⟩
  rw [List.getElem?_set] at hob
  split at hob
  · subst_vars
    split at hob
    · cases hob
      refine ⟨b, o', arr, ty, x1.loc _ _ hl, h4, hb, by omega, fun j c hj => ?_⟩
      obtain ⟨u, k1, k2, k3⟩ := x6 j c hj
      have hlt := (List.getElem?_eq_some_iff.mp hj).1
      refine ⟨u, by rw [hu j hlt]; exact k1, k2, ?_⟩
      rw [Nat.zero_add] at k3
      exact k3
    · cases hob
  · exact x3.ob l' ob hob
end
end Go.Proofs.YthahhonmkhafkaaDoor.Am

/- Regions that draw their order: what the text's order computes every order computes. -/
namespace Go.Proofs.YthahhonmkhafkaaDoor.Am
set_option linter.unusedSimpArgs false
set_option linter.unusedVariables false
set_option linter.unusedSectionVars false
open Go
set_option linter.unusedVariables false
set_option linter.unusedSimpArgs false

inductive Waits (ops : Array Oper) : Nat → Nat → Prop where
  | edge {k : Nat} {o : Oper} {e : Edge} : ops[k]? = some o → e ∈ o.after → Region.binds .any e = true → Waits ops k e.on
  | step {k j : Nat} {o : Oper} {e : Edge} : ops[k]? = some o → e ∈ o.after → Region.binds .any e = true → Waits ops e.on j → Waits ops k j

def maskOf (acc : List Nat) : List Edge → Nat
  | [] => 0
  | e :: es => bif Region.binds .any e then 2 ^ e.on ||| acc.getD e.on 0 ||| maskOf acc es else maskOf acc es

def masks : List Oper → List Nat → List Nat
  | [], acc => acc
  | o :: os, acc => masks os (acc ++ [maskOf acc o.after.toList])

def AIns.isAlloc (i : AIns) : Bool := match i with
  | ⟨some _, .alloc _, none⟩ => true
  | _ => false

def meets (xs ys : List Nat) : Bool := xs.any fun x => ys.any fun y => Nat.beq x y

def headLen : List Nat → Nat → Nat → Nat
  | [], _, h => h
  | m :: ms, k, h => headLen ms (k + 1) (bif m == 2 ^ k - 1 then h else k + 1)

def pairsOk (ms : List Nat) (i : AIns) (k : Nat) : Nat → List AIns → Bool
  | _, [] => true
  | j, i' :: is => (!(meets i'.writes i.touch || meets i.writes i'.touch) || (if j < k then (ms.getD k 0).testBit j else if k < j then (ms.getD j 0).testBit k else true)) && pairsOk ms i k (j + 1) is

def freshOk (d k : Nat) : Nat → List AIns → Bool
  | _, [] => true
  | j, i :: is => (Nat.beq j k || !(i.touch.any fun t => Nat.beq t d)) && freshOk d k (j + 1) is

def idx (n : Nat) : List AIns → List (Nat × AIns)
  | [] => []
  | i :: is => (n, i) :: idx (n + 1) is

/-- Operations that may as well come first: moves that nothing else bears on. -/
def preOk (ops : Array Oper) (is : List AIns) : Nat → Nat → Array Bool → Bool
  | 0, _, _ => true
  | n + 1, i, listed => (match ops[i]?, is[i]? with
      | some o, some ⟨_, .mov .cp _, none⟩ => (match o.op with | .move _ => true | _ => false) && o.guard.isNone
      | _, _ => false) && Region.free .any ops listed i && (Region.ready .any ops listed).contains i && preOk ops is n (i + 1) (listed.setIfInBounds i true)

def drawTry (p : Nat) (ops : Array Oper) (is : List AIns) : Bool :=
  let ms := masks ops.toList []
  let h2 := headLen (ms.map (· ||| (2 ^ p - 1))) 0 0
  let h1 := h2 - ((is.take h2).reverse.takeWhile AIns.isAlloc).length
  let hd := is.take h1
  (decide (p ≤ h1) && Region.noSelect ops && preOk ops is p 0 (Array.replicate ops.size false)) &&
  decide (h2 ≤ ops.size) &&
  ((List.range ops.size).all fun k => match ops[k]? with | some o => o.after.all (fun e => !Region.binds .any e || decide (e.on < k)) | none => true) &&
  (((idx 0 hd).all fun q => headOp q.2.op || headCall q.2.op) &&
    ((idx 0 hd).all fun q => !headCall q.2.op || (idx 0 hd).all fun q' => !headCall q'.2.op || decide (q.1 ≤ q'.1) || decide (q'.1 < p) || (ms.getD q.1 0).testBit q'.1)) &&
  ((idx 0 hd).all fun q => decide (q.1 < p) || pairsOk ms q.2 q.1 p (hd.drop p)) &&
  ((idx 0 (is.take h2)).all fun p => decide (p.1 < h1) || (p.2.isAlloc && match p.2.dst with | some d => freshOk d p.1 0 (is.take h2) | none => false)) &&
  ((List.range ops.size).all fun k => decide (k < h2) || (ms.getD k 0 ||| (2 ^ p - 1)) == 2 ^ k - 1)

def hdEnd (p : Nat) (ops : Array Oper) : Nat := headLen ((masks ops.toList []).map (· ||| (2 ^ p - 1))) 0 0
def hdMid (p : Nat) (ops : Array Oper) (is : List AIns) : Nat := hdEnd p ops - ((is.take (hdEnd p ops)).reverse.takeWhile AIns.isAlloc).length

/-- The first load that takes the right to grow. -/
def ownAt : List AIns → Nat → Option Nat
  | [], _ => none
  | ⟨some _, .ld .own none _, none⟩ :: _, n => some n
  | _ :: is, n => ownAt is (n + 1)

def drawOwnP (p : Nat) (ops : Array Oper) (is : List AIns) (q d : Nat) (x : Opd) : Bool :=
  drawTry p ops (is.set q ⟨some d, .ld .cp none x, none⟩) && decide (p ≤ q) && decide (q < hdMid p ops (is.set q ⟨some d, .ld .cp none x, none⟩)) &&
    freshOk d q 0 ((is.set q ⟨some d, .ld .cp none x, none⟩).take (hdEnd p ops)) && ((idx 0 ((is.set q ⟨some d, .ld .cp none x, none⟩).take (hdMid p ops (is.set q ⟨some d, .ld .cp none x, none⟩)))).all fun z => !headCall z.2.op)

/-- One load of the head takes the right to grow. -/
def drawOwn (ops : Array Oper) (is : List AIns) : Bool := match ownAt is 0 with
  | none => false
  | some q => match is[q]? with
    | some ⟨some d, .ld .own none x, none⟩ => drawOwnP 0 ops is q d x || drawOwnP 1 ops is q d x
    | _ => false

/-- The head's last instruction is a store that comes as it likes. -/
def lateAt : List AIns → Nat → Option Nat
  | [], _ => none
  | ⟨none, .stl _ _ _ _, none⟩ :: _, n => some n
  | _ :: is, n => lateAt is (n + 1)

def stub (a x : Opd) : AIns := ⟨none, .pick (.k (.c (.b (.d (.bool true))))) a x, none⟩

/-- Whatever they look through is among rs, and stays. -/
def looksOk (rs : List Nat) : List AIns → Bool
  | [] => true
  | i :: is => (i.op.looks.all fun t => rs.any (Nat.beq t) && (i :: is).all fun j => !j.writes.any (Nat.beq t)) && looksOk rs is

def drawLateP (p : Nat) (ops : Array Oper) (is : List AIns) (m : Nat) (a x : Opd) (rs : List Nat) : Bool :=
  drawTry p ops (is.set m (stub a x)) && decide (p ≤ m) && Nat.beq (m + 1) (hdMid p ops (is.set m (stub a x))) && Nat.beq (m + 1) (hdEnd p ops) && looksOk rs (is.take m) && ((idx 0 (is.take m)).all fun z => !headCall z.2.op)

def drawLate (ops : Array Oper) (is : List AIns) : Bool := match lateAt is 0 with
  | none => false
  | some m => match is[m]? with
    | some ⟨none, .stl _ a x rs, none⟩ => drawLateP 0 ops is m a x rs || drawLateP 1 ops is m a x rs
    | _ => false

def drawOk (ops : Array Oper) (is : List AIns) : Bool := drawTry 0 ops is || drawTry 1 ops is || drawOwn ops is || drawLate ops is

/-- What such a check says. -/
structure Dr (ops : Array Oper) (is : List AIns) (p h1 h2 : Nat) : Prop where
  le0 : p ≤ h1
  le1 : h1 ≤ h2
  le2 : h2 ≤ ops.size
  back : ∀ (k : Nat) (o : Oper) (e : Edge), ops[k]? = some o → e ∈ o.after → Region.binds .any e = true → e.on < k
  head : ∀ (k : Nat) (i : AIns), k < h1 → is[k]? = some i → headOp i.op = true ∨ headCall i.op = true
  calls : ∀ (j k : Nat) (i i' : AIns), p ≤ j → j < k → k < h1 → is[j]? = some i → is[k]? = some i' → headCall i.op = true → headCall i'.op = true → Waits ops k j
  fresh : ∀ (k : Nat) (i : AIns), h1 ≤ k → k < h2 → is[k]? = some i → ∃ d zs, i = ⟨some d, .alloc zs, none⟩ ∧ ∀ (j : Nat) (i' : AIns), j < h2 → j ≠ k → is[j]? = some i' → d ∉ i'.touch
  order : ∀ (j k : Nat) (i i' : AIns), p ≤ j → j < k → k < h1 → is[j]? = some i → is[k]? = some i' → ((∃ t ∈ i.writes, t ∈ i'.touch) ∨ (∃ t ∈ i'.writes, t ∈ i.touch)) → Waits ops k j
  tail : ∀ (k j : Nat), p ≤ j → h2 ≤ k → k < ops.size → j < k → Waits ops k j

theorem maskOf_waits {ops : Array Oper} {k : Nat} {o : Oper} {acc : List Nat} (ho : ops[k]? = some o) (hacc : ∀ (i m j : Nat), acc[i]? = some m → m.testBit j = true → Waits ops i j) :
    ∀ (es : List Edge), (∀ e ∈ es, e ∈ o.after) → ∀ j, (maskOf acc es).testBit j = true → Waits ops k j
  | [], _, j, h => by simp [maskOf] at h
  | e :: es, hes, j, h => by
    have ih := maskOf_waits ho hacc es (fun e he => hes e (List.mem_cons_of_mem _ he)) j
    have he := hes e List.mem_cons_self
    simp only [maskOf] at h
    cases hb : Region.binds .any e with
    | false => rw [hb] at h; exact ih h
    | true =>
      rw [hb] at h
      simp only [cond_true, Nat.testBit_or, Bool.or_eq_true] at h
      rcases h with (h | h) | h
      · rw [Nat.testBit_two_pow] at h
        have := of_decide_eq_true h
        subst this
        exact .edge ho he hb
      · rw [List.getD_eq_getElem?_getD] at h
        cases hm : acc[e.on]? with
        | none => rw [hm] at h; simp at h
        | some m => rw [hm] at h; exact .step ho he hb (hacc _ _ _ hm h)
      · exact ih h

theorem masks_waits {ops : Array Oper} : ∀ (os : List Oper) (acc : List Nat), (∀ j, os[j]? = ops[acc.length + j]?) → (∀ (i m j : Nat), acc[i]? = some m → m.testBit j = true → Waits ops i j) →
    ∀ (i m j : Nat), (masks os acc)[i]? = some m → m.testBit j = true → Waits ops i j
  | [], acc, _, h => h
  | o :: os, acc, hk, h => by
    have ho : ops[acc.length]? = some o := by have := hk 0; simpa using this.symm
    refine masks_waits os _ (fun j => ?_) ?_
    · have := hk (j + 1)
      simpa [Nat.add_assoc, Nat.add_comm 1 j] using this
    · intro i m j hi hj
      by_cases hlt : i < acc.length
      · rw [List.getElem?_append_left hlt] at hi; exact h i m j hi hj
      · rw [List.getElem?_append_right (by omega)] at hi
        have : i = acc.length := by
          have := (List.getElem?_eq_some_iff.mp hi).1
          simp at this; omega
        subst this
        simp only [Nat.sub_self, List.getElem?_cons_zero, Option.some.injEq] at hi
        subst hi
        exact maskOf_waits ho h _ (fun e he => Array.mem_toList_iff.1 he) j hj

theorem meets_true {xs ys : List Nat} {t : Nat} (hx : t ∈ xs) (hy : t ∈ ys) : meets xs ys = true := by
  simp only [meets, List.any_eq_true]
  exact ⟨t, hx, t, hy, by simp⟩

theorem idx_get : ∀ (is : List AIns) (n k : Nat) (i : AIns), is[k]? = some i → (n + k, i) ∈ idx n is
  | [], n, k, i, h => by simp at h
  | x :: xs, n, 0, i, h => by simp at h; subst h; simp [idx]
  | x :: xs, n, k + 1, i, h => by
    have := idx_get xs (n + 1) k i (by simpa using h)
    simp only [idx, List.mem_cons]
    right
    rw [show n + (k + 1) = n + 1 + k by omega]
    exact this

theorem pairsOk_get {ms : List Nat} {i : AIns} {k : Nat} : ∀ {is : List AIns} {n : Nat}, pairsOk ms i k n is = true → ∀ (j : Nat) (i' : AIns), is[j]? = some i' → (meets i'.writes i.touch = true ∨ meets i.writes i'.touch = true) →
    (n + j < k → (ms.getD k 0).testBit (n + j) = true) ∧ (k < n + j → (ms.getD (n + j) 0).testBit k = true)
  | [], n, h, j, i', hj, hm => by simp at hj
  | x :: xs, n, h, j, i', hj, hm => by
    simp only [pairsOk, Bool.and_eq_true] at h
    cases j with
    | zero =>
      simp only [List.getElem?_cons_zero, Option.some.injEq] at hj
      subst hj
      have h0 := h.1
      rw [show (meets x.writes i.touch || meets i.writes x.touch) = true by rcases hm with hm | hm <;> simp [hm]] at h0
      simp only [Bool.not_true, Bool.false_or] at h0
      refine ⟨fun hlt => ?_, fun hlt => ?_⟩
      · simp only [Nat.add_zero] at hlt ⊢; rw [if_pos hlt] at h0; exact h0
      · simp only [Nat.add_zero] at hlt ⊢; rw [if_neg (by omega), if_pos hlt] at h0; exact h0
    | succ j =>
      have := pairsOk_get h.2 j i' (by simpa using hj) hm
      rw [show n + 1 + j = n + (j + 1) by omega] at this
      exact this

theorem freshOk_get {d k : Nat} : ∀ {is : List AIns} {n : Nat}, freshOk d k n is = true → ∀ (j : Nat) (i' : AIns), is[j]? = some i' → n + j ≠ k → d ∉ i'.touch
  | [], n, h, j, i', hj, hm => by simp at hj
  | x :: xs, n, h, j, i', hj, hm => by
    simp only [freshOk, Bool.and_eq_true] at h
    cases j with
    | zero =>
      simp only [List.getElem?_cons_zero, Option.some.injEq] at hj
      subst hj
      have h0 := h.1
      simp only [Bool.or_eq_true, Nat.beq_eq_true_eq] at h0
      rcases h0 with h0 | h0
      · exact absurd h0 (by simpa using hm)
      · intro hd
        simp only [Bool.not_eq_true', List.any_eq_false, Nat.beq_eq_true_eq] at h0
        exact h0 d hd (by simp)
    | succ j => exact freshOk_get h.2 j i' (by simpa using hj) (by omega)

theorem two_pow_bit {k j : Nat} (h : j < k) : (2 ^ k - 1).testBit j = true := by
  rw [Nat.testBit_two_pow_sub_one]; simpa using h

theorem drawTry_dr {p : Nat} {ops : Array Oper} {is : List AIns} (h : drawTry p ops is = true) : Region.noSelect ops = true ∧ preOk ops is p 0 (Array.replicate ops.size false) = true ∧ Dr ops is p (hdMid p ops is) (hdEnd p ops) := by
  unfold hdMid hdEnd
  simp only [drawTry, Bool.and_eq_true, decide_eq_true_eq, List.all_eq_true, List.mem_range] at h
  generalize hms : masks ops.toList [] = ms at h ⊢
  generalize headLen (ms.map (· ||| (2 ^ p - 1))) 0 0 = h2 at h ⊢
  have hw : ∀ (i m j : Nat), ms[i]? = some m → m.testBit j = true → Waits ops i j := by
    rw [← hms]
    exact masks_waits ops.toList [] (fun j => by simp) (fun i m j hi => by simp at hi)
  have hw' : ∀ (i j : Nat), (ms.getD i 0).testBit j = true → Waits ops i j := by
    intro i j hj
    rw [List.getD_eq_getElem?_getD] at hj
    cases hm : ms[i]? with
    | none => rw [hm] at hj; simp at hj
    | some m => rw [hm] at hj; exact hw _ _ _ hm hj
  have hle : h2 - ((is.take h2).reverse.takeWhile AIns.isAlloc).length ≤ h2 := Nat.sub_le _ _
  generalize h2 - ((is.take h2).reverse.takeWhile AIns.isAlloc).length = h1 at h hle ⊢
  obtain ⟨⟨⟨⟨⟨⟨⟨⟨a01, a02⟩, a03⟩, a1⟩, a2⟩, a3, a3'⟩, a4⟩, a5⟩, a6⟩ := h
  have tk : ∀ {n k : Nat} {i : AIns}, k < n → is[k]? = some i → (is.take n)[k]? = some i := by
    intro n k i hk hi
    rw [List.getElem?_take, if_pos hk]; exact hi
  refine ⟨a02, a03, a01, hle, a1, ?_, ?_, ?_, ?_, ?_, ?_⟩
  · intro k o e ho he hb
    have := a2 k (Array.getElem?_eq_some_iff.1 ho).1
    rw [ho] at this
    simp only [Array.all_eq_true_iff_forall_mem, Bool.or_eq_true, Bool.not_eq_true', decide_eq_true_eq] at this
    exact (this e he).resolve_left (by rw [hb]; simp)
  · intro k i hk hi
    have := a3 (k, i) (by have := idx_get _ 0 k i (tk hk hi); simpa using this)
    simpa only [Bool.or_eq_true] using this
  · intro j k i i' hpj hjk hk hi hi' hc hc'
    have h0 := a3' (k, i') (by have := idx_get _ 0 k i' (tk hk hi'); simpa using this)
    rw [hc', Bool.not_true, Bool.false_or, List.all_eq_true] at h0
    have := h0 (j, i) (by have := idx_get _ 0 j i (tk (Nat.lt_trans hjk hk) hi); simpa using this)
    simp only [hc, Bool.not_true, Bool.false_or, Bool.or_eq_true, decide_eq_true_eq] at this
    rcases this with (h | h) | h
    · omega
    · omega
    · exact hw' _ _ h
  · intro k i hk1 hk2 hi
    have := a5 (k, i) (by have := idx_get _ 0 k i (tk hk2 hi); simpa using this)
    simp only [Bool.or_eq_true, decide_eq_true_eq, Bool.and_eq_true] at this
    obtain ⟨b1, b2⟩ := this.resolve_left (by omega)
    obtain ⟨d, op, gd⟩ := i
    unfold AIns.isAlloc at b1
    split at b1
    · rename_i d' zs heq
      cases heq
      simp only at b2
      refine ⟨d', zs, rfl, fun j i' hj hne hi' => ?_⟩
      exact freshOk_get b2 j i' (tk hj hi') (by simpa using hne)
    · cases b1
  · intro j k i i' hpj hjk hk hi hi' hm
    have hmm : meets i.writes i'.touch = true ∨ meets i'.writes i.touch = true := by
      rcases hm with ⟨t, x, y⟩ | ⟨t, x, y⟩
      · exact .inl (meets_true x y)
      · exact .inr (meets_true x y)
    have := a4 (k, i') (by have := idx_get _ 0 k i' (tk hk hi'); simpa using this)
    simp only [Bool.or_eq_true, decide_eq_true_eq] at this
    have := (pairsOk_get (this.resolve_left (by omega)) (j - p) i (by rw [List.getElem?_drop, show p + (j - p) = j by omega]; exact tk (by omega) hi) hmm).1
    rw [show p + (j - p) = j by omega] at this
    exact hw' _ _ (this hjk)
  · intro k j hpj hk hks hj
    have := a6 k hks
    simp only [Bool.or_eq_true, decide_eq_true_eq, beq_iff_eq] at this
    have := this.resolve_left (by omega)
    have hb := two_pow_bit hj
    rw [← this, Nat.testBit_or, Bool.or_eq_true] at hb
    refine hw' _ _ (hb.resolve_right ?_)
    rw [Nat.testBit_two_pow_sub_one]
    simp; omega
end Go.Proofs.YthahhonmkhafkaaDoor.Am

/- Blocks that are drawn before their time: they are nobody's, and later an object's. -/
namespace Go.Proofs.YthahhonmkhafkaaDoor.Am
set_option linter.unusedSimpArgs false
set_option linter.unusedVariables false
set_option linter.unusedSectionVars false
open Go
set_option linter.unusedVariables false
set_option linter.unusedSimpArgs false

section
variable {g g' : G} {w w' : World} {Pr Pr2 : Nat → Prop} {s s' : St} {a a' : Act}

theorem RepC.pw (hp : ∀ b, g.kind b ≠ .free → Pr2 b → Pr b) {p : Place} {x : C} {v : Value} (h : RepC g w Pr p x v) : RepC g w Pr2 p x v := by
  cases x with
  | b x => exact h
  | osl k rows =>
    obtain ⟨h1, h2, h3⟩ := h
    refine ⟨h1, h2, h3.imp id ?_⟩
    rintro ⟨a, cap, h4, h5⟩
    refine ⟨a, cap, h4, h5.imp id ?_⟩
    rintro ⟨s1, s2, s3, s4, s5, s6⟩
    exact ⟨s1, s2, s3, s4, fun h => s5 (hp _ (by rw [s3]; simp) h), s6⟩
  | fn f fst cap => exact h
  | nilf => exact h

theorem RepV1.pw (hp : ∀ b, g.kind b ≠ .free → Pr2 b → Pr b) {r : Root} {path : List Nat} {x : V} {v : Value} (h : RepV1 g w Pr r path x v) : RepV1 g w Pr2 r path x v := by
  cases x with
  | c x => exact RepC.pw hp h
  | agg cs =>
    obtain ⟨arr, h1, h2, h3⟩ := h
    refine ⟨arr, h1, h2, fun i c hi => ?_⟩
    obtain ⟨u, k1, k2, k3⟩ := h3 i c hi
    exact ⟨u, k1, k2, RepC.pw hp k3⟩
  | tup vs => exact h

theorem RepV.pw (hp : ∀ b, g.kind b ≠ .free → Pr2 b → Pr b) {r : Root} {x : V} {v : Value} (h : RepV g w Pr r x v) : RepV g w Pr2 r x v := by
  cases x with
  | c x => exact RepV1.pw (x := .c x) (path := []) hp h
  | agg cs => exact RepV1.pw (x := .agg cs) (path := []) hp h
  | tup vs =>
    obtain ⟨arr, h1, h2⟩ := h
    refine ⟨arr, h1, fun i x hi => ?_⟩
    obtain ⟨u, k1, k2⟩ := h2 i x hi
    exact ⟨u, k1, RepV1.pw hp k2⟩

theorem RepOb.pw (hp : ∀ b, g.kind b ≠ .free → Pr2 b → Pr b) {l : Nat} {x : Ob} (h : RepOb g w Pr l x) : RepOb g w Pr2 l x := by
  cases x with
  | cells cs =>
    obtain ⟨b, o, arr, ty, h1, h2, h3, h4, h5⟩ := h
    refine ⟨b, o, arr, ty, h1, h2, h3, h4, fun i c hi => ?_⟩
    obtain ⟨u, k1, k2, k3⟩ := h5 i c hi
    exact ⟨u, k1, k2, RepC.pw hp k3⟩
  | map es =>
    obtain ⟨b, o, mes, clock, h1, h2, h3, h4, h5⟩ := h
    refine ⟨b, o, mes, clock, h1, h2, h3, h4, fun i k v hi => ?_⟩
    obtain ⟨m, k1, k2, k3⟩ := h5 i k v hi
    exact ⟨m, k1, RepV1.pw hp k2, RepV1.pw hp k3⟩
  | dead => trivial
  | blank n => exact h

theorem EnvOk.pw (hp : ∀ b, g.kind b ≠ .free → Pr2 b → Pr b) {env : Env} (h : EnvOk g w Pr env a) : EnvOk g w Pr2 env a := fun t => RepV.pw hp (h t)

theorem Inv.pr' {σ : List Ob} (hI : Inv g w Pr σ) (hp : ∀ b, g.kind b ≠ .free → Pr2 b → Pr b) (hq : ∀ b, Pr2 b → b < w.heap.size ∧ (∀ l, g.kind b ≠ .obj l) ∧ ∀ l i, g.own b ≠ some (.cell l, i)) : Inv g w Pr2 σ where
  len := hI.len
  ob l o h := RepOb.pw hp (hI.ob l o h)
  lt := hI.lt
  pr := hq
  gl := hI.gl

theorem InvA.less {N : Nat} (hA : InvA N g w Pr s a) (hp : ∀ b, Pr2 b → Pr b) : InvA N g w Pr2 s a :=
  ⟨hA.inv.pr' (fun b _ h => hp b h) (fun b h => hA.inv.pr b (hp b h)), hA.env.pw (fun b _ h => hp b h), hA.size, hA.defers⟩

/-- A block that is nobody's. -/
def G.noOwn (g : G) (b : Nat) : G := { g with own := fun x => if x = b then none else g.own x }

theorem lone_kind (hI : Inv g w Pr s.σ) : g.kind w.heap.size = .free := by
  cases h : g.kind w.heap.size with
  | free => rfl
  | _ => exact absurd (hI.lt _ (by rw [h]; simp)) (by omega)

theorem lone_ext (hI : Inv g w Pr s.σ) (o : Obj) : Ext g w (g.noOwn w.heap.size) (w.alloc o) where
  st x v h := by
    obtain ⟨h1, h2, h3⟩ := h
    have hlt : x.block < w.heap.size := hI.lt _ (by rcases h3 with h3 | ⟨n, h3, _⟩ <;> rw [h3] <;> simp)
    exact ⟨h1, by rw [alloc_cell hlt]; exact h2, h3⟩
  loc l x h := h
  size := by simp
  shape b arr ty fz h := ⟨arr, by rw [alloc_get b (Array.getElem?_eq_some_iff.mp h).1]; exact h, rfl⟩
  os := rfl
  tape := rfl
  output := rfl

theorem lone_keep (hI : Inv g w Pr s.σ) (p : Place) : Keep g (g.noOwn w.heap.size) p := by
  intro b n h1 h2
  have hlt : b < w.heap.size := hI.lt _ (by rw [h2]; simp)
  have hne : b ≠ w.heap.size := by omega
  exact ⟨by simpa [G.noOwn, hne] using h1, h2⟩

theorem lone_fr (hI : Inv g w Pr s.σ) (o : Obj) : Fr Pr g w (g.noOwn w.heap.size) (w.alloc o) := by
  intro b hb
  have hlt := (hI.pr b hb).1
  have hne : b ≠ w.heap.size := by omega
  exact ⟨alloc_get b hlt, rfl, by simp [G.noOwn, hne]⟩

/-- A new block that is nobody's, and is to stay so. -/
theorem lone {N : Nat} (hA : InvA N g w Pr s a) (o : Obj) : InvA N (g.noOwn w.heap.size) (w.alloc o) (fun b => Pr b ∨ b = w.heap.size) s a := by
  have hI := hA.inv
  have hE := lone_ext hI o
  have hinv : Inv (g.noOwn w.heap.size) (w.alloc o) Pr s.σ := by
    refine ⟨hI.len, fun l x hx => ?_, fun b hb => ?_, fun b hb => ?_, hI.gl.mono hE.st⟩
    · refine RepOb.frame hE (fun i => lone_keep hI _) ?_ (hI.ob l x hx)
      intro b hb
      have hlt : b < w.heap.size := hI.lt _ (by rw [hb]; simp)
      exact ⟨alloc_get b hlt, hb⟩
    · have := hI.lt b hb
      simp; omega
    · obtain ⟨h1, h2, h3⟩ := hI.pr b hb
      have hne : b ≠ w.heap.size := by omega
      exact ⟨by simp; omega, h2, by simpa [G.noOwn, hne] using h3⟩
  have hk : (g.noOwn w.heap.size).kind w.heap.size = .free := lone_kind (g := g) (s := s) hI
  have hpr : ∀ b, (g.noOwn w.heap.size).kind b ≠ .free → (Pr b ∨ b = w.heap.size) → Pr b := by
    rintro b h1 (h2 | rfl)
    · exact h2
    · exact absurd hk h1
  refine ⟨hinv.pr' hpr ?_, EnvOk.pw hpr (hA.env.ext hE (fun _ _ => lone_keep hI _)), hA.size, hA.defers⟩
  rintro b (hb | rfl)
  · exact hinv.pr b hb
  · exact ⟨by simp, by rw [hk]; simp, by simp [G.noOwn]⟩

/-- Such a block becomes an object. -/
def G.adopt (g : G) (b l : Nat) : G := (g.withKind b (.obj l)).withLoc (b, 0)

theorem adopt_ext {b l : Nat} (hk : g.kind b = .free) : Ext g w (g.adopt b l) w where
  st x v h := by
    obtain ⟨h1, h2, h3⟩ := h
    have hne : x.block ≠ b := by rintro rfl; rcases h3 with h3 | ⟨n, h3, _⟩ <;> rw [hk] at h3 <;> cases h3
    exact ⟨h1, h2, by simpa [G.adopt, G.withKind, G.withLoc, hne] using h3⟩
  loc l x h := loc_old h
  size := Nat.le_refl _
  shape b arr ty fz h := ⟨arr, h, rfl⟩
  os := rfl
  tape := rfl
  output := rfl

theorem adopt_keep {b l : Nat} (hk : g.kind b = .free) (p : Place) : Keep g (g.adopt b l) p := by
  intro x n h1 h2
  have hne : x ≠ b := by rintro rfl; rw [hk] at h2; cases h2
  exact ⟨h1, by simpa [G.adopt, G.withKind, G.withLoc, hne] using h2⟩

theorem adopt_inv {N : Nat} (hA : InvA N g w Pr s a) {b : Nat} {arr : Array Value} {ty : TypeId} {zs : List C} (hk : g.kind b = .free) (hb : w.heap[b]? = some (.cells arr ty (0, 0))) (hl : zs.length ≤ arr.size)
    (hc : ∀ (i : Nat) (c : C), zs[i]? = some c → ∃ u, arr[i]? = some u ∧ u.oneCell' = true ∧ ∀ p, RepC g w Pr p c u) {d : Nat} (hd : a.tmps.getD d undef = .pointer (some ⟨b, 0, none⟩)) :
    InvA N (g.adopt b s.σ.length) w (fun x => Pr x ∧ x ≠ b) ⟨(d, .c (.b (.ptr s.σ.length 0))) :: s.env, s.σ ++ [.cells zs]⟩ a := by
  have hI := hA.inv
  have hE : Ext g w (g.adopt b s.σ.length) w := adopt_ext hk
  have hpr : ∀ x, (g.adopt b s.σ.length).kind x ≠ .free → (Pr x ∧ x ≠ b) → Pr x := fun x _ h => h.1
  have hloc : (g.adopt b s.σ.length).loc[s.σ.length]? = some (b, 0) := by simp [G.adopt, G.withLoc, G.withKind, ← hI.len]
  refine ⟨⟨by simp [G.adopt, G.withLoc, G.withKind, hI.len], fun l x hx => ?_, fun x hx => ?_, fun x hx => ?_, hI.gl.mono hE.st⟩, fun t => ?_, hA.size, hA.defers⟩
  · by_cases hlt : l < s.σ.length
    · rw [List.getElem?_append_left hlt] at hx
      refine RepOb.pw hpr (RepOb.frame hE (fun i => adopt_keep hk _) ?_ (hI.ob l x hx))
      intro y hy
      have hne : y ≠ b := by rintro rfl; rw [hk] at hy; cases hy
      exact ⟨rfl, by simpa [G.adopt, G.withKind, G.withLoc, hne] using hy⟩
    · rw [List.getElem?_append_right (by omega)] at hx
      have : l = s.σ.length := by
        have := (List.getElem?_eq_some_iff.mp hx).1
        simp at this; omega
      subst this
      simp at hx
      subst hx
      refine ⟨b, 0, arr, ty, hloc, by simp [G.adopt, G.withKind, G.withLoc], hb, by omega, fun i c hi => ?_⟩
      obtain ⟨u, k1, k2, k3⟩ := hc i c hi
      exact ⟨u, by simpa using k1, k2, RepC.pw hpr (RepC.ext hE (adopt_keep hk _) (k3 _))⟩
  · by_cases he : x = b
    · subst he; exact (Array.getElem?_eq_some_iff.1 hb).1
    · exact hI.lt x (by simpa [G.adopt, G.withKind, G.withLoc, he] using hx)
  · obtain ⟨h1, h2, h3⟩ := hI.pr x hx.1
    exact ⟨h1, by simpa [G.adopt, G.withKind, G.withLoc, hx.2] using h2, h3⟩
  · show RepV _ _ _ _ (Env.get ((d, _) :: s.env) t) _
    rw [env_get_cons]
    split
    · rename_i e; subst e; rw [hd]; exact ⟨b, 0, hloc, by simp⟩
    · exact RepV.pw hpr (RepV.ext hE (fun _ => adopt_keep hk _) (hA.env t))
end
end Go.Proofs.YthahhonmkhafkaaDoor.Am

/- Regions that draw their order: the proof. -/
namespace Go.Proofs.YthahhonmkhafkaaDoor.Am
set_option linter.unusedSimpArgs false
set_option linter.unusedVariables false
set_option linter.unusedSectionVars false
open Go
set_option linter.unusedVariables false
set_option linter.unusedSimpArgs false

abbrev Ld (listed : Array Bool) (j : Nat) : Prop := listed.getD j false = true

theorem ld_set {listed : Array Bool} {i j : Nat} (hi : i < listed.size) : Ld (listed.setIfInBounds i true) j ↔ (j = i ∨ Ld listed j) := by
  unfold Ld
  simp only [Array.getD_eq_getD_getElem?]
  by_cases h : j = i
  · subst h; simp [hi]
  · rw [Array.getElem?_setIfInBounds_ne (fun e => h e.symm)]; simp [h]

def Closed (ops : Array Oper) (listed : Array Bool) : Prop := ∀ (k : Nat) (o : Oper) (e : Edge), Ld listed k → ops[k]? = some o → e ∈ o.after → Region.binds .any e = true → Ld listed e.on

theorem waits_ld {ops : Array Oper} {listed : Array Bool} (hc : Closed ops listed) {k j : Nat} (h : Waits ops k j) : (∀ (o : Oper) (e : Edge), ops[k]? = some o → e ∈ o.after → Region.binds .any e = true → Ld listed e.on) → Ld listed j := by
  induction h with
  | edge h1 h2 h3 => exact fun h => h _ _ h1 h2 h3
  | step h1 h2 h3 _ ih => exact fun h => ih fun o e a b c => hc _ o e (h _ _ h1 h2 h3) a b c

theorem cnt_set : ∀ (l : List Bool) (i : Nat), l[i]? = some false → (l.set i true).count false + 1 = l.count false
  | [], i, h => by simp at h
  | b :: l, 0, h => by simp at h; subst h; simp
  | b :: l, i + 1, h => by
    have := cnt_set l i (by simpa using h)
    simp only [List.set_cons_succ, List.count_cons]
    omega

theorem ready_nil {ops : Array Oper} {is : List AIns} {p h1 h2 : Nat} (hd : Dr ops is p h1 h2) {listed : Array Bool} (hsz : listed.size = ops.size) (h : Region.ready .any ops listed = []) : ∀ k, k < ops.size → Ld listed k := by
  intro k
  induction k using Nat.strongRecOn with
  | _ k ih =>
    intro hk
    refine Decidable.byContradiction fun hn => ?_
    have : k ∈ Region.ready .any ops listed := by
      rw [mem_ready]
      refine ⟨?_, ops[k], by simp [hk], fun e he hb => ih _ (hd.back k ops[k] e (by simp [hk]) he hb) (by have := hd.back k ops[k] e (by simp [hk]) he hb; omega)⟩
      unfold Ld at hn
      simp only [Array.getD_eq_getD_getElem?] at hn ⊢
      have : k < listed.size := by omega
      simp only [this, getElem?_pos, Option.getD_some] at hn ⊢
      simpa using hn
    rw [h] at this
    cases this

section
variable {P : Program} {N : Nat} {F : Oracle} {bd : Bd} {ops : Array Oper} {is : List AIns} {p h1 h2 : Nat} {S : Nat → St} {g0 : G} {w0 : World} {Pr : Nat → Prop}

def Writes (is : List AIns) (k t : Nat) : Prop := ∃ i, is[k]? = some i ∧ t ∈ i.writes

/-- The text's states. -/
def Text (F : Oracle) (bd : Bd) (is : List AIns) (S : Nat → St) : Prop := ∀ (k : Nat) (i : AIns), is[k]? = some i → stepIns F bd (S k) i = some (S (k + 1))

/-- Up to the head's end. -/
def TextB (F : Oracle) (bd : Bd) (is : List AIns) (S : Nat → St) (n : Nat) : Prop := ∀ (k : Nat) (i : AIns), is[k]? = some i → k < n → stepIns F bd (S k) i = some (S (k + 1))

theorem text_of : ∀ (is : List AIns) (s s' : St), stepAll F bd s is = some s' → ∃ S, S 0 = s ∧ S is.length = s' ∧ Text F bd is S
  | [], s, s', h => by
    simp only [stepAll, Option.some.injEq] at h
    exact ⟨fun _ => s, rfl, h, fun k i hk => by simp at hk⟩
  | i :: is, s, s', h => by
    simp only [stepAll] at h
    split at h
    case h_2 => cases h
    rename_i s1 hs1
    obtain ⟨S, e1, e2, e3⟩ := text_of is s1 s' h
    refine ⟨fun | 0 => s | k + 1 => S k, rfl, e2, ?_⟩
    intro k x hk
    cases k with
    | zero => simp at hk; subst hk; simp only [e1]; exact hs1
    | succ k => exact e3 k x (by simpa using hk)

theorem head_keeps {i : AIns} {s s1 : St} (hK : KeepF F) (hh : headOp i.op = true ∨ headCall i.op = true) (h : stepIns F bd s i = some s1) : ∀ t, t ∉ i.writes → s1.env.get t = s.env.get t := by
  rcases hh with hh | hh
  · exact (ins_same (s2 := s) hh (fun _ _ _ cs _ _ h => ⟨cs, h, rfl⟩) (fun _ _ => rfl) h).2.1
  · exact (call_same (s2 := s) hK hh rfl (fun _ _ => rfl) h).2.2.1

/-- Does it make objects? -/
def Makes (is : List AIns) (k : Nat) : Prop := ∃ i, is[k]? = some i ∧ headCall i.op = true

theorem text_lo (hK : KeepF F) (hd : Dr ops is p h1 h2) (hl : is.length = ops.size) (hS : TextB F bd is S h2) {a : Nat} : ∀ n, a + n ≤ h1 → (∀ j, a ≤ j → j < a + n → ¬ Makes is j) → (S (a + n)).σ = (S a).σ
  | 0, _, _ => rfl
  | n + 1, hk, hm => by
    have hlt : a + n < is.length := by have := hd.le1; have := hd.le2; omega
    have hi : is[a + n]? = some is[a + n] := by simp [hlt]
    have hh := (hd.head (a + n) _ (by omega) hi).resolve_right (fun h => hm (a + n) (by omega) (by omega) ⟨_, hi, h⟩)
    rw [show a + (n + 1) = a + n + 1 by omega, (ins_same (s2 := S (a + n)) hh (fun _ _ _ cs _ _ h => ⟨cs, h, rfl⟩) (fun _ _ => rfl) (hS _ _ hi (by have := hd.le1; omega))).1]
    exact text_lo hK hd hl hS n (by omega) (fun j h3 h4 => hm j h3 (by omega))

theorem text_eq (hK : KeepF F) (hd : Dr ops is p h1 h2) (hl : is.length = ops.size) (hS : TextB F bd is S h2) {a b : Nat} (hab : a ≤ b) (hb : b ≤ h1) (hm : ∀ j, a ≤ j → j < b → ¬ Makes is j) : (S b).σ = (S a).σ := by
  have := text_lo hK hd hl hS (a := a) (b - a) (by omega) (fun j h3 h4 => hm j h3 (by omega))
  rwa [show a + (b - a) = b by omega] at this

theorem text_ext (hK : KeepF F) (hd : Dr ops is p h1 h2) (hl : is.length = ops.size) (hS : TextB F bd is S h2) {a : Nat} : ∀ n, a + n ≤ h1 → (S a).σ.length ≤ (S (a + n)).σ.length ∧ ∀ l, l < (S a).σ.length → (S (a + n)).σ[l]? = (S a).σ[l]?
  | 0, _ => ⟨Nat.le_refl _, fun _ _ => rfl⟩
  | n + 1, hk => by
    have hlt : a + n < is.length := by have := hd.le1; have := hd.le2; omega
    have hi : is[a + n]? = some is[a + n] := by simp [hlt]
    obtain ⟨h3, h4⟩ := text_ext hK hd hl hS (a := a) n (by omega)
    rw [show a + (n + 1) = a + n + 1 by omega]
    rcases hd.head (a + n) _ (by omega) hi with hh | hh
    · rw [(ins_same (s2 := S (a + n)) hh (fun _ _ _ cs _ _ h => ⟨cs, h, rfl⟩) (fun _ _ => rfl) (hS _ _ hi (by have := hd.le1; omega))).1]
      exact ⟨h3, h4⟩
    · obtain ⟨k1, k2, _⟩ := call_same (s2 := S (a + n)) hK hh rfl (fun _ _ => rfl) (hS _ _ hi (by have := hd.le1; omega))
      exact ⟨Nat.le_trans h3 k1, fun l hl => (k2 l (by omega)).trans (h4 l hl)⟩

theorem text_sub (hK : KeepF F) (hd : Dr ops is p h1 h2) (hl : is.length = ops.size) (hS : TextB F bd is S h2) {a b : Nat} (hab : a ≤ b) (hb : b ≤ h1) : ∀ l, l < (S a).σ.length → (S b).σ[l]? = (S a).σ[l]? := by
  have := (text_ext hK hd hl hS (a := a) (b - a) (by omega)).2
  rwa [show a + (b - a) = b by omega] at this

theorem text_env (hK : KeepF F) (hd : Dr ops is p h1 h2) (hl : is.length = ops.size) (hS : TextB F bd is S h2) {t a : Nat} : ∀ b, a ≤ b → b ≤ h1 → (∀ j, a ≤ j → j < b → ¬ Writes is j t) → (S b).env.get t = (S a).env.get t
  | b, hab, hb, hw => by
    rcases Nat.lt_or_ge a b with hlt | hge
    · obtain ⟨e, rfl⟩ : ∃ e, b = e + 1 := ⟨b - 1, by omega⟩
      have hlt' : e < is.length := by have := hd.le1; have := hd.le2; omega
      have hi : is[e]? = some is[e] := by simp [hlt']
      rw [head_keeps hK (hd.head e _ (by omega) hi) (hS e _ hi (by have := hd.le1; omega)) t (fun h => hw e (by omega) (by omega) ⟨_, hi, h⟩)]
      exact text_env hK hd hl hS e (by omega) (by omega) (fun j x y => hw j x (by omega))
    · have : a = b := by omega
      subst this; rfl

/-- The objects, somewhere in the head: those of the makers that are listed. -/
def Fits (is : List AIns) (S : Nat → St) (h1 : Nat) (listed : Array Bool) (σ : List Ob) : Prop :=
  ∃ x, x ≤ h1 ∧ σ = (S x).σ ∧ (∀ j, j < x → Makes is j → Ld listed j) ∧ ∀ j, x ≤ j → j < h1 → Makes is j → ¬ Ld listed j

theorem fits_set {listed : Array Bool} {σ : List Ob} {k : Nat} (hks : k < listed.size) (h : Fits is S h1 listed σ) (hk : ¬ (k < h1 ∧ Makes is k)) : Fits is S h1 (listed.setIfInBounds k true) σ := by
  obtain ⟨x, x1, x2, x3, x4⟩ := h
  refine ⟨x, x1, x2, fun j hj hm => (ld_set hks).2 (.inr (x3 j hj hm)), fun j hj hj1 hm hld => ?_⟩
  rcases (ld_set hks).1 hld with rfl | hld
  · exact hk ⟨hj1, hm⟩
  · exact x4 j hj hj1 hm hld

/-- A block that was drawn for the k-th instruction. -/
structure Drawn (is : List AIns) (h1 h2 : Nat) (g : G) (w0 w : World) (a : Act) (k b : Nat) : Prop where
  lo : h1 ≤ k
  hi : k < h2
  free : g.kind b = .free
  new : w0.heap.size ≤ b
  ins : ∃ d zs arr ty, is[k]? = some ⟨some d, .alloc zs, none⟩ ∧ a.tmps.getD d undef = .pointer (some ⟨b, 0, none⟩) ∧ w.heap[b]? = some (.cells arr ty (0, 0)) ∧ zs.length ≤ arr.size ∧
    ∀ (i : Nat) (c : C), zs[i]? = some c → ∃ u, arr[i]? = some u ∧ u.oneCell' = true ∧ ∀ g w Pr p, RepC g w Pr p c u

/-- Somewhere in the head. -/
structure Head (P : Program) (N : Nat) (ops : Array Oper) (is : List AIns) (p h1 h2 : Nat) (S : Nat → St) (g0 : G) (w0 : World) (Pr : Nat → Prop) (listed : Array Bool) (a : Act) (w : World)
    (g : G) (sc : St) (blk : Nat → Option Nat) : Prop where
  closed : Closed ops listed
  pre : ∀ j, j < p → Ld listed j
  none : ∀ k, h2 ≤ k → ¬ Ld listed k
  ext : Ext g0 w0 g w
  fr : Fr Pr g0 w0 g w
  inv : InvA N g w (fun b => Pr b ∨ ∃ k, blk k = some b) sc a
  σ : Fits is S h1 listed sc.σ
  env : ∀ t, (∀ (k : Nat) (i : AIns), h1 ≤ k → k < h2 → is[k]? = some i → i.dst ≠ some t) →
    (∃ k, k < h1 ∧ Ld listed k ∧ Writes is k t ∧ (∀ j, j < h1 → Ld listed j → Writes is j t → j ≤ k) ∧ sc.env.get t = (S (k + 1)).env.get t) ∨
    ((∀ j, j < h1 → Ld listed j → ¬ Writes is j t) ∧ sc.env.get t = (S 0).env.get t)
  pend : ∀ k b, blk k = some b → Drawn is h1 h2 g w0 w a k b
  all : ∀ k, h1 ≤ k → k < h2 → Ld listed k → ∃ b, blk k = some b
  inj : ∀ k k' b, blk k = some b → blk k' = some b → k = k'

/-- Behind the head: the text's order. -/
def Tail (N : Nat) (ops : Array Oper) (h2 : Nat) (S : Nat → St) (g0 : G) (w0 : World) (Pr : Nat → Prop) (listed : Array Bool) (a : Act) (w : World) (n : Nat) : Prop :=
  h2 ≤ n ∧ n ≤ ops.size ∧ (∀ j, Ld listed j ↔ j < n) ∧ Behind N g0 w0 Pr (S n) a w

theorem alloc_step {bd : Bd} {s s' : St} {d : Nat} {zs : List C} (h : stepIns F bd s ⟨some d, .alloc zs, none⟩ = some s') : s' = ⟨(d, .c (.b (.ptr s.σ.length 0))) :: s.env, s.σ ++ [.cells zs]⟩ := by
  simp only [stepIns, stepOp, Option.some.injEq] at h
  rw [← h]; rfl

/-- The head is done. -/
theorem head_done (hK : KeepF F) (hd : Dr ops is p h1 h2) (hl : is.length = ops.size) (hS : TextB F bd is S h2) (hpr0 : ∀ b, Pr b → b < w0.heap.size) {listed : Array Bool} (hsz : listed.size = ops.size) {a : Act} {w : World} {g : G} {sc : St} {blk : Nat → Option Nat}
    (hH : Head P N ops is p h1 h2 S g0 w0 Pr listed a w g sc blk) (hall : ∀ k, k < h2 → Ld listed k) : ∃ g1, Ext g0 w0 g1 w ∧ Fr Pr g0 w0 g1 w ∧ InvA N g1 w Pr (S h2) a := by
  have key : ∀ n, h1 + n ≤ h2 → ∃ g sc, Ext g0 w0 g w ∧ Fr Pr g0 w0 g w ∧ InvA N g w (fun b => Pr b ∨ ∃ k, h1 + n ≤ k ∧ blk k = some b) sc a ∧ sc.σ = (S (h1 + n)).σ ∧
      (∀ t, (∀ (k : Nat) (i : AIns), h1 + n ≤ k → k < h2 → is[k]? = some i → i.dst ≠ some t) → sc.env.get t = (S (h1 + n)).env.get t) ∧ (∀ k b, h1 + n ≤ k → blk k = some b → Drawn is h1 h2 g w0 w a k b) := by
    intro n
    induction n with
    | zero =>
      intro hle
      refine ⟨g, sc, hH.ext, hH.fr, hH.inv.less ?_, ?_, ?_, fun k b _ h => hH.pend k b h⟩
      · rintro b (h | ⟨k, _, h⟩)
        · exact .inl h
        · exact .inr ⟨k, h⟩
      · rw [Nat.add_zero]
        obtain ⟨x, x1, x2, x3, x4⟩ := hH.σ
        rw [x2]
        exact (text_eq hK hd hl hS x1 (Nat.le_refl _) (fun j hj hj1 hm => x4 j hj hj1 hm (hall j (by have := hd.le1; omega)))).symm
      · intro t ht
        simp only [Nat.add_zero] at ht ⊢
        rcases hH.env t ht with ⟨k, k1, k2, k3, k4, k5⟩ | ⟨k1, k2⟩
        · rw [k5]
          exact (text_env hK hd hl hS (t := t) (a := k + 1) h1 (by omega) (Nat.le_refl _) (fun j x y z => by have := k4 j y (hall j (by have := hd.le1; omega)) z; omega)).symm
        · rw [k2]
          exact (text_env hK hd hl hS (t := t) (a := 0) h1 (by omega) (Nat.le_refl _) (fun j x y z => k1 j y (hall j (by have := hd.le1; omega)) z)).symm
    | succ n ih =>
      intro hle
      obtain ⟨g, sc, x1, x2, x3, x4, x5, x6⟩ := ih (by omega)
      obtain ⟨b, hb⟩ := hH.all (h1 + n) (by omega) (by omega) (hall _ (by omega))
      have hD := x6 (h1 + n) b (Nat.le_refl _) hb
      obtain ⟨d, zs, arr, ty, y1, y2, y3, y4, y5⟩ := hD.ins
      have hst := alloc_step (hS _ _ y1 (by omega))
      have hA := adopt_inv x3 hD.free y3 y4 (fun i c hi => by obtain ⟨u, z1, z2, z3⟩ := y5 i c hi; exact ⟨u, z1, z2, z3 _ _ _⟩) y2
      have hE : Ext g w (g.adopt b sc.σ.length) w := adopt_ext hD.free
      refine ⟨_, _, x1.trans hE, x2.trans ?_, hA.less ?_, ?_, ?_, ?_⟩
      · intro x hx
        have hne : x ≠ b := by have := hpr0 x hx; have := hD.new; omega
        exact ⟨rfl, by simp [G.adopt, G.withKind, G.withLoc, hne], rfl⟩
      · rintro x (hx | ⟨k, hk, hx⟩)
        · exact ⟨.inl hx, by have := hpr0 x hx; have := hD.new; omega⟩
        · refine ⟨.inr ⟨k, by omega, hx⟩, ?_⟩
          rintro rfl
          have := hH.inj _ _ _ hb hx
          omega
      · rw [show h1 + (n + 1) = h1 + n + 1 by omega, hst, ← x4]
      · intro t ht
        rw [show h1 + (n + 1) = h1 + n + 1 by omega, hst]
        show Env.get ((d, _) :: sc.env) t = Env.get ((d, _) :: _) t
        rw [env_get_cons, env_get_cons, x4]
        split
        · rfl
        · rename_i hne
          refine x5 t ?_
          intro k i hk1 hk2 hk3 hdst
          by_cases e : k = h1 + n
          · subst e; rw [y1] at hk3; cases hk3; simp only [Option.some.injEq] at hdst; exact hne hdst
          · exact ht k i (by omega) hk2 hk3 hdst
      · intro k b' hk hb'
        obtain ⟨z1, z2, z3, z4, z5⟩ := x6 k b' (by omega) hb'
        have hne : b' ≠ b := by
          rintro rfl
          have := hH.inj _ _ _ hb hb'
          omega
        exact ⟨z1, z2, by simpa [G.adopt, G.withKind, G.withLoc, hne] using z3, z4, z5⟩
  obtain ⟨g1, sc1, x1, x2, x3, x4, x5, x6⟩ := key (h2 - h1) (by have := hd.le1; omega)
  have e : h1 + (h2 - h1) = h2 := by have := hd.le1; omega
  rw [e] at x3 x4 x5 x6
  refine ⟨g1, x1, x2, ?_⟩
  have hA := x3.less (Pr2 := Pr) (fun b hb => .inl hb)
  refine ⟨by rw [← x4]; exact hA.inv, fun t => ?_, hA.size, hA.defers⟩
  rw [← x5 t (fun k i h3 h4 => by omega)]
  exact hA.env t

/-- What an instruction of the head finds. -/
theorem head_sees (hK : KeepF F) (hd : Dr ops is p h1 h2) (hl : is.length = ops.size) (hS : TextB F bd is S h2) {listed : Array Bool} {a : Act} {w : World} {g : G} {sc : St} {blk : Nat → Option Nat}
    (hH : Head P N ops is p h1 h2 S g0 w0 Pr listed a w g sc blk) {k : Nat} {i : AIns} (hk : k < h1) (hi : is[k]? = some i) (hun : ¬ Ld listed k)
    (hrd : ∀ (o : Oper) (e : Edge), ops[k]? = some o → e ∈ o.after → Region.binds .any e = true → Ld listed e.on) {t : Nat} (ht : t ∈ i.touch) : sc.env.get t = (S k).env.get t := by
  have hpk : p ≤ k := Nat.le_of_not_lt fun h => hun (hH.pre k h)
  have hbefore : ∀ j, j < k → Writes is j t → Ld listed j := fun j hj ⟨i', hi', hw⟩ => by
    rcases Nat.lt_or_ge j p with hp | hp
    · exact hH.pre j hp
    · exact waits_ld hH.closed (hd.order j k i' i hp hj hk hi' hi (.inl ⟨t, hw, ht⟩)) hrd
  have hafter : ∀ j, k < j → j < h1 → Writes is j t → ¬ Ld listed j := fun j hj hj1 ⟨i', hi', hw⟩ hld =>
    hun (waits_ld hH.closed (hd.order k j i i' hpk hj hj1 hi hi' (.inr ⟨t, hw, ht⟩)) (fun o e => hH.closed j o e hld))
  have hfresh : ∀ (k' : Nat) (i' : AIns), h1 ≤ k' → k' < h2 → is[k']? = some i' → i'.dst ≠ some t := by
    intro k' i' x y z hdst
    obtain ⟨d, zs, rfl, hf⟩ := hd.fresh k' i' x y z
    simp only [Option.some.injEq] at hdst
    subst hdst
    exact hf k i (by omega) (by omega) hi ht
  rcases hH.env t hfresh with ⟨j, j1, j2, j3, j4, j5⟩ | ⟨j1, j2⟩
  · have hjk : j < k := by
      rcases Nat.lt_trichotomy j k with h | h | h
      · exact h
      · subst h; exact absurd j2 hun
      · exact absurd j2 (hafter j h j1 j3)
    rw [j5]
    exact (text_env hK hd hl hS (t := t) (a := j + 1) k (by omega) (by omega) (fun x x1 x2 x3 => by have := j4 x (by omega) (hbefore x x2 x3) x3; omega)).symm
  · rw [j2]
    exact (text_env hK hd hl hS (t := t) (a := 0) k (by omega) (by omega) (fun x x1 x2 x3 => j1 x (by omega) (hbefore x x2 x3) x3)).symm

theorem put_other {a : Act} {d : Option Tmp} {u : Value} {t : Nat} (h : d ≠ some t) : (a.put d u).tmps.getD t undef = a.tmps.getD t undef := by
  cases d with
  | none => rfl
  | some d =>
    simp only [Act.put, Array.getD_eq_getD_getElem?]
    rw [Array.getElem?_setIfInBounds_ne (fun e => h (by rw [e]))]

theorem chkAll_get : ∀ {os : List Oper} {is : List AIns}, chkAll P N ops os is = true → is.length = os.length ∧ ∀ (k : Nat) (o : Oper) (i : AIns), os[k]? = some o → is[k]? = some i → chkIns P N ops o i = true
  | [], [], _ => ⟨rfl, fun k o i h => by simp at h⟩
  | [], _ :: _, h => by simp [chkAll] at h
  | _ :: _, [], h => by simp [chkAll] at h
  | o :: os, i :: is, h => by
    simp only [chkAll, Bool.and_eq_true] at h
    obtain ⟨h1, h2⟩ := chkAll_get h.2
    refine ⟨by simp [h1], fun k x y hx hy => ?_⟩
    cases k with
    | zero => simp at hx hy; subst hx hy; exact h.1
    | succ k => exact h2 k x y (by simpa using hx) (by simpa using hy)

/-- One instruction more of the head: not an allocation. -/
theorem head_more (hd : Dr ops is p h1 h2) (hl : is.length = ops.size) (hS : TextB F bd is S h2) {listed : Array Bool} (hsz : listed.size = ops.size) {a : Act} {w : World} {g : G} {sc : St} {blk : Nat → Option Nat}
    (hH : Head P N ops is p h1 h2 S g0 w0 Pr listed a w g sc blk) {k : Nat} {o : Oper} {i : AIns} (hk : k < h1) (ho : ops[k]? = some o) (hi : is[k]? = some i) (hun : ¬ Ld listed k)
    (hrd : ∀ (o : Oper) (e : Edge), ops[k]? = some o → e ∈ o.after → Region.binds .any e = true → Ld listed e.on) {s3 : St} (h3 : Fits is S h1 (listed.setIfInBounds k true) s3.σ)
    (hw : ∀ t ∈ i.writes, s3.env.get t = (S (k + 1)).env.get t) (hnw : ∀ t, t ∉ i.writes → s3.env.get t = sc.env.get t) {a' : Act} {w' : World} {u : Value} (ha' : a' = a.put i.dst u)
    (hB : Behind N g w (fun b => Pr b ∨ ∃ k, blk k = some b) s3 a' w') : ∃ g', Head P N ops is p h1 h2 S g0 w0 Pr (listed.setIfInBounds k true) a' w' g' s3 blk := by
  obtain ⟨g', e1, e2, e3⟩ := hB
  have hks : k < listed.size := by rw [hsz]; exact (Array.getElem?_eq_some_iff.1 ho).1
  refine ⟨g', ⟨?_, fun j hj => (ld_set hks).2 (.inr (hH.pre j hj)), ?_, hH.ext.trans e1, hH.fr.trans (fun b hb => e2 b (.inl hb)), e3, h3, ?_, ?_, ?_, hH.inj⟩⟩
  · intro j oj e hj h4 h5 h6
    rw [ld_set hks] at hj ⊢
    rcases hj with rfl | hj
    · exact .inr (hrd oj e h4 h5 h6)
    · exact .inr (hH.closed j oj e hj h4 h5 h6)
  · intro j hj h
    rw [ld_set hks] at h
    rcases h with rfl | h
    · have := hd.le1; omega
    · exact hH.none j hj h
  · intro t ht
    by_cases hwt : t ∈ i.writes
    · refine .inl ⟨k, hk, (ld_set hks).2 (.inl rfl), ⟨i, hi, hwt⟩, ?_, hw t hwt⟩
      intro j hj hld hwj
      rw [ld_set hks] at hld
      rcases hld with rfl | hld
      · exact Nat.le_refl _
      · refine Nat.le_of_not_lt fun hlt => ?_
        obtain ⟨i', hi', hw'⟩ := hwj
        have htt : t ∈ i.touch := by
          simp only [AIns.writes, List.mem_append] at hwt
          rcases hwt with hwt | hwt
          · have : t ∈ i.op.reads := by
              cases hop : i.op <;> simp only [hop, AOp.takes, List.not_mem_nil] at hwt
              rename_i m x
              cases m <;> simp_all [AOp.reads]
            simp [AIns.touch, this]
          · simp only [AIns.touch, List.mem_append]; exact .inr hwt
        exact hun (waits_ld hH.closed (hd.order k j i i' (Nat.le_of_not_lt fun h => hun (hH.pre k h)) hlt hj hi hi' (.inr ⟨t, hw', htt⟩)) (fun o e => hH.closed j o e hld))
    · rw [hnw t hwt]
      rcases hH.env t ht with ⟨j, j1, j2, j3, j4, j5⟩ | ⟨j1, j2⟩
      · refine .inl ⟨j, j1, (ld_set hks).2 (.inr j2), j3, ?_, j5⟩
        intro x hx hld hwx
        rw [ld_set hks] at hld
        rcases hld with rfl | hld
        · obtain ⟨i', hi', hw'⟩ := hwx
          rw [hi] at hi'; cases hi'
          exact absurd hw' hwt
        · exact j4 x hx hld hwx
      · refine .inr ⟨?_, j2⟩
        intro x hx hld hwx
        rw [ld_set hks] at hld
        rcases hld with rfl | hld
        · obtain ⟨i', hi', hw'⟩ := hwx
          rw [hi] at hi'; cases hi'
          exact absurd hw' hwt
        · exact j1 x hx hld hwx
  · intro j b hb
    obtain ⟨z1, z2, z3, z4, d, zs, arr, ty, y1, y2, y3, y4, y5⟩ := hH.pend j b hb
    obtain ⟨f1, f2, f3⟩ := e2 b (.inr ⟨j, hb⟩)
    refine ⟨z1, z2, by rw [f2]; exact z3, z4, d, zs, arr, ty, y1, ?_, by rw [f1]; exact y3, y4, y5⟩
    rw [ha', put_other, y2]
    intro hdst
    obtain ⟨d', zs', e, hf⟩ := hd.fresh j _ z1 z2 y1
    cases e
    exact hf k i (by omega) (by omega) hi (by simp [AIns.touch, hdst])
  · intro j x y hld
    rw [ld_set hks] at hld
    rcases hld with rfl | hld
    · omega
    · exact hH.all j x y hld

theorem put_any {g : G} {w : World} {Pr : Nat → Prop} {s : St} {a : Act} {d : Nat} {u : Value} (hA : InvA N g w Pr s a) (hd : d < N) : InvA N g w Pr (s.set (some d) (.c (.b .any))) (a.put (some d) u) :=
  ⟨hA.inv, set_env hA.env (fun x hx => ⟨by cases hx; rw [hA.size]; exact hd, trivial⟩), by rw [put_size]; exact hA.size, by rw [put_defers]; exact hA.defers⟩

/-- One instruction more of the head: an allocation. -/
theorem head_alloc (hd : Dr ops is p h1 h2) (hl : is.length = ops.size) {listed : Array Bool} (hsz : listed.size = ops.size) {a : Act} {w : World} {g : G} {sc : St} {blk : Nat → Option Nat}
    (hH : Head P N ops is p h1 h2 S g0 w0 Pr listed a w g sc blk) {k : Nat} {o : Oper} {d : Nat} {zs : List C} (hk1 : h1 ≤ k) (hk2 : k < h2) (ho : ops[k]? = some o) (hi : is[k]? = some ⟨some d, .alloc zs, none⟩) (hun : ¬ Ld listed k)
    (hrd : ∀ (o : Oper) (e : Edge), ops[k]? = some o → e ∈ o.after → Region.binds .any e = true → Ld listed e.on) (hdN : d < N) {arr : Array Value} {ty : TypeId} (hz1 : zs.length ≤ arr.size)
    (hz2 : ∀ (i : Nat) (c : C), zs[i]? = some c → ∃ u, arr[i]? = some u ∧ u.oneCell' = true ∧ ∀ g w Pr p, RepC g w Pr p c u) :
    ∃ g' sc' blk', Head P N ops is p h1 h2 S g0 w0 Pr (listed.setIfInBounds k true) (a.put (some d) (.pointer (some ⟨w.heap.size, 0, none⟩))) (w.alloc (.cells arr ty)) g' sc' blk' := by
  have hI := hH.inv
  have hks : k < listed.size := by rw [hsz]; exact (Array.getElem?_eq_some_iff.1 ho).1
  have hA := lone hI (.cells arr ty)
  have hE := lone_ext hI.inv (.cells arr ty)
  have hF := lone_fr hI.inv (.cells arr ty)
  have hnb : ∀ j b, blk j = some b → b ≠ w.heap.size := by
    intro j b hb e
    obtain ⟨d', zs', arr', ty', y1, y2, y3, y4, y5⟩ := (hH.pend j b hb).ins
    have := (Array.getElem?_eq_some_iff.1 y3).1
    omega
  refine ⟨g.noOwn w.heap.size, sc.set (some d) (.c (.b .any)), fun x => if x = k then some w.heap.size else blk x, ⟨?_, fun j hj => (ld_set hks).2 (.inr (hH.pre j hj)), ?_, hH.ext.trans hE, hH.fr.trans (fun b hb => hF b (.inl hb)), ?_, fits_set hks hH.σ (fun h => by omega), ?_, ?_, ?_, ?_⟩⟩
  · intro j oj e hj h4 h5 h6
    rw [ld_set hks] at hj ⊢
    rcases hj with rfl | hj
    · exact .inr (hrd oj e h4 h5 h6)
    · exact .inr (hH.closed j oj e hj h4 h5 h6)
  · intro j hj h
    rw [ld_set hks] at h
    rcases h with rfl | h
    · omega
    · exact hH.none j hj h
  · refine put_any ?_ hdN
    refine hA.less ?_
    rintro b (hb | ⟨j, hj⟩)
    · exact .inl (.inl hb)
    · split at hj
      · cases hj; exact .inr rfl
      · exact .inl (.inr ⟨j, hj⟩)
  · intro t ht
    have hne : d ≠ t := fun e => ht k _ hk1 hk2 hi (by rw [e])
    have hget : (sc.set (some d) (.c (.b .any))).env.get t = sc.env.get t := by
      simp only [St.set]; rw [env_get_cons, if_neg hne]
    rw [hget]
    rcases hH.env t ht with ⟨j, j1, j2, j3, j4, j5⟩ | ⟨j1, j2⟩
    · refine .inl ⟨j, j1, (ld_set hks).2 (.inr j2), j3, ?_, j5⟩
      intro x hx hld hwx
      rw [ld_set hks] at hld
      rcases hld with rfl | hld
      · omega
      · exact j4 x hx hld hwx
    · refine .inr ⟨?_, j2⟩
      intro x hx hld hwx
      rw [ld_set hks] at hld
      rcases hld with rfl | hld
      · omega
      · exact j1 x hx hld hwx
  · intro j b hb
    by_cases hjk : j = k
    · subst hjk
      simp only [if_true, Option.some.injEq] at hb
      subst hb
      refine ⟨hk1, hk2, lone_kind (g := g) (s := sc) hI.inv, hH.ext.size, d, zs, arr, ty, hi, ?_, alloc_new, hz1, hz2⟩
      rw [put_get a d _ (by rw [hI.size]; exact hdN), if_pos rfl]
    · rw [if_neg hjk] at hb
      obtain ⟨z1, z2, z3, z4, d', zs', arr', ty', y1, y2, y3, y4, y5⟩ := hH.pend j b hb
      refine ⟨z1, z2, z3, z4, d', zs', arr', ty', y1, ?_, ?_, y4, y5⟩
      · rw [put_other, y2]
        intro e
        obtain ⟨d2, zs2, e2, hf⟩ := hd.fresh j _ z1 z2 y1
        cases e2
        exact hf k _ hk2 (fun e => hjk e.symm) hi (by simp [AIns.touch, e])
      · rw [alloc_get b (Array.getElem?_eq_some_iff.1 y3).1]; exact y3
  · intro j x y hld
    rw [ld_set hks] at hld
    by_cases hjk : j = k
    · exact ⟨_, by rw [if_pos hjk]⟩
    · obtain ⟨b, hb⟩ := hH.all j x y (hld.resolve_left hjk)
      exact ⟨b, by rw [if_neg hjk]; exact hb⟩
  · intro j j' b hj hj'
    by_cases h : j = k
    · by_cases h' : j' = k
      · rw [h, h']
      · rw [if_pos h] at hj; rw [if_neg h'] at hj'
        cases hj
        exact absurd rfl (hnb j' _ hj')
    · by_cases h' : j' = k
      · rw [if_neg h] at hj; rw [if_pos h'] at hj'
        cases hj'
        exact absurd rfl (hnb j _ hj)
      · rw [if_neg h] at hj; rw [if_neg h'] at hj'
        exact hH.inj _ _ _ hj hj'

theorem zero_any {z : Value} {zs : List C} (h : chkZero z zs = true) : z.cells.size = zs.length ∧ ∀ (i : Nat) (c : C), zs[i]? = some c → ∃ u, z.cells[i]? = some u ∧ u.oneCell' = true ∧ ∀ g w Pr p, RepC g w Pr p c u := by
  refine ⟨(chkZero_ok (g := ⟨[], fun _ => .free, fun _ => none⟩) (w := default) (Pr := fun _ => False) h).1, fun i c hi => ?_⟩
  obtain ⟨u, k1, k2, k3⟩ := (chkZero_ok (g := ⟨[], fun _ => .free, fun _ => none⟩) (w := default) (Pr := fun _ => False) h).2 i c hi
  refine ⟨u, k1, k2, fun g w Pr p => ?_⟩
  obtain ⟨u', k1', k2', k3'⟩ := (chkZero_ok (g := g) (w := w) (Pr := Pr) h).2 i c hi
  rw [k1] at k1'; cases k1'
  exact k3' p

/-- What goes along with the head. -/
structure Along (P : Program) (N : Nat) (F : Oracle) (bd : Bd) (ops : Array Oper) (is : List AIns) (p h1 h2 : Nat) (S : Nat → St) (ST : Nat → St) (g0 : G) (w0 : World) (Pr : Nat → Prop) (Q : Exit → Act → World → Prop) (J : Array Bool → Act → World → Prop) : Prop where
  first : ∀ (listed : Array Bool) (a : Act), (∀ j, Ld listed j ↔ j < p) → J listed a w0
  step : ∀ (listed : Array Bool) (k : Nat) (o : Oper) (i : AIns) (a : Act) (w : World) (g : G) (sc s3 : St) (blk : Nat → Option Nat), listed.size = ops.size → Head P N ops is p h1 h2 S g0 w0 Pr listed a w g sc blk → k < h1 → ops[k]? = some o → is[k]? = some i → ¬ Ld listed k →
    (∀ t ∈ i.touch, sc.env.get t = (S k).env.get t) → stepIns F bd sc i = some s3 → J listed a w →
    if Region.wanted o (yielded ops a.tmps) then o.wp P a w (fun a1 w1 => (Behind N g w (fun b => Pr b ∨ ∃ k, blk k = some b) s3 a1 w1 ∧ ∃ u, a1 = a.put o.dst u) ∧ J (listed.setIfInBounds k true) a1 w1) Q
    else Behind N g w (fun b => Pr b ∨ ∃ k, blk k = some b) s3 (a.put o.dst undef) w ∧ J (listed.setIfInBounds k true) (a.put o.dst undef) w
  alloc : ∀ (listed : Array Bool) (k d : Nat) (zs : List C) (a : Act) (w : World) (v : Value) (arr : Array Value) (ty : TypeId), listed.size = ops.size → k < ops.size → h1 ≤ k → k < h2 → is[k]? = some ⟨some d, .alloc zs, none⟩ → J listed a w → J (listed.setIfInBounds k true) (a.put (some d) v) (w.alloc (.cells arr ty))
  up : ∀ (listed : Array Bool) (a : Act) (w : World) (g : G), (∀ k, k < h2 → Ld listed k) → J listed a w → Ext g0 w0 g w → Fr Pr g0 w0 g w → InvA N g w Pr (S h2) a → Behind N g0 w0 Pr (ST h2) a w

theorem wp_draw {isT : List AIns} {ST : Nat → St} (hS : Sound P F) (hen : ∀ f args σ lo tr r, F f args σ lo tr = some r → entered P (fnOf f) = true) (hd : Dr ops is p h1 h2) (hl : is.length = ops.size) (hT : TextB F bd is S h2)
    (hlT : isT.length = ops.size) (hTT : ∀ (k : Nat) (i : AIns), isT[k]? = some i → h2 ≤ k → stepIns F bd (ST k) i = some (ST (k + 1)))
    (hpr0 : ∀ b, Pr b → b < w0.heap.size) (hcd : ∀ (k : Nat) (o : Oper) (i : AIns), ops[k]? = some o → is[k]? = some i → k < h2 → o.dst = i.dst) (hc : ∀ (k : Nat) (o : Oper) (i : AIns), ops[k]? = some o → is[k]? = some i → (k < p ∨ h1 ≤ k) → k < h2 → chkIns P N ops o i = true) (hcT : ∀ (k : Nat) (o : Oper) (i : AIns), ops[k]? = some o → isT[k]? = some i → chkIns P N ops o i = true)
    {Q : Exit → Act → World → Prop} {J : Array Bool → Act → World → Prop} (hJ : Along P N F bd ops is p h1 h2 S ST g0 w0 Pr Q J) (hQ : ∀ a w, Behind N g0 w0 Pr (ST ops.size) a w → Q .normal a w) :
    ∀ (fuel : Nat) (listed : Array Bool) (a : Act) (w : World), listed.size = ops.size → listed.toList.count false ≤ fuel →
      ((∃ g sc blk, Head P N ops is p h1 h2 S g0 w0 Pr listed a w g sc blk ∧ J listed a w) ∨ ∃ n, Tail N ops h2 ST g0 w0 Pr listed a w n) → wpAny P .any ops Q fuel listed a w := by
  have turn : ∀ (listed : Array Bool) (a : Act) (w : World) (g : G) (sc : St) (blk : Nat → Option Nat), listed.size = ops.size → Head P N ops is p h1 h2 S g0 w0 Pr listed a w g sc blk → J listed a w → (∀ k, k < h2 → Ld listed k) → Tail N ops h2 ST g0 w0 Pr listed a w h2 := by
    intro listed a w g sc blk hsz hH hj hall
    obtain ⟨g1, x1, x2, x3⟩ := head_done hS.2 hd hl hT hpr0 hsz hH hall
    exact ⟨Nat.le_refl _, hd.le2, fun j => ⟨fun h => Nat.lt_of_not_le fun h' => hH.none j h' h, hall j⟩, hJ.up listed a w g1 hall hj x1 x2 x3⟩
  have done : ∀ (listed : Array Bool) (a : Act) (w : World), listed.size = ops.size → (∀ k, k < ops.size → Ld listed k) →
      ((∃ g sc blk, Head P N ops is p h1 h2 S g0 w0 Pr listed a w g sc blk ∧ J listed a w) ∨ ∃ n, Tail N ops h2 ST g0 w0 Pr listed a w n) → Q .normal a w := by
    intro listed a w hsz hall hst
    have htail : ∃ n, Tail N ops h2 ST g0 w0 Pr listed a w n := by
      rcases hst with ⟨g, sc, blk, hH, hj⟩ | h
      · exact ⟨h2, turn listed a w g sc blk hsz hH hj (fun k hk => hall k (by have := hd.le2; omega))⟩
      · exact h
    obtain ⟨n, t1, t2, t3, t4⟩ := htail
    have hn : n = ops.size := by
      rcases Nat.lt_or_ge n ops.size with h | h
      · exact absurd ((t3 n).1 (hall n h)) (by omega)
      · omega
    subst hn
    exact hQ _ _ t4
  intro fuel
  induction fuel with
  | zero =>
    intro listed a w hsz hcnt hst
    have hall : ∀ k, k < ops.size → Ld listed k := by
      intro k hk
      have h0 : listed.toList.count false = 0 := by omega
      rw [List.count_eq_zero] at h0
      unfold Ld
      rw [Array.getD_eq_getD_getElem?]
      have hk' : k < listed.size := by omega
      simp only [hk', getElem?_pos, Option.getD_some]
      cases hb : listed[k] with
      | true => rfl
      | false => exact absurd (by rw [← hb]; simp) h0
    refine ⟨?_, done listed a w hsz hall hst⟩
    rw [List.eq_nil_iff_forall_not_mem]
    intro k hk
    rw [mem_ready] at hk
    obtain ⟨h1, o, ho, _⟩ := hk
    have hlt := (Array.getElem?_eq_some_iff.1 ho).1
    have := hall k hlt
    unfold Ld at this
    rw [Array.getD_eq_getD_getElem?] at this h1
    have hk' : k < listed.size := by omega
    simp only [hk', getElem?_pos, Option.getD_some] at this h1
    rw [this] at h1; cases h1
  | succ fuel ih =>
    intro listed a w hsz hcnt hst
    refine ⟨fun h => done listed a w hsz (ready_nil hd hsz h) hst, fun k hk => ?_⟩
    rw [mem_ready] at hk
    obtain ⟨hun0, o, ho, hrd0⟩ := hk
    have hlt := (Array.getElem?_eq_some_iff.1 ho).1
    have hks : k < listed.size := by omega
    have hun : ¬ Ld listed k := by
      unfold Ld
      rw [Array.getD_eq_getD_getElem?] at hun0 ⊢
      simp only [hks, getElem?_pos, Option.getD_some] at hun0 ⊢
      rw [hun0]; simp
    have hrd : ∀ (o : Oper) (e : Edge), ops[k]? = some o → e ∈ o.after → Region.binds .any e = true → Ld listed e.on := by
      intro o' e ho' he hb
      rw [ho] at ho'; cases ho'
      exact hrd0 e he hb
    have hsz' : (listed.setIfInBounds k true).size = ops.size := by simpa using hsz
    have hcnt' : (listed.setIfInBounds k true).toList.count false ≤ fuel := by
      have := cnt_set listed.toList k (by
        rw [Array.getD_eq_getD_getElem?] at hun0
        simp only [hks, getElem?_pos, Option.getD_some] at hun0
        simp [hks, hun0])
      rw [Array.toList_setIfInBounds]
      omega
    have hilt : k < is.length := by omega
    have hi : is[k]? = some is[k] := by simp [hilt]
    generalize is[k] = i at hi
    -- the tail's one instruction
    have htail : ∀ n, Tail N ops h2 ST g0 w0 Pr listed a w n → wpOp P ops Q k (wpAny P .any ops Q fuel (listed.setIfInBounds k true)) a w := by
      rintro n ⟨t1, t2, t3, g1, x1, x2, x3⟩
      have hkn : k = n := by
        have hge : n ≤ k := Nat.le_of_not_lt fun h => hun ((t3 k).2 h)
        rcases Nat.lt_or_ge n k with h | h
        · exact absurd ((t3 n).1 (waits_ld (fun k o e hk _ he hb => by
            rw [t3] at hk ⊢
            have := hd.back k o e (by assumption) he hb
            omega) (hd.tail k n (by have := hd.le0; have := hd.le1; omega) (by omega) hlt h) hrd)) (by omega)
        · omega
      subst hkn
      have hiltT : k < isT.length := by omega
      have hiT : isT[k]? = some isT[k] := by simp [hiltT]
      generalize isT[k] = iT at hiT
      have hins := ins_okP hS hen (hcT k o iT ho hiT) (hTT k iT hiT t1) x3 Q
      have hnext : ∀ a1 w1, Behind N g1 w Pr (ST (k + 1)) a1 w1 → wpAny P .any ops Q fuel (listed.setIfInBounds k true) a1 w1 := by
        intro a1 w1 hB
        refine ih _ _ _ hsz' hcnt' (.inr ⟨k + 1, by omega, hlt, fun j => ?_, Behind.trans x1 x2 hB⟩)
        rw [ld_set hks, t3]
        omega
      simp only [wpOp, ho]
      split at hins
      · rename_i hw; simp only [hw, if_true]; exact .inl (Oper.wp_mono (fun a1 w1 h => hnext a1 w1 h.1) hins)
      · rename_i hw; simp only [hw]; exact hnext _ _ hins
    rcases hst with ⟨g, sc, blk, hH, hj⟩ | ⟨n, hTl⟩
    case inr => exact htail n hTl
    by_cases hall : ∀ k, k < h2 → Ld listed k
    · exact htail h2 (turn listed a w g sc blk hsz hH hj hall)
    have hk2 : k < h2 := by
      refine Nat.lt_of_not_le fun hle => hall fun j hj => ?_
      rcases Nat.lt_or_ge j p with hp | hp
      · exact hH.pre j hp
      · exact waits_ld hH.closed (hd.tail k j hp hle hlt (by omega)) hrd
    by_cases hk1 : k < h1
    · have hT' : stepIns F bd (S k) i = some (S (k + 1)) := hT k i hi hk2
      have hsees : ∀ t ∈ i.touch, sc.env.get t = (S k).env.get t := fun t ht => head_sees hS.2 hd hl hT hH hk1 hi hun hrd ht
      obtain ⟨s3, k3, k4, k5, k6⟩ : ∃ s3, stepIns F bd sc i = some s3 ∧ Fits is S h1 (listed.setIfInBounds k true) s3.σ ∧ (∀ t ∈ i.writes, s3.env.get t = (S (k + 1)).env.get t) ∧ (∀ t, t ∉ i.writes → s3.env.get t = sc.env.get t) := by
        obtain ⟨x, x1, x2, x3, x4⟩ := hH.σ
        rcases hd.head k i hk1 hi with hh | hh
        · have hob : ∀ t l o cs, t ∈ i.op.looks → (sc.env.get t).down = .c (.b (.ptr l o)) → (S k).σ[l]? = some (.cells cs) → ∃ cs2, sc.σ[l]? = some (.cells cs2) ∧ cs2.map C.down = cs.map C.down := by
            intro t l o cs ht hp hob
            refine ⟨cs, ?_, rfl⟩
            have hl1 : l < sc.σ.length := by
              have hr := hH.inv.env t
              have hg : ∃ b o, g.loc[l]? = some (b, o) := by
                cases hv : sc.env.get t with
                | c x =>
                  rw [hv] at hp hr
                  cases x with
                  | b x =>
                    simp only [V.down, C.down, V.c.injEq, C.b.injEq] at hp
                    subst hp
                    obtain ⟨b, o', h, _⟩ := hr
                    exact ⟨b, o', h⟩
                  | _ => simp [V.down, C.down] at hp
                | _ => rw [hv] at hp; simp [V.down] at hp
              obtain ⟨b, o', h⟩ := hg
              have := (List.getElem?_eq_some_iff.mp h).1
              rw [hH.inv.inv.len] at this
              exact this
            rw [x2] at hl1 ⊢
            rcases Nat.le_total x k with hxk | hkx
            · rw [← text_sub hS.2 hd hl hT hxk (by omega) l hl1]; exact hob
            · rw [text_sub hS.2 hd hl hT hkx x1 l (List.getElem?_eq_some_iff.mp hob).1]; exact hob
          obtain ⟨k1, k2, s3, k3, k4, k5, k6⟩ := ins_same (s2 := sc) hh hob hsees hT'
          refine ⟨s3, k3, ?_, k5, k6⟩
          rw [k4]
          refine fits_set hks ⟨x, x1, x2, x3, x4⟩ ?_
          rintro ⟨_, i', hi', hm⟩
          rw [hi] at hi'; cases hi'
          rw [head_or hh] at hm; cases hm
        · have hmk : Makes is k := ⟨i, hi, hh⟩
          have hlow : ∀ j, j < k → Makes is j → Ld listed j := by
            rintro j hj ⟨i', hi', hm⟩
            rcases Nat.lt_or_ge j p with hp | hp
            · exact hH.pre j hp
            · exact waits_ld hH.closed (hd.calls j k i' i hp hj hk1 hi' hi hm hh) hrd
          have hup : ∀ j, k < j → j < h1 → Makes is j → ¬ Ld listed j := by
            rintro j hj hj1 ⟨i', hi', hm⟩ hld
            exact hun (waits_ld hH.closed (hd.calls k j i i' (Nat.le_of_not_lt fun h => hun (hH.pre k h)) hj hj1 hi hi' hh hm) (fun o e => hH.closed j o e hld))
          have hxk : x ≤ k := Nat.le_of_not_lt fun h => hun (x3 k h hmk)
          have hσ : sc.σ = (S k).σ := by
            rw [x2]
            exact (text_eq hS.2 hd hl hT hxk (by omega) (fun j hj hj1 hm => x4 j hj (by omega) hm (hlow j hj1 hm))).symm
          obtain ⟨k1, k2, k2', s3, k3, k4, k5, k6⟩ := call_same (s2 := sc) hS.2 hh hσ hsees hT'
          refine ⟨s3, k3, ⟨k + 1, by omega, k4, fun j hj hm => (ld_set hks).2 ?_, fun j hj hj1 hm hld => ?_⟩, k5, k6⟩
          · rcases Nat.lt_or_ge j k with h | h
            · exact .inr (hlow j h hm)
            · exact .inl (by omega)
          · rcases (ld_set hks).1 hld with rfl | hld
            · omega
            · exact hup j (by omega) hj1 hm hld
      have hins := hJ.step listed k o i a w g sc s3 blk hsz hH hk1 ho hi hun hsees k3 hj
      have hdst : o.dst = i.dst := hcd k o i ho hi hk2
      have hnext : ∀ a1 w1, Behind N g w (fun b => Pr b ∨ ∃ k, blk k = some b) s3 a1 w1 → (∃ u, a1 = a.put o.dst u) → J (listed.setIfInBounds k true) a1 w1 → wpAny P .any ops Q fuel (listed.setIfInBounds k true) a1 w1 := by
        rintro a1 w1 hB ⟨u, hu⟩ hj1
        obtain ⟨g', hH'⟩ := head_more hd hl hT hsz hH hk1 ho hi hun hrd k4 k5 k6 (by rw [hu, hdst]) hB
        exact ih _ _ _ hsz' hcnt' (.inl ⟨g', s3, blk, hH', hj1⟩)
      simp only [wpOp, ho]
      split at hins
      · rename_i hw; simp only [hw, if_true]; exact .inl (Oper.wp_mono (fun a1 w1 h => hnext a1 w1 h.1.1 h.1.2 h.2) hins)
      · rename_i hw; simp only [hw]; exact hnext _ _ hins.1 ⟨_, rfl⟩ hins.2
    · have hci := hc k o i ho hi (.inr (by omega)) hk2
      obtain ⟨d, zs, rfl, hf⟩ := hd.fresh k i (by omega) hk2 hi
      simp only [chkIns, Bool.and_eq_true, beq_iff_eq] at hci
      obtain ⟨⟨⟨c1, c2⟩, c3⟩, c4⟩ := hci
      rw [c1] at c2
      have hdN : d < N := of_decide_eq_true c2
      have hg : o.guard = none := by
        cases hg : o.guard with
        | none => rfl
        | some p => rw [hg] at c4; simp at c4
      simp only [chkOp] at c3
      split at c3
      case h_2 => cases c3
      rename_i t hop
      split at c3
      case h_2 => cases c3
      rename_i inf hinf
      split at c3
      case h_2 => cases c3
      rename_i z hz
      obtain ⟨z1, z2⟩ := zero_any c3
      have hrun : (execOp a.eval o).run P w = .ok (.value (.pointer (some ⟨w.heap.size, 0, none⟩))) (w.alloc (.cells z.cells t)) := by
        simp [execOp, hop, Instr.alloc, zeroValue, typeInfo, hinf, hz, newVar, newRow]
      obtain ⟨g', sc', blk', hH'⟩ := head_alloc (ty := t) hd hl hsz hH (by omega) hk2 ho hi hun hrd hdN (by omega) z2
      have hw : Region.wanted o (yielded ops a.tmps) = true := by simp [Region.wanted, hg]
      simp only [wpOp, ho, hw, if_true, Oper.wp, hrun, Oper.upon]
      refine .inl ?_
      rw [c1]
      exact ih _ _ _ hsz' hcnt' (.inl ⟨g', sc', blk', hH', hJ.alloc listed k d zs a w _ _ _ hsz hlt (by omega) hk2 hi hj⟩)

/-- The moves that come first. -/
theorem wp_pre {isT : List AIns} {ST : Nat → St} (hS : Sound P F) (hen : ∀ f args σ lo tr r, F f args σ lo tr = some r → entered P (fnOf f) = true) (hd : Dr ops is p h1 h2) (hl : is.length = ops.size) (hT : TextB F bd is S h2)
    (hlT : isT.length = ops.size) (hTT : ∀ (k : Nat) (i : AIns), isT[k]? = some i → h2 ≤ k → stepIns F bd (ST k) i = some (ST (k + 1)))
    (hpr0 : ∀ b, Pr b → b < w0.heap.size) (hcd : ∀ (k : Nat) (o : Oper) (i : AIns), ops[k]? = some o → is[k]? = some i → k < h2 → o.dst = i.dst) (hc : ∀ (k : Nat) (o : Oper) (i : AIns), ops[k]? = some o → is[k]? = some i → (k < p ∨ h1 ≤ k) → k < h2 → chkIns P N ops o i = true) (hcT : ∀ (k : Nat) (o : Oper) (i : AIns), ops[k]? = some o → isT[k]? = some i → chkIns P N ops o i = true) (hns : Region.noSelect ops = true)
    {Q : Exit → Act → World → Prop} {J : Array Bool → Act → World → Prop} (hJ : Along P N F bd ops is p h1 h2 S ST g0 w0 Pr Q J) (hQ : ∀ a w, Behind N g0 w0 Pr (ST ops.size) a w → Q .normal a w) (hQp : ∀ c a a' w, Q (.panic c) a w → Q (.panic c) a' w) :
    ∀ (n i : Nat) (listed : Array Bool) (a : Act), i + n = p → listed.size = ops.size → (∀ j, Ld listed j ↔ j < i) → preOk ops is n i listed = true → InvA N g0 w0 Pr (S i) a →
      ∀ fuel, listed.toList.count false ≤ fuel → wpAny P .any ops Q fuel listed a w0 := by
  intro n
  induction n with
  | zero =>
    intro i listed a hip hsz hld _ hA fuel hcnt
    have hip' : i = p := by omega
    subst hip'
    refine wp_draw hS hen hd hl hT hlT hTT hpr0 hcd hc hcT hJ hQ fuel listed a w0 hsz hcnt (.inl ⟨g0, S i, fun _ => none, ?_, hJ.first listed a hld⟩)
    refine ⟨fun k o e h ho he hb => ?_, fun j hj => (hld j).2 hj, fun k hk h => ?_, .refl _ _, .refl _ _ _, hA.less (fun b hb => ?_), ⟨i, hd.le0, rfl, fun j hj _ => (hld j).2 hj, fun j hj _ _ h => by have := (hld j).1 h; omega⟩, fun t _ => ?_, fun k b hb => (by cases hb), fun k h3 _ h => ?_, fun _ _ _ hb => (by cases hb)⟩
    · rw [hld] at h ⊢
      have := hd.back k o e ho he hb
      omega
    · rw [hld] at h
      have := hd.le0; have := hd.le1
      omega
    · rcases hb with hb | ⟨k, hb⟩
      · exact hb
      · cases hb
    · -- the last writer, if any
      have key : ∀ m, m ≤ i → (∃ k, k < h1 ∧ k < m ∧ Writes is k t ∧ (∀ j, j < m → Writes is j t → j ≤ k) ∧ (S m).env.get t = (S (k + 1)).env.get t) ∨ ((∀ j, j < m → ¬ Writes is j t) ∧ (S m).env.get t = (S 0).env.get t) := by
        intro m
        induction m with
        | zero => exact fun _ => .inr ⟨fun j hj => by omega, rfl⟩
        | succ m ih =>
          intro hm
          have := hd.le0
          by_cases hw : Writes is m t
          · exact .inl ⟨m, by omega, by omega, hw, fun j hj _ => by omega, rfl⟩
          · have he := text_env hS.2 hd hl hT (t := t) (a := m) (m + 1) (by omega) (by omega) (fun j x y hj => hw (by rw [show m = j by omega]; exact hj))
            rcases ih (by omega) with ⟨k, k1, k2, k3, k4, k5⟩ | ⟨k1, k2⟩
            · refine .inl ⟨k, k1, by omega, k3, fun j hj hwj => ?_, by rw [he, k5]⟩
              by_cases e : j = m
              · subst e; exact absurd hwj hw
              · exact k4 j (by omega) hwj
            · refine .inr ⟨fun j hj hwj => ?_, by rw [he, k2]⟩
              by_cases e : j = m
              · subst e; exact hw hwj
              · exact k1 j (by omega) hwj
      rcases key i (Nat.le_refl _) with ⟨k, k1, k2, k3, k4, k5⟩ | ⟨k1, k2⟩
      · exact .inl ⟨k, k1, (hld k).2 k2, k3, fun j _ hj hwj => k4 j ((hld j).1 hj) hwj, k5⟩
      · exact .inr ⟨fun j _ hj => k1 j ((hld j).1 hj), k2⟩
    · rw [hld] at h
      have := hd.le0
      omega
  | succ n ih =>
    intro i listed a hip hsz hld hpre hA fuel hcnt
    simp only [preOk, Bool.and_eq_true] at hpre
    obtain ⟨⟨⟨b1, b2⟩, b3⟩, b4⟩ := hpre
    split at b1
    case h_2 => cases b1
    rename_i o d x ho hi
    simp only [Bool.and_eq_true, Option.isNone_iff_eq_none] at b1
    obtain ⟨b5, b6⟩ := b1
    split at b5
    case h_2 => cases b5
    rename_i y hop
    have hlt := (Array.getElem?_eq_some_iff.1 ho).1
    have hks : i < listed.size := by omega
    have hci := hc i o _ ho hi (.inl (by omega)) (by have := hd.le0; have := hd.le1; omega)
    have hun : ¬ Ld listed i := fun h => by have := (hld i).1 h; omega
    have hf0 : listed[i]? = some false := by
      unfold Ld at hun
      rw [Array.getD_eq_getD_getElem?] at hun
      simp only [hks, getElem?_pos, Option.getD_some] at hun ⊢
      simpa using hun
    obtain ⟨fuel, rfl⟩ : ∃ m, fuel = m + 1 := by
      refine ⟨fuel - 1, ?_⟩
      have h1 := cnt_set listed.toList i (by simpa using hf0)
      omega
    have hwant : Region.wanted o (yielded ops a.tmps) = true := by simp [Region.wanted, b6]
    have hrun : ∀ w, (execOp a.eval o).run P w = .ok (.value (a.eval y)) w := fun w => by simp only [execOp, hop]; rfl
    refine wpAny_take (v := a.eval y) ho hns b2 b3 (fun c a w h => hQp c _ a w h) (.inl ⟨hwant, hrun⟩) ?_
    -- the state behind it
    have hst := hT i _ hi (by have := hd.le0; have := hd.le1; omega)
    simp only [stepIns, stepOp, Option.some.injEq] at hst
    simp only [chkIns, Bool.and_eq_true, beq_iff_eq] at hci
    obtain ⟨⟨⟨c1, c2⟩, c3⟩, c4⟩ := hci
    simp only [chkOp, hop] at c3
    have hA' : InvA N g0 w0 Pr (S (i + 1)) (a.put o.dst (a.eval y)) := by
      rw [← hst]
      refine ⟨by rw [set_st]; exact hA.inv, ?_, by rw [put_size]; exact hA.size, by rw [put_defers]; exact hA.defers⟩
      rw [c1]
      refine set_env hA.env (fun x' hx' => ⟨?_, opd_rd hA.env c3 _⟩)
      subst hx'
      rw [c1] at c2
      rw [hA.size]
      exact of_decide_eq_true c2
    refine ih (i + 1) _ _ (by omega) (by simpa using hsz) (fun j => ?_) b4 hA' fuel ?_
    · rw [ld_set hks, hld]; omega
    · have h1 := cnt_set listed.toList i (by simpa using hf0)
      rw [Array.toList_setIfInBounds]
      omega

/-- Two states: the one has taken the right to grow out of an object's cell, the other has not. -/
def Up (d l off : Nat) (s s2 : St) : Prop := ∃ cs c, s2.σ[l]? = some (.cells cs) ∧ cs[off]? = some c ∧ s.σ = s2.σ.set l (.cells (cs.set off c.down)) ∧ s.env.get d = .c c ∧ ∀ t, t ≠ d → s2.env.get t = s.env.get t

theorem down_down_c (c : C) : c.down.down = c.down := by cases c <;> rfl
theorem set_down {cs : List C} {off : Nat} {c : C} (h : cs[off]? = some c) : (cs.set off c.down).map C.down = cs.map C.down := by
  apply List.ext_getElem?
  intro i
  rw [List.getElem?_map, List.getElem?_map, List.getElem?_set]
  split
  · subst_vars
    have hlt := (List.getElem?_eq_some_iff.mp h).1
    rw [if_pos hlt, h]
    simp [down_down_c]
  · rfl

/-- The text's states without that right. -/
theorem text2 {q d : Nat} {x : Opd} (hd : Dr ops (is.set q ⟨some d, .ld .cp none x, none⟩) p h1 h2) (hl : is.length = ops.size) (hT : Text F bd is S) (hq : is[q]? = some ⟨some d, .ld .own none x, none⟩) (hq1 : q < h1)
    (hfr : ∀ (j : Nat) (i : AIns), j < h2 → j ≠ q → is[j]? = some i → d ∉ i.touch) (hnc : ∀ (j : Nat) (i : AIns), j < h1 → j ≠ q → is[j]? = some i → headCall i.op = false) :
    ∃ (S2 : Nat → St) (l off : Nat) (cs : List C), (∀ k, k ≤ q → S2 k = S k) ∧ TextB F bd (is.set q ⟨some d, .ld .cp none x, none⟩) S2 h2 ∧ (S q).rd x = .c (.b (.ptr l off)) ∧ (S q).σ[l]? = some (.cells cs) ∧ ∀ k, q < k → k ≤ h2 → Up d l off (S k) (S2 k) := by
  have hle1 := hd.le1
  have hle2 := hd.le2
  have hqt := hT q _ hq
  simp only [stepIns] at hqt
  split at hqt
  case h_2 => cases hqt
  rename_i v s1 hst
  simp only [stepOp] at hst
  split at hst
  case h_2 => cases hst
  rename_i l off hrd
  split at hst
  case h_2 => cases hst
  rename_i cs hcs
  split at hst
  case h_2 => cases hst
  rename_i c hc
  split at hst
  case isFalse => cases hst
  simp only [Option.some.injEq, Prod.mk.injEq] at hst
  obtain ⟨rfl, rfl⟩ := hst
  simp only [Option.some.injEq] at hqt
  have hcs' := getCells_eq hcs
  have key : ∀ n, q + 1 + n ≤ h2 → ∃ S2 : Nat → St, (∀ k, k ≤ q → S2 k = S k) ∧ (∀ (k : Nat) (i : AIns), (is.set q ⟨some d, .ld .cp none x, none⟩)[k]? = some i → k < q + 1 + n → stepIns F bd (S2 k) i = some (S2 (k + 1))) ∧ ∀ k, q < k → k ≤ q + 1 + n → Up d l off (S k) (S2 k) := by
    intro n
    induction n with
    | zero =>
      intro _
      refine ⟨fun k => if k ≤ q then S k else (S q).set (some d) (.c c.down), fun k hk => if_pos hk, fun k i hi hk => ?_, fun k hk hk2 => ?_⟩
      · have hkq : k ≤ q := by omega
        simp only [if_pos hkq]
        by_cases e : k = q
        · subst e
          have hlt : k < is.length := (List.getElem?_eq_some_iff.mp hq).1
          rw [List.getElem?_set_self hlt] at hi
          cases hi
          rw [if_neg (by omega)]
          simp only [stepIns, stepOp, hrd, hcs, hc]
        · rw [List.getElem?_set_ne (fun h => e h.symm)] at hi
          rw [if_pos (by omega)]
          exact hT k i hi
      · have e : k = q + 1 := by omega
        subst e
        dsimp only
        rw [if_neg (by omega)]
        refine ⟨cs, c, hcs', hc, by rw [← hqt]; rfl, ?_, fun t ht => ?_⟩
        · rw [← hqt]; simp only [St.set]; rw [env_get_cons, if_pos rfl]
        · rw [← hqt]; simp only [St.set]; rw [env_get_cons, env_get_cons, if_neg (fun h => ht h.symm), if_neg (fun h => ht h.symm)]
    | succ n ih =>
      intro hle
      obtain ⟨S2, f1, f2, f3⟩ := ih (by omega)
      have hlt : q + 1 + n < is.length := by omega
      have hi : is[q + 1 + n]? = some is[q + 1 + n] := by simp [hlt]
      generalize is[q + 1 + n] = i at hi
      have hi2 : (is.set q ⟨some d, .ld .cp none x, none⟩)[q + 1 + n]? = some i := by rw [List.getElem?_set_ne (by omega)]; exact hi
      obtain ⟨cs1, c1, u1, u2, u3, u4, u5⟩ := f3 (q + 1 + n) (by omega) (by omega)
      have hdt := hfr (q + 1 + n) i (by omega) (by omega) hi
      have hl1 : l < (S2 (q + 1 + n)).σ.length := (List.getElem?_eq_some_iff.mp u1).1
      -- the next state
      have hnext : ∃ s3, stepIns F bd (S2 (q + 1 + n)) i = some s3 ∧ Up d l off (S (q + 1 + n + 1)) s3 := by
        rcases Nat.lt_or_ge (q + 1 + n) h1 with hlt1 | hge1
        · have hh := (hd.head (q + 1 + n) i hlt1 hi2).resolve_right (by rw [hnc _ i hlt1 (by omega) hi]; simp)
          have hob : ∀ t l' o' cs', t ∈ i.op.looks → ((S2 (q + 1 + n)).env.get t).down = .c (.b (.ptr l' o')) → (S (q + 1 + n)).σ[l']? = some (.cells cs') → ∃ cs2, (S2 (q + 1 + n)).σ[l']? = some (.cells cs2) ∧ cs2.map C.down = cs'.map C.down := by
            intro t l' o' cs' _ _ h
            rw [u3] at h
            by_cases e : l = l'
            · subst e
              rw [List.getElem?_set_self hl1] at h
              cases h
              exact ⟨cs1, u1, (set_down u2).symm⟩
            · rw [List.getElem?_set_ne e] at h
              exact ⟨cs', h, rfl⟩
          have hag : ∀ t ∈ i.touch, (S2 (q + 1 + n)).env.get t = (S (q + 1 + n)).env.get t := fun t ht => u5 t (fun e => hdt (e ▸ ht))
          obtain ⟨k1, k2, s3, k3, k4, k5, k6⟩ := ins_same (s2 := S2 (q + 1 + n)) hh hob hag (hT _ _ hi)
          refine ⟨s3, k3, cs1, c1, by rw [k4]; exact u1, u2, by rw [k1, k4]; exact u3, ?_, fun t ht => ?_⟩
          · rw [k2 d (fun hw => hdt ?_)]
            · exact u4
            · simp only [AIns.writes, List.mem_append] at hw
              simp only [AIns.touch, List.mem_append]
              rcases hw with hw | hw
              · left; left
                cases hop : i.op <;> simp only [hop, AOp.takes, List.not_mem_nil] at hw
                rename_i m x
                cases m <;> simp_all [AOp.reads]
              · exact .inr hw
          · by_cases hw : t ∈ i.writes
            · rw [k5 t hw]
            · rw [k6 t hw, k2 t hw]; exact u5 t ht
        · obtain ⟨d', zs, rfl, hf⟩ := hd.fresh (q + 1 + n) i hge1 (by omega) hi2
          have hdd : d' ≠ d := by
            rintro rfl
            exact hdt (by simp [AIns.touch])
          have hs := alloc_step (hT _ _ hi)
          have hlen : (S (q + 1 + n)).σ.length = (S2 (q + 1 + n)).σ.length := by rw [u3]; simp
          refine ⟨_, rfl, cs1, c1, ?_, u2, ?_, ?_, fun t ht => ?_⟩
          · show ((S2 (q + 1 + n)).σ ++ [Ob.cells zs])[l]? = _
            rw [List.getElem?_append_left hl1]; exact u1
          · rw [hs]
            show (S (q + 1 + n)).σ ++ [Ob.cells zs] = ((S2 (q + 1 + n)).σ ++ [Ob.cells zs]).set l _
            rw [u3, List.set_append_left _ _ hl1]
          · rw [hs]
            show Env.get ((d', _) :: _) d = _
            rw [env_get_cons, if_neg hdd]; exact u4
          · rw [hs]
            show Env.get ((d', _) :: _) t = Env.get ((d', _) :: _) t
            rw [env_get_cons, env_get_cons, hlen]
            split
            · rfl
            · exact u5 t ht
      obtain ⟨s3, n1, n2⟩ := hnext
      refine ⟨fun k => if k = q + 1 + n + 1 then s3 else S2 k, fun k hk => by dsimp only; rw [if_neg (by omega)]; exact f1 k hk, fun k i' hi' hk => ?_, fun k hk hk2 => ?_⟩
      · dsimp only
        rw [if_neg (by omega)]
        by_cases e : k = q + 1 + n
        · subst e
          rw [if_pos rfl]
          rw [hi2] at hi'
          cases hi'
          exact n1
        · rw [if_neg (by omega)]
          exact f2 k i' hi' (by omega)
      · dsimp only
        by_cases e : k = q + 1 + n + 1
        · subst e
          rw [if_pos rfl]; exact n2
        · rw [if_neg e]; exact f3 k hk (by omega)
  obtain ⟨S2, f1, f2, f3⟩ := key (h2 - (q + 1)) (by omega)
  have e : q + 1 + (h2 - (q + 1)) = h2 := by omega
  rw [e] at f2 f3
  exact ⟨S2, l, off, cs, f1, f2, hrd, hcs', f3⟩

/-- What goes along where a load of the head takes the right. -/
theorem along_own {a0 : Act} {q d l off : Nat} {x : Opd} {cs0 : List C} {ST : Nat → St} {is2 : List AIns} {S2 : Nat → St} {Q : Exit → Act → World → Prop} (hS : Sound P F) (hen : ∀ f args σ lo tr r, F f args σ lo tr = some r → entered P (fnOf f) = true) (hd : Dr ops is2 p h1 h2) (hl : is2.length = ops.size)
    (hA0 : InvA N g0 w0 Pr (S2 0) a0) (hc : ∀ (k : Nat) (o : Oper) (i : AIns), ops[k]? = some o → is2[k]? = some i → k < h2 → chkIns P N ops o i = true)
    (hq : is2[q]? = some ⟨some d, .ld .cp none x, none⟩) (hq1 : q < h1) (hpq : p ≤ q) (hT : TextB F bd is2 S2 h2)
    (hfr : ∀ (j : Nat) (i : AIns), j < h2 → j ≠ q → is2[j]? = some i → d ∉ i.touch) (hnc : ∀ (j : Nat) (i : AIns), j < h1 → is2[j]? = some i → headCall i.op = false)
    (hrd : (S2 q).rd x = .c (.b (.ptr l off))) (hcs : (S2 q).σ[l]? = some (.cells cs0)) (hup : Up d l off (ST h2) (S2 h2)) :
    Along P N F bd ops is2 p h1 h2 S2 ST g0 w0 Pr Q (fun listed a w => (w0.heap.size ≤ w.heap.size ∧ Same w0 w) ∧ (Ld listed q → ∃ b o' arr ty, g0.loc[l]? = some (b, o') ∧ w0.heap[b]? = some (.cells arr ty (0, 0)) ∧ arr[o' + off]? = some (a.tmps.getD d undef))) := by
  have hle1 := hd.le1
  have hle2 := hd.le2
  have hnm : ∀ j, j < h1 → ¬ Makes is2 j := by
    rintro j hj ⟨i, hi, hm⟩
    rw [hnc j i hj hi] at hm; cases hm
  have hσ0 : (S2 q).σ = (S2 0).σ := text_eq hS.2 hd hl hT (Nat.zero_le _) (by omega) (fun j _ hj => hnm j (by omega))
  have hob0 : (S2 0).σ[l]? = some (.cells cs0) := by rw [← hσ0]; exact hcs
  obtain ⟨b0, o0, arr0, ty0, z1, z2, z3, z4, z5⟩ := hA0.inv.ob _ _ hob0
  have hb0 : b0 < w0.heap.size := (Array.getElem?_eq_some_iff.mp z3).1
  refine ⟨fun listed a hld => ⟨⟨Nat.le_refl _, fun _ _ => rfl⟩, fun h => absurd ((hld q).1 h) (by omega)⟩, ?_, ?_, ?_⟩
  · intro listed k o i a w g sc s3 blk hsz hH hk ho hi hun hsees hst ⟨⟨j1, j2⟩, j3⟩
    have hci := hc k o i ho hi (by omega)
    have hh : headOp i.op = true := (hd.head k i hk hi).resolve_right (by rw [hnc k i hk hi]; simp)
    have hks : k < listed.size := by rw [hsz]; exact (Array.getElem?_eq_some_iff.1 ho).1
    have hdst : o.dst = i.dst := by
      simp only [chkIns, Bool.and_eq_true, beq_iff_eq] at hci
      exact hci.1.1.1
    have hins := ins_okS hS hen hci hh hst hH.inv Q
    by_cases hkq : k = q
    · subst hkq
      rw [hq] at hi
      cases hi
      -- the load itself
      have hgu : Region.wanted o (yielded ops a.tmps) = true := by
        have hg : o.guard = none := by
          simp only [chkIns, Bool.and_eq_true] at hci
          cases hg : o.guard with
          | none => rfl
          | some p => rw [hg] at hci; simp at hci
        simp [Region.wanted, hg]
      rw [if_pos hgu] at hins ⊢
      have hrd' : sc.rd x = .c (.b (.ptr l off)) := by
        rw [← hrd]
        exact rd_same fun t ht => hsees t (by simp [AIns.touch, AOp.reads, ht])
      have hci' := hci
      simp only [chkIns, Bool.and_eq_true] at hci'
      simp only [stepIns] at hst
      split at hst
      case h_2 => cases hst
      rename_i v s4 hst4
      obtain ⟨b, o', arr, ty, u, y1, y2, y3, y4⟩ := ld_ident hci'.1.2 hrd' hst4 hH.inv.inv hH.inv.env
      unfold Oper.wp at hins ⊢
      rw [y4] at hins ⊢
      obtain ⟨i1, i2, i3⟩ := hins
      refine ⟨⟨i1, i2⟩, ⟨j1, j2⟩, fun _ => ?_⟩
      have hloc := hH.ext.loc _ _ z1
      rw [y1] at hloc
      cases hloc
      rw [j2 b0 hb0, z3] at y2
      cases y2
      refine ⟨b0, o0, arr0, ty0, z1, z3, ?_⟩
      rw [hdst]
      rw [put_get a d u (by
        rw [hH.inv.size]
        simp only [chkIns, Bool.and_eq_true, beq_iff_eq] at hci
        have h2 := hci.1.1.2
        rw [hdst] at h2
        exact of_decide_eq_true h2), if_pos rfl]
      exact y3
    · have hdi := hfr k i (by omega) hkq hi
      have hdne : o.dst ≠ some d := by
        rw [hdst]
        intro e
        exact hdi (by simp [AIns.touch, e])
      have hld : ∀ u w1, (w.heap.size ≤ w1.heap.size ∧ Same w w1) → ((w0.heap.size ≤ w1.heap.size ∧ Same w0 w1) ∧ (Ld (listed.setIfInBounds k true) q → ∃ b o' arr ty, g0.loc[l]? = some (b, o') ∧ w0.heap[b]? = some (.cells arr ty (0, 0)) ∧ arr[o' + off]? = some ((a.put o.dst u).tmps.getD d undef))) := by
        intro u w1 ⟨hs1, hs2⟩
        refine ⟨⟨by omega, fun b hb => (hs2 b (by omega)).trans (j2 b hb)⟩, fun h => ?_⟩
        rw [ld_set hks] at h
        rcases h with h | h
        · exact absurd h.symm hkq
        · obtain ⟨b, o', arr, ty, y1, y2, y3⟩ := j3 h
          exact ⟨b, o', arr, ty, y1, y2, by rw [put_other hdne]; exact y3⟩
      split at hins
      · rename_i hw
        rw [if_pos hw]
        refine Oper.wp_mono ?_ hins
        rintro a1 w1 ⟨hB, ⟨u, rfl⟩, hs⟩
        refine ⟨⟨hB, u, rfl⟩, hld u w1 ⟨?_, hs⟩⟩
        obtain ⟨_, e1, _, _⟩ := hB
        exact e1.size
      · rename_i hw
        rw [if_neg hw]
        exact ⟨hins, hld undef w ⟨Nat.le_refl _, fun _ _ => rfl⟩⟩
  · intro listed k d' zs a w v arr ty hsz hk hk1 hk2 hi ⟨⟨j1, j2⟩, j3⟩
    have hdi := hfr k _ hk2 (by omega) hi
    have hdne : (some d' : Option Nat) ≠ some d := by
      intro e
      cases e
      exact hdi (by simp [AIns.touch])
    refine ⟨⟨by simp; omega, fun b hb => (alloc_get b (by omega)).trans (j2 b hb)⟩, fun h => ?_⟩
    rw [ld_set (by rw [hsz]; exact hk)] at h
    rcases h with h | h
    · omega
    · obtain ⟨b, o', arr', ty', y1, y2, y3⟩ := j3 h
      exact ⟨b, o', arr', ty', y1, y2, by rw [put_other hdne]; exact y3⟩
  · intro listed a w g hall ⟨⟨j1, j2⟩, j3⟩ x1 x2 x3
    obtain ⟨b, o', arr, ty, y1, y2, y3⟩ := j3 (hall q (by omega))
    obtain ⟨cs, c, u1, u2, u3, u4, u5⟩ := hup
    have hb : b < w0.heap.size := (Array.getElem?_eq_some_iff.mp y2).1
    obtain ⟨g', k1, k2, k3⟩ := up_ok x3 (d := d) (x1.loc _ _ y1) u1 u2 (by rw [j2 b hb]; exact y2) y3
    exact ⟨g', x1.trans k1, x2.trans k2, k3 _ u3 u4 (fun t ht => (u5 t ht).symm)⟩

theorem ownAt_some : ∀ {is : List AIns} {n q : Nat}, ownAt is n = some q → n ≤ q := by
  intro is
  induction is with
  | nil => intro n q h; simp [ownAt] at h
  | cons i is ih =>
    intro n q h
    unfold ownAt at h
    split at h
    · cases h
    · cases h; exact Nat.le_refl _
    · rename_i heq
      cases heq
      have := ih h
      omega

theorem chk_dst {o : Oper} {i : AIns} (h : chkIns P N ops o i = true) : o.dst = i.dst := by
  simp only [chkIns, Bool.and_eq_true, beq_iff_eq] at h
  exact h.1.1.1

theorem looksOk_get {rs : List Nat} : ∀ {l : List AIns}, looksOk rs l = true → ∀ (k : Nat) (i : AIns), l[k]? = some i → ∀ t ∈ i.op.looks, t ∈ rs ∧ ∀ (j : Nat) (i' : AIns), k ≤ j → l[j]? = some i' → t ∉ i'.writes := by
  intro l
  induction l with
  | nil => intro _ k i hi; simp at hi
  | cons x l ih =>
    intro h k i hi t ht
    simp only [looksOk, Bool.and_eq_true, List.all_eq_true] at h
    obtain ⟨h1, h2⟩ := h
    cases k with
    | zero =>
      simp at hi; subst hi
      have h3 := h1 t ht
      simp only [List.any_eq_true, Bool.not_eq_true'] at h3
      obtain ⟨⟨y, y1, y2⟩, h4⟩ := h3
      refine ⟨by rw [Nat.eq_of_beq_eq_true y2]; exact y1, fun j i' hj hi' hw => ?_⟩
      have h5 := h4 i' (List.mem_of_getElem? hi')
      rw [List.any_eq_false] at h5
      exact absurd (Nat.beq_refl t) (h5 t hw)
    | succ k =>
      obtain ⟨k1, k2⟩ := ih h2 k i (by simpa using hi) t ht
      refine ⟨k1, fun j i' hj hi' => ?_⟩
      cases j with
      | zero => omega
      | succ j => exact k2 j i' (by omega) (by simpa using hi')

/-- Two states: in the one nothing is known of an object's cells. -/
def Veil (l n : Nat) (s s2 : St) : Prop := s2.σ = s.σ.set l (.blank n) ∧ ∀ t, s2.env.get t = s.env.get t

/-- The text's states with that object veiled. -/
theorem text3 {m n : Nat} {x y : Opd} {rs : List Nat} (hd : Dr ops (is.set m (stub x y)) p (m + 1) (m + 1)) (hl : is.length = ops.size) (hT : Text F bd is S) (hm : is[m]? = some ⟨none, .stl n x y rs, none⟩)
    (hlk : looksOk rs (is.take m) = true) (hnc : ∀ (j : Nat) (i : AIns), j < m → is[j]? = some i → headCall i.op = false) :
    ∃ (S2 : Nat → St) (l : Nat) (cs zs : List C), TextB F bd (is.set m (stub x y)) S2 (m + 1) ∧ (S m).rd x = .c (.b (.ptr l 0)) ∧ ((S m).raw y).cells = some cs ∧ cs.length = n ∧ (S 0).σ[l]? = some (.cells zs) ∧ zs.length = n ∧
      (∀ k, k ≤ m → Veil l n (S k) (S2 k)) ∧ S2 0 = ⟨(S 0).env, (S 0).σ.set l (.blank n)⟩ ∧ S2 (m + 1) = S2 m ∧ S (m + 1) = { (S m).took y with σ := (S m).σ.set l (.cells cs) } := by
  have hmt := hT m _ hm
  simp only [stepIns] at hmt
  split at hmt
  case h_2 => cases hmt
  rename_i v s1 hst
  simp only [stepOp] at hst
  split at hst
  case h_2 => cases hst
  rename_i l cs hrd hcs
  split at hst
  case h_2 => cases hst
  rename_i zs hzs
  split at hst
  case isFalse => cases hst
  rename_i hcond
  obtain ⟨q1, q2, q3, q4⟩ := hcond
  simp only [Option.some.injEq, Prod.mk.injEq] at hst
  obtain ⟨rfl, rfl⟩ := hst
  simp only [Option.some.injEq, St.set] at hmt
  have hhead : ∀ (k : Nat) (i : AIns), k < m → is[k]? = some i → headOp i.op = true := fun k i hk hi =>
    (hd.head k i (by omega) (by rw [List.getElem?_set_ne (by omega)]; exact hi)).resolve_right (by rw [hnc k i hk hi]; simp)
  have hmlt : m < is.length := (List.getElem?_eq_some_iff.mp hm).1
  have hσ : ∀ k, k ≤ m → (S k).σ = (S 0).σ := by
    intro k
    induction k with
    | zero => intro _; rfl
    | succ k ih =>
      intro hk
      have hi : is[k]? = some is[k] := by simp [show k < is.length by omega]
      rw [(ins_same (s2 := S k) (hhead k _ (by omega) hi) (fun _ _ _ cs _ _ h => ⟨cs, h, rfl⟩) (fun _ _ => rfl) (hT _ _ hi)).1]
      exact ih (by omega)
  have hz0 : (S 0).σ[l]? = some (.cells zs) := by rw [← hσ m (Nat.le_refl _)]; exact getCells_eq hzs
  have key : ∀ j, j ≤ m → ∃ S2 : Nat → St, S2 0 = ⟨(S 0).env, (S 0).σ.set l (.blank n)⟩ ∧ (∀ (k : Nat) (i : AIns), is[k]? = some i → k < j → stepIns F bd (S2 k) i = some (S2 (k + 1))) ∧ ∀ k, k ≤ j → Veil l n (S k) (S2 k) := by
    intro j
    induction j with
    | zero =>
      intro _
      refine ⟨fun _ => ⟨(S 0).env, (S 0).σ.set l (.blank n)⟩, rfl, fun k i _ hk => by omega, fun k hk => ?_⟩
      have : k = 0 := by omega
      subst this
      exact ⟨rfl, fun _ => rfl⟩
    | succ j ih =>
      intro hj
      obtain ⟨S2, f0, f1, f2⟩ := ih (by omega)
      have hi : is[j]? = some is[j] := by simp [show j < is.length by omega]
      generalize is[j] = i at hi
      obtain ⟨v1, v2⟩ := f2 j (Nat.le_refl _)
      have hlt : l < (S j).σ.length := by
        rw [hσ j (by omega)]
        exact (List.getElem?_eq_some_iff.mp hz0).1
      have hob : ∀ t l' o' cs', t ∈ i.op.looks → ((S2 j).env.get t).down = .c (.b (.ptr l' o')) → (S j).σ[l']? = some (.cells cs') → ∃ cs2, (S2 j).σ[l']? = some (.cells cs2) ∧ cs2.map C.down = cs'.map C.down := by
        intro t l' o' cs' ht hp h
        have hne : l ≠ l' := by
          rintro rfl
          obtain ⟨g1, g2⟩ := looksOk_get hlk j i (by rw [List.getElem?_take, if_pos (by omega)]; exact hi) t ht
          -- it is what it is at the store
          have hstay : ∀ k, j ≤ k → k ≤ m → (S k).env.get t = (S j).env.get t := by
            intro k
            induction k with
            | zero => intro h1 _; have : j = 0 := by omega
                      subst this; rfl
            | succ k ih =>
              intro h1 h2
              by_cases e : j = k + 1
              · subst e; rfl
              · have hik : is[k]? = some is[k] := by simp [show k < is.length by omega]
                rw [(ins_same (s2 := S k) (hhead k _ (by omega) hik) (fun _ _ _ cs _ _ h => ⟨cs, h, rfl⟩) (fun _ _ => rfl) (hT _ _ hik)).2.1 t (g2 k _ (by omega) (by rw [List.getElem?_take, if_pos (by omega)]; exact hik))]
                exact ih (by omega) (by omega)
          have hfar := List.all_eq_true.1 q4 t g1
          rw [hstay m (by omega) (Nat.le_refl _)] at hfar
          rw [v2 t] at hp
          unfold farFrom at hfar
          rw [hp] at hfar
          simp at hfar
        rw [v1, List.getElem?_set_ne hne]
        exact ⟨cs', h, rfl⟩
      obtain ⟨k1, k2, s3, k3, k4, k5, k6⟩ := ins_same (s2 := S2 j) (hhead j _ (by omega) hi) hob (fun t _ => v2 t) (hT _ _ hi)
      refine ⟨fun k => if k = j + 1 then s3 else S2 k, by dsimp only; rw [if_neg (by omega)]; exact f0, fun k i' hi' hk => ?_, fun k hk => ?_⟩
      · dsimp only
        rw [if_neg (by omega)]
        by_cases e : k = j
        · subst e
          rw [if_pos rfl]
          rw [hi] at hi'
          cases hi'
          exact k3
        · rw [if_neg (by omega)]
          exact f1 k i' hi' (by omega)
      · dsimp only
        by_cases e : k = j + 1
        · subst e
          rw [if_pos rfl]
          refine ⟨by rw [k4, k1]; exact v1, fun t => ?_⟩
          by_cases hw : t ∈ i.writes
          · exact k5 t hw
          · rw [k6 t hw, k2 t hw]; exact v2 t
        · rw [if_neg e]; exact f2 k (by omega)
  obtain ⟨S2, f0, f1, f2⟩ := key m (Nat.le_refl _)
  refine ⟨fun k => if k = m + 1 then S2 m else S2 k, l, cs, zs, ?_, hrd, hcs, q1, hz0, q2, fun k hk => ?_, ?_, ?_, hmt.symm⟩
  · intro k i hi hk
    dsimp only
    rw [if_neg (by omega)]
    by_cases e : k = m
    · subst e
      rw [List.getElem?_set_self hmlt] at hi
      cases hi
      rw [if_pos rfl]
      rfl
    · rw [List.getElem?_set_ne (fun h => e h.symm)] at hi
      rw [if_neg (by omega)]
      exact f1 k i hi (by omega)
  · dsimp only; rw [if_neg (by omega)]; exact f2 k hk
  · dsimp only; rw [if_neg (by omega)]; exact f0
  · dsimp only; rw [if_pos rfl, if_neg (by omega)]

/-- What goes along where the head's last instruction is a store that comes as it likes. -/
theorem along_late {a0 : Act} {m l n : Nat} {x y : Opd} {rs : List Nat} {cs : List C} {ST : Nat → St} {is2 : List AIns} {S2 : Nat → St} {Q : Exit → Act → World → Prop} (hS : Sound P F) (hen : ∀ f args σ lo tr r, F f args σ lo tr = some r → entered P (fnOf f) = true) (hd : Dr ops is2 p (m + 1) (m + 1)) (hl : is2.length = ops.size)
    (hA0 : InvA N g0 w0 Pr (S2 0) a0) (hc : ∀ (k : Nat) (o : Oper) (i : AIns), ops[k]? = some o → is2[k]? = some i → k < m → chkIns P N ops o i = true)
    (hm : is2[m]? = some (stub x y)) (hpm : p ≤ m) (hcm : ∀ o, ops[m]? = some o → chkOp P o (.stl n x y rs) = true ∧ o.guard = none) (hT : TextB F bd is2 S2 (m + 1))
    (hnc : ∀ (j : Nat) (i : AIns), j < m → is2[j]? = some i → headCall i.op = false)
    (hrd : (S2 m).rd x = .c (.b (.ptr l 0))) (hcs : ((S2 m).raw y).cells = some cs) (hn : cs.length = n) (hbl : (S2 0).σ[l]? = some (.blank n)) (hlast : S2 (m + 1) = S2 m)
    (hsT : (ST (m + 1)).σ = (S2 m).σ.set l (.cells cs)) (heT : ∀ t, (ST (m + 1)).env.get t = ((S2 m).took y).env.get t) :
    Along P N F bd ops is2 p (m + 1) (m + 1) S2 ST g0 w0 Pr Q (fun listed a w => Ld listed m → ∃ b o' arr ty, g0.loc[l]? = some (b, o') ∧ w.heap[b]? = some (.cells arr ty (0, 0)) ∧ o' + n ≤ arr.size ∧ ∀ (o : Oper), ops[m]? = some o → ∀ (t : TypeId) (x' y' : Operand), o.op = .store t x' y' → ∀ j, j < n → arr[o' + j]? = (a.eval y').cells[j]?) := by
  have hle2 := hd.le2
  have hheads : ∀ (k : Nat) (i : AIns), k < m + 1 → is2[k]? = some i → headOp i.op = true := by
    intro k i hk hi
    refine (hd.head k i hk hi).resolve_right ?_
    by_cases e : k = m
    · subst e; rw [hm] at hi; cases hi; simp [stub, headCall]
    · rw [hnc k i (by omega) hi]; simp
  have hnm : ∀ j, j < m + 1 → ¬ Makes is2 j := by
    rintro j hj ⟨i, hi, hmk⟩
    rw [head_or (hheads j i hj hi)] at hmk; cases hmk
  have hσ0 : ∀ k, k ≤ m + 1 → (S2 k).σ = (S2 0).σ := fun k hk => text_eq hS.2 hd hl hT (Nat.zero_le _) hk (fun j _ hj => hnm j (by omega))
  obtain ⟨b0, o0, arr0, ty0, z1, z2, z3, z4⟩ := hA0.inv.ob _ _ hbl
  have hb0 : b0 < w0.heap.size := (Array.getElem?_eq_some_iff.mp z3).1
  refine ⟨fun listed a hld h => absurd ((hld m).1 h) (by omega), ?_, fun listed k d zs a w v arr ty _ _ h1 h2 => by omega, ?_⟩
  · intro listed k o i a w g sc s3 blk hsz hH hk ho hi hun hsees hst hj
    have hks : k < listed.size := by rw [hsz]; exact (Array.getElem?_eq_some_iff.1 ho).1
    have hscσ : sc.σ[l]? = some (.blank n) := by
      obtain ⟨z, y1, y2, _⟩ := hH.σ
      rw [y2, hσ0 z y1]; exact hbl
    by_cases hkm : k = m
    · subst hkm
      rw [hm] at hi
      cases hi
      obtain ⟨c1, c2⟩ := hcm o ho
      have hgu : Region.wanted o (yielded ops a.tmps) = true := by simp [Region.wanted, c2]
      rw [if_pos hgu]
      have hs3 : sc = s3 := by
        simp only [stub, stepIns, stepOp, St.rd, St.raw, V.down, C.down, Option.some.injEq, St.set] at hst
        exact hst
      subst hs3
      simp only [chkOp] at c1
      split at c1
      case h_2 => cases c1
      rename_i t x' y' hop
      split at c1
      case h_2 => cases c1
      rename_i inf hinf
      simp only [Bool.and_eq_true, beq_iff_eq, Option.isNone_iff_eq_none] at c1
      obtain ⟨⟨⟨d1, d2⟩, d3⟩, d4⟩ := c1
      have hrx : sc.rd x = .c (.b (.ptr l 0)) := by
        rw [← hrd]
        exact rd_same fun t ht => hsees t (by simp [stub, AIns.touch, AOp.reads, ht])
      have hry : (sc.raw y).cells = some cs := by
        rw [← hcs, raw_same (s := S2 k) (s2 := sc) (x := y) fun t ht => hsees t (by simp [stub, AIns.touch, AOp.reads, ht])]
      have hx1 := opd_rd hH.inv.env d1 (.tmp 0)
      rw [hrx] at hx1
      obtain ⟨b, q, hloc, hxe⟩ := hx1
      obtain ⟨b', q', arr, ty, h3, h4, h5, h6⟩ := hH.inv.inv.ob _ _ hscσ
      rw [hloc] at h3
      obtain ⟨h31, h32⟩ : b' = b ∧ q' = q := by simpa [eq_comm] using h3
      rw [h31] at h4 h5
      rw [h32] at h6
      obtain ⟨e1, e2⟩ : (a.eval y').cells.size = cs.length ∧ ∀ u ∈ (a.eval y').cells.toList, u.oneCell' = true := by
        obtain ⟨g1, _, _, _, _, x5, x6⟩ := give_ok (l := 0) (off := 0) d2 hry hH.inv.inv hH.inv.env
        refine ⟨x5, fun u hu => ?_⟩
        obtain ⟨j, hj, rfl⟩ := List.mem_iff_getElem.mp hu
        have hj' : j < cs.length := by simp at hj; omega
        obtain ⟨u', k1, k2, _⟩ := x6 j cs[j] (by simp [hj'])
        simp at hj
        simp [hj] at k1
        simpa [k1] using k2
      have hrun := run_st (P := P) (w := w) (b := b) (o := q) (v := a.eval y') hinf (by omega) h5 (by omega) e2
      have hszr : (arr.toList.take q ++ (a.eval y').cells.toList ++ arr.toList.drop (q + (a.eval y').cells.size)).toArray.size = arr.size := by
        simp; omega
      have hext := setRow_ext hH.inv.inv h4 h5 hszr
      have hexec : (execOp a.eval o).run P w = .ok .skip (w.setRow b (arr.toList.take q ++ (a.eval y').cells.toList ++ arr.toList.drop (q + (a.eval y').cells.size)).toArray) := by
        simp only [execOp, hop, hxe, Sem.run_bind, Nat.add_zero]
        rw [hrun]; rfl
      unfold Oper.wp
      rw [hexec]
      have hput : a.put o.dst undef = a := by rw [d4]; rfl
      refine ⟨⟨?_, undef, rfl⟩, fun _ => ?_⟩
      · rw [hput]
        refine ⟨g, hext, setRow_fr hH.inv.inv h4 _, ?_, hH.inv.env.ext hext (fun _ _ => Keep.refl _ _), hH.inv.size, hH.inv.defers⟩
        have := setRow_inv hH.inv.inv h4 h5 hszr (ob := .blank n) ⟨b, q, _, ty, hloc, h4, setRow_get _ _ h5, by rw [hszr]; omega⟩
        have hse : sc.σ.set l (.blank n) = sc.σ := by
          apply List.ext_getElem?
          intro i
          by_cases e : l = i
          · subst e
            rw [List.getElem?_set_self (List.getElem?_eq_some_iff.mp hscσ).1, hscσ]
          · rw [List.getElem?_set_ne e]
        rw [hse] at this
        exact this
      · rw [hput]
        have hloc0 := hH.ext.loc _ _ z1
        rw [hloc] at hloc0
        have hloc1 := hloc0.symm
        rw [← hloc0] at z1
        clear hloc0 hloc1
        refine ⟨b, q, _, ty, z1, setRow_get _ _ h5, by rw [hszr]; omega, ?_⟩
        intro o2 ho2 t2 x2 y2 hop2 j hj
        rw [ho] at ho2
        cases ho2
        rw [hop] at hop2
        cases hop2
        simp only [List.getElem?_toArray]
        rw [List.append_assoc, List.getElem?_append_right (by simp; omega), List.getElem?_append_left (by simp; omega)]
        have : (arr.toList.take q).length = q := by simp; omega
        rw [this]; simp
    · have hci := hc k o i ho hi (by omega)
      have hh := hheads k i hk hi
      have hdst : o.dst = i.dst := chk_dst hci
      have hins := ins_okS hS hen hci hh hst hH.inv Q
      have hld : ∀ u w1, (w.heap.size ≤ w1.heap.size ∧ Same w w1) → (Ld (listed.setIfInBounds k true) m → ∃ b o' arr ty, g0.loc[l]? = some (b, o') ∧ w1.heap[b]? = some (.cells arr ty (0, 0)) ∧ o' + n ≤ arr.size ∧ ∀ (o2 : Oper), ops[m]? = some o2 → ∀ (t : TypeId) (x' y' : Operand), o2.op = .store t x' y' → ∀ j, j < n → arr[o' + j]? = ((a.put o.dst u).eval y').cells[j]?) := by
        intro u w1 ⟨hs1, hs2⟩ h
        rw [ld_set hks] at h
        rcases h with h | h
        · exact absurd h.symm hkm
        · obtain ⟨b, o', arr, ty, y1, y2, y3, y4⟩ := hj h
          refine ⟨b, o', arr, ty, y1, by rw [hs2 b (Array.getElem?_eq_some_iff.mp y2).1]; exact y2, y3, fun o2 ho2 t x' y' hop j hjn => ?_⟩
          rw [y4 o2 ho2 t x' y' hop j hjn]
          -- the value's temporary stays
          have hev : (a.put o.dst u).eval y' = a.eval y' := by
            refine Act.eval_put fun d hd2 hxd => ?_
            subst hxd
            obtain ⟨c1, c2⟩ := hcm o2 ho2
            simp only [chkOp, hop] at c1
            split at c1
            case h_2 => cases c1
            simp only [Bool.and_eq_true] at c1
            have hyd : y = .t d := by
              have := c1.1.1.2
              cases y with
              | t n => simp [chkOpd] at this; rw [this]
              | k v => simp [chkOpd] at this
            have hkp : p ≤ k := Nat.le_of_not_lt fun hlt => hun (hH.pre k hlt)
            have hw : d ∈ i.writes := by simp only [AIns.writes, List.mem_append, Option.mem_toList]; right; rw [← hdst]; exact hd2
            have htc : d ∈ (stub x y).touch := by simp [stub, AIns.touch, AOp.reads, hyd, Opd.tmps]
            exact hun (waits_ld hH.closed (hd.order k m i (stub x y) hkp (by omega) (by omega) hi hm (.inl ⟨d, hw, htc⟩)) (fun o e => hH.closed m o e h))
          rw [hev]
      split at hins
      · rename_i hw
        rw [if_pos hw]
        refine Oper.wp_mono ?_ hins
        rintro a1 w1 ⟨hB, ⟨u, rfl⟩, hs⟩
        refine ⟨⟨hB, u, rfl⟩, hld u w1 ⟨?_, hs⟩⟩
        obtain ⟨_, e1, _, _⟩ := hB
        exact e1.size
      · rename_i hw
        rw [if_neg hw]
        exact ⟨hins, hld undef w ⟨Nat.le_refl _, fun _ _ => rfl⟩⟩
  · intro listed a w g hall hj x1 x2 x3
    obtain ⟨b, o', arr, ty, y1, y2, y3, y4⟩ := hj (hall m (by omega))
    have hmlt : m < ops.size := by omega
    have ho : ops[m]? = some ops[m] := by simp [hmlt]
    obtain ⟨c1, c2⟩ := hcm _ ho
    simp only [chkOp] at c1
    split at c1
    case h_2 => cases c1
    rename_i t x' y' hop
    split at c1
    case h_2 => cases c1
    rename_i inf hinf
    simp only [Bool.and_eq_true, beq_iff_eq, Option.isNone_iff_eq_none] at c1
    rw [hlast] at x3
    obtain ⟨g', k1, k2, k3⟩ := up_st x3 (x1.loc _ _ y1) (by rw [hσ0 m (by omega)]; exact hbl) c1.1.1.2 hcs hn y2 y3 (fun j hj => y4 _ ho t x' y' hop j hj)
    exact ⟨g', x1.trans k1, x2.trans k2, k3 _ hsT heT⟩

theorem draw_any {g : G} {w : World} {s s' : St} {a : Act} (hS : Sound P F) (hen : ∀ f args σ lo tr r, F f args σ lo tr = some r → entered P (fnOf f) = true) {keep : List Nat}
    (hc : chkAll P N ops ops.toList is = true) (hd : drawOk ops is = true) (hv : stepAll F bd s is = some s') (hA : InvA N g w Pr s a) :
    wpAny P .any ops (fun e a' w' => e = .normal ∧ Behind N g w Pr { s' with env := s'.env.keep keep } a' w') ops.size (Array.replicate ops.size false) a { w with drawn := w.drawn + 1 } := by
  obtain ⟨S, S0, Sn, hT⟩ := text_of is s s' hv
  obtain ⟨hl, hci⟩ := chkAll_get hc
  have hl' : is.length = ops.size := by simpa using hl
  have hw : Ext g w g { w with drawn := w.drawn + 1 } := ⟨fun _ _ h => h, fun _ _ h => h, Nat.le_refl _, fun _ arr _ _ h => ⟨arr, h, rfl⟩, rfl, rfl, rfl⟩
  have hf : Fr Pr g w g { w with drawn := w.drawn + 1 } := fun _ _ => ⟨rfl, rfl, rfl⟩
  have hA' : InvA N g { w with drawn := w.drawn + 1 } Pr s a := by
    refine ⟨⟨hA.inv.len, fun l o h => RepOb.frame hw (fun _ => Keep.refl _ _) (fun b hb => ⟨rfl, hb⟩) (hA.inv.ob l o h), hA.inv.lt, hA.inv.pr, hA.inv.gl.mono hw.st⟩, hA.env.ext hw (fun _ _ => Keep.refl _ _), hA.size, hA.defers⟩
  have hQ : ∀ a1 w1, Behind N g { w with drawn := w.drawn + 1 } Pr (S ops.size) a1 w1 → Exit.normal = .normal ∧ Behind N g w Pr { s' with env := s'.env.keep keep } a1 w1 := by
    rintro a1 w1 hB
    refine ⟨rfl, ?_⟩
    rw [← hl', Sn] at hB
    obtain ⟨g', e1, e2, e3⟩ := hB
    exact ⟨g', hw.trans e1, hf.trans e2, keep_ok e3⟩
  have hld0 : ∀ j, Ld (Array.replicate ops.size false) j ↔ j < 0 := by
    intro j
    simp only [Ld, Array.getD_eq_getD_getElem?, Array.getElem?_replicate, Nat.not_lt_zero, iff_false]
    split <;> simp
  have hciT : ∀ (k : Nat) (o : Oper) (i : AIns), ops[k]? = some o → is[k]? = some i → chkIns P N ops o i = true := fun k o i ho hi => hci k o i (by simpa using ho) hi
  have hdstT : ∀ (k : Nat) (o : Oper) (i : AIns), ops[k]? = some o → is[k]? = some i → o.dst = i.dst := fun k o i ho hi => chk_dst (hciT k o i ho hi)
  simp only [drawOk, Bool.or_eq_true] at hd
  rcases hd with (hd | hd) | hd
  · have hd' : ∃ p, drawTry p ops is = true := hd.elim (fun h => ⟨_, h⟩) (fun h => ⟨_, h⟩)
    obtain ⟨p, hd'⟩ := hd'
    obtain ⟨hns, hpre, hD⟩ := drawTry_dr hd'
    have hJ : Along P N F bd ops is p (hdMid p ops is) (hdEnd p ops) S S g { w with drawn := w.drawn + 1 } Pr (fun e a' w' => e = .normal ∧ Behind N g w Pr { s' with env := s'.env.keep keep } a' w') (fun _ _ _ => True) := by
      refine ⟨fun _ _ _ => trivial, ?_, fun _ _ _ _ _ _ _ _ _ _ _ _ _ _ _ => trivial, fun listed a w1 g1 _ _ x1 x2 x3 => ⟨g1, x1, x2, x3⟩⟩
      intro listed k o i a1 w1 g1 sc s3 blk hsz hH hk ho hi hun hsees hst _
      have := ins_okP hS hen (hciT k o i ho hi) hst hH.inv (fun e a' w' => e = .normal ∧ Behind N g w Pr { s' with env := s'.env.keep keep } a' w')
      split at this
      · rename_i hw; rw [if_pos hw]; exact Oper.wp_mono (fun _ _ h => ⟨h, trivial⟩) this
      · rename_i hw; rw [if_neg hw]; exact ⟨this, trivial⟩
    exact wp_pre (isT := is) (ST := S) (g0 := g) (w0 := { w with drawn := w.drawn + 1 }) (Pr := Pr) (N := N) hS hen hD hl' (fun k i hi _ => hT k i hi) hl' (fun k i hi _ => hT k i hi) (fun b hb => (hA'.inv.pr b hb).1) (fun k o i ho hi _ => hdstT k o i ho hi) (fun k o i ho hi _ _ => hciT k o i ho hi) hciT hns hJ hQ
      (fun c a a' w h => (by cases h.1)) p 0 _ a (by omega) (by simp) hld0 hpre (by rw [S0]; exact hA') _ (by simp)
  · -- a load takes the right to grow
    have hd' : ∃ p q d x, is[q]? = some ⟨some d, .ld .own none x, none⟩ ∧ drawOwnP p ops is q d x = true := by
      unfold drawOwn at hd
      split at hd
      case h_1 => cases hd
      rename_i q _
      split at hd
      case h_2 => cases hd
      rename_i d x hi
      simp only [Bool.or_eq_true] at hd
      exact hd.elim (fun h => ⟨_, _, _, _, hi, h⟩) (fun h => ⟨_, _, _, _, hi, h⟩)
    obtain ⟨p, q, d, x, hq, hd'⟩ := hd'
    simp only [drawOwnP, Bool.and_eq_true, decide_eq_true_eq] at hd'
    obtain ⟨⟨⟨⟨d1, d2⟩, d3⟩, d4⟩, d5⟩ := hd'
    obtain ⟨hns, hpre, hD⟩ := drawTry_dr d1
    have hqlt : q < is.length := (List.getElem?_eq_some_iff.mp hq).1
    have hl2 : (is.set q ⟨some d, .ld .cp none x, none⟩).length = ops.size := by rw [List.length_set]; exact hl'
    have hle1 := hD.le1
    have hq2 : (is.set q ⟨some d, .ld .cp none x, none⟩)[q]? = some ⟨some d, .ld .cp none x, none⟩ := List.getElem?_set_self hqlt
    have hset : ∀ j, j ≠ q → (is.set q ⟨some d, .ld .cp none x, none⟩)[j]? = is[j]? := fun j hj => List.getElem?_set_ne (fun h => hj h.symm)
    have hfr : ∀ (j : Nat) (i : AIns), j < hdEnd p ops → j ≠ q → (is.set q ⟨some d, .ld .cp none x, none⟩)[j]? = some i → d ∉ i.touch := fun j i hj hjq hi =>
      freshOk_get d4 j i (by rw [List.getElem?_take, if_pos hj]; exact hi) (by simpa using hjq)
    have hnc : ∀ (j : Nat) (i : AIns), j < hdMid p ops (is.set q ⟨some d, .ld .cp none x, none⟩) → (is.set q ⟨some d, .ld .cp none x, none⟩)[j]? = some i → headCall i.op = false := fun j i hj hi => by
      rw [List.all_eq_true] at d5
      have := d5 (j, i) (by have := idx_get ((is.set q ⟨some d, .ld .cp none x, none⟩).take (hdMid p ops (is.set q ⟨some d, .ld .cp none x, none⟩))) 0 j i (by rw [List.getElem?_take, if_pos hj]; exact hi); simpa using this)
      simpa using this
    obtain ⟨S2, l, off, cs, f1, f2, f3, f4, f5⟩ := text2 hD hl' hT hq d3 (fun j i hj hjq hi => hfr j i hj hjq (by rw [hset j hjq]; exact hi)) (fun j i hj hjq hi => hnc j i hj (by rw [hset j hjq]; exact hi))
    have hci2 : ∀ (k : Nat) (o : Oper) (i : AIns), ops[k]? = some o → (is.set q ⟨some d, .ld .cp none x, none⟩)[k]? = some i → chkIns P N ops o i = true := by
      intro k o i ho hi
      by_cases hk : k = q
      · subst hk
        rw [hq2] at hi
        cases hi
        have h0 := hciT k o _ ho hq
        simp only [chkIns, Bool.and_eq_true] at h0 ⊢
        refine ⟨⟨h0.1.1, ?_⟩, h0.2⟩
        have h1 := h0.1.2
        simp only [chkOp] at h1 ⊢
        split at h1
        case h_2 => cases h1
        rename_i t y hop
        simp only [Bool.and_eq_true, Bool.not_eq_true'] at h1
        obtain ⟨i0, hi0⟩ := Option.isSome_iff_exists.mp h1.2
        simp [hop, hi0, h1.1.1.1, h1.1.1.2, aggOf, h1.1.2]
      · rw [hset k hk] at hi
        exact hciT k o i ho hi
    have hS20 : S2 0 = s := by rw [f1 0 (Nat.zero_le _), S0]
    have hJ := along_own (ST := S) (a0 := a) (g0 := g) (w0 := { w with drawn := w.drawn + 1 }) (Pr := Pr) (N := N) (Q := fun e a' w' => e = .normal ∧ Behind N g w Pr { s' with env := s'.env.keep keep } a' w') hS hen hD hl2 (by rw [hS20]; exact hA') (fun k o i ho hi _ => hci2 k o i ho hi) hq2 d3 d2 f2 hfr hnc (by rw [f1 q (Nat.le_refl _)]; exact f3) (by rw [f1 q (Nat.le_refl _)]; exact f4) (f5 _ (by omega) (Nat.le_refl _))
    have hpre2 : preOk ops (is.set q ⟨some d, .ld .cp none x, none⟩) p 0 (Array.replicate ops.size false) = true := hpre
    exact wp_pre (isT := is) (ST := S) (g0 := g) (w0 := { w with drawn := w.drawn + 1 }) (Pr := Pr) (N := N) hS hen hD hl2 f2 hl' (fun k i hi _ => hT k i hi) (fun b hb => (hA'.inv.pr b hb).1) (fun k o i ho hi _ => chk_dst (hci2 k o i ho hi)) (fun k o i ho hi _ _ => hci2 k o i ho hi) hciT hns hJ hQ
      (fun c a a' w h => (by cases h.1)) p 0 _ a (by omega) (by simp) hld0 hpre2 (by rw [hS20]; exact hA') _ (by simp)
  · -- a store that comes as it likes
    have hd' : ∃ p m n a' x rs, is[m]? = some ⟨none, .stl n a' x rs, none⟩ ∧ drawLateP p ops is m a' x rs = true := by
      unfold drawLate at hd
      split at hd
      case h_1 => cases hd
      rename_i m _
      split at hd
      case h_2 => cases hd
      rename_i n a' x rs hi
      simp only [Bool.or_eq_true] at hd
      exact hd.elim (fun h => ⟨_, _, _, _, _, _, hi, h⟩) (fun h => ⟨_, _, _, _, _, _, hi, h⟩)
    obtain ⟨p, m, n, x, y, rs, hm, hd'⟩ := hd'
    simp only [drawLateP, Bool.and_eq_true, decide_eq_true_eq] at hd'
    obtain ⟨⟨⟨⟨⟨d1, d2⟩, d3⟩, d4⟩, d5⟩, d6⟩ := hd'
    obtain ⟨hns, hpre, hD⟩ := drawTry_dr d1
    have e3 : hdMid p ops (is.set m (stub x y)) = m + 1 := (Nat.eq_of_beq_eq_true d3).symm
    have e4 : hdEnd p ops = m + 1 := (Nat.eq_of_beq_eq_true d4).symm
    rw [e3, e4] at hD
    have hmlt : m < is.length := (List.getElem?_eq_some_iff.mp hm).1
    have hl2 : (is.set m (stub x y)).length = ops.size := by rw [List.length_set]; exact hl'
    have hm2 : (is.set m (stub x y))[m]? = some (stub x y) := List.getElem?_set_self hmlt
    have hset : ∀ j, j ≠ m → (is.set m (stub x y))[j]? = is[j]? := fun j hj => List.getElem?_set_ne (fun h => hj h.symm)
    have hnc : ∀ (j : Nat) (i : AIns), j < m → is[j]? = some i → headCall i.op = false := fun j i hj hi => by
      rw [List.all_eq_true] at d6
      have := d6 (j, i) (by have := idx_get (is.take m) 0 j i (by rw [List.getElem?_take, if_pos hj]; exact hi); simpa using this)
      simpa using this
    obtain ⟨S2, l, cs, zs, f1, f2, f3, f4, f5, f6, f7, f8, f9, f10⟩ := text3 hD hl' hT hm d5 hnc
    obtain ⟨v1, v2⟩ := f7 m (Nat.le_refl _)
    have hS20 : InvA N g { w with drawn := w.drawn + 1 } Pr (S2 0) a := by
      rw [f8, S0]
      rw [S0] at f5
      exact ⟨hA'.inv.veil f5 f6, hA'.env, hA'.size, hA'.defers⟩
    have hl0 : l < (S 0).σ.length := (List.getElem?_eq_some_iff.mp f5).1
    have hbl : (S2 0).σ[l]? = some (.blank n) := by rw [f8]; exact List.getElem?_set_self hl0
    have hraw : (S2 m).raw y = (S m).raw y := by
      cases y with
      | t k => exact v2 k
      | k v => rfl
    have hrd2 : (S2 m).rd x = .c (.b (.ptr l 0)) := by
      rw [← f2]
      cases x with
      | t k => simp only [St.rd, St.raw, v2 k]
      | k v => rfl
    have hσm : (S m).σ.set l (.cells cs) = (S2 m).σ.set l (.cells cs) := by rw [v1, List.set_set]
    have hcim := fun o ho => hciT m o _ ho hm
    have hJ := along_late (ST := S) (a0 := a) (g0 := g) (w0 := { w with drawn := w.drawn + 1 }) (Pr := Pr) (N := N) (rs := rs) (Q := fun e a' w' => e = .normal ∧ Behind N g w Pr { s' with env := s'.env.keep keep } a' w') hS hen hD hl2 hS20 (fun k o i ho hi hk => hciT k o i ho (by rw [← hset k (by omega)]; exact hi)) hm2 d2
      (fun o ho => by
        have h := hcim o ho
        simp only [chkIns, Bool.and_eq_true] at h
        refine ⟨h.1.2, ?_⟩
        cases hg : o.guard with
        | none => rfl
        | some p => rw [hg] at h; simp at h) f1 (fun j i hj hi => hnc j i hj (by rw [← hset j (by omega)]; exact hi)) hrd2 (by rw [hraw]; exact f3) f4 hbl f9 (by rw [f10]; exact hσm)
      (fun t => by
        rw [f10]
        show ((S m).took y).env.get t = _
        cases y with
        | k v => exact (v2 t).symm
        | t k =>
          simp only [St.took]
          rw [env_get_cons, env_get_cons, v2 k, v2 t])
    have hpre2 : preOk ops (is.set m (stub x y)) p 0 (Array.replicate ops.size false) = true := hpre
    exact wp_pre (isT := is) (ST := S) (g0 := g) (w0 := { w with drawn := w.drawn + 1 }) (Pr := Pr) (N := N) hS hen hD hl2 f1 hl' (fun k i hi _ => hT k i hi) (fun b hb => (hA'.inv.pr b hb).1)
      (fun k o i ho hi hk => by
        by_cases e : k = m
        · subst e
          rw [hm2] at hi
          cases hi
          have := chk_dst (hcim o ho)
          exact this
        · exact hdstT k o i ho (by rw [← hset k e]; exact hi))
      (fun k o i ho hi hk hk2 => by
        have e : k ≠ m := by
          rcases hk with hk | hk
          · omega
          · omega
        exact hciT k o i ho (by rw [← hset k e]; exact hi)) hciT hns hJ hQ
      (fun c a a' w h => (by cases h.1)) p 0 _ a (by omega) (by simp) hld0 hpre2 hS20 _ (by simp)
end
end Go.Proofs.YthahhonmkhafkaaDoor.Am

/- Regions that draw their order: the same region with its operations written in another order. -/
namespace Go.Proofs.YthahhonmkhafkaaDoor.Am
set_option linter.unusedSimpArgs false
set_option linter.unusedVariables false
set_option linter.unusedSectionVars false
open Go
set_option linter.unusedVariables false
set_option linter.unusedSimpArgs false

def nth (l : List Nat) (k : Nat) : Nat := (l[k]?).getD 0

def renOp (ι : List Nat) (o : Oper) : Oper := { o with after := (o.after.toList.map fun e => { e with on := nth ι e.on }).toArray, guard := o.guard.map fun p => (nth ι p.1, p.2) }

def permOps (π ι : List Nat) (ops : Array Oper) : Array Oper := ((List.range ops.size).map fun k => renOp ι ((ops[nth π k]?).getD default)).toArray

/-- Are these a reordering of n places, and its inverse, and do the operations name places that there are? -/
def permOk (π ι : List Nat) (ops : Array Oper) : Bool :=
  ((List.range ops.size).all fun k => decide (nth π k < ops.size) && decide (nth ι k < ops.size) && Nat.beq (nth ι (nth π k)) k && Nat.beq (nth π (nth ι k)) k) &&
  ops.toList.all fun o => (o.after.toList.all fun e => decide (e.on < ops.size)) && (match o.guard with | some p => decide (p.1 < ops.size) | none => true)

section
variable {P : Program} {π ι : List Nat} {ops : Array Oper} {Q : Exit → Act → World → Prop}

theorem perm_size : (permOps π ι ops).size = ops.size := by simp [permOps]

structure PermIs (π ι : List Nat) (ops : Array Oper) : Prop where
  lt : ∀ k, k < ops.size → nth π k < ops.size
  lt' : ∀ k, k < ops.size → nth ι k < ops.size
  l : ∀ k, k < ops.size → nth ι (nth π k) = k
  r : ∀ k, k < ops.size → nth π (nth ι k) = k
  on : ∀ (k : Nat) (o : Oper) (e : Edge), ops[k]? = some o → e ∈ o.after → e.on < ops.size
  guard : ∀ (k : Nat) (o : Oper) (p : Nat × Bool), ops[k]? = some o → o.guard = some p → p.1 < ops.size

theorem permOk_is (h : permOk π ι ops = true) : PermIs π ι ops := by
  simp only [permOk, Bool.and_eq_true, List.all_eq_true, List.mem_range, decide_eq_true_eq] at h
  obtain ⟨h1, h2⟩ := h
  have hm : ∀ (k : Nat) (o : Oper), ops[k]? = some o → o ∈ ops.toList := fun k o ho => by simpa using Array.mem_of_getElem? ho
  refine ⟨fun k hk => (h1 k hk).1.1.1, fun k hk => (h1 k hk).1.1.2, fun k hk => Nat.eq_of_beq_eq_true (h1 k hk).1.2, fun k hk => Nat.eq_of_beq_eq_true (h1 k hk).2, fun k o e ho he => ?_, fun k o p ho hp => ?_⟩
  · exact (h2 o (hm k o ho)).1 e (by simpa using he)
  · have := (h2 o (hm k o ho)).2
    rw [hp] at this
    exact of_decide_eq_true this

theorem perm_get (hp : PermIs π ι ops) {k : Nat} {o : Oper} (ho : ops[k]? = some o) : (permOps π ι ops)[nth ι k]? = some (renOp ι o) := by
  have hk := (Array.getElem?_eq_some_iff.mp ho).1
  simp only [permOps, List.getElem?_toArray, List.getElem?_map, List.getElem?_range (hp.lt' k hk), Option.map_some, hp.r k hk, ho, Option.getD_some]

theorem ren_exec (ρ : Operand → Value) (o : Oper) : execOp ρ (renOp ι o) = execOp ρ o := by cases o; rfl

theorem ren_wp (o : Oper) (a : Act) (w : World) (K : Act → World → Prop) (h : (renOp ι o).wp P a w K Q) : o.wp P a w K Q := by
  unfold Oper.wp at *
  rw [ren_exec] at h
  cases o
  exact h

theorem ren_asks (o : Oper) (a : Act) (w : World) (h : (renOp ι o).asks P a w) : o.asks P a w := by
  unfold Oper.asks at *
  rw [ren_exec] at h
  exact h

theorem ren_wanted (hp : PermIs π ι ops) {k : Nat} {o : Oper} (ho : ops[k]? = some o) (t : Array Value) : Region.wanted (renOp ι o) (yielded (permOps π ι ops) t) = Region.wanted o (yielded ops t) := by
  cases hg : o.guard with
  | none => simp [Region.wanted, renOp, hg]
  | some p =>
    obtain ⟨j, want⟩ := p
    have hj := hp.guard k o _ ho hg
    have hoj : ops[j]? = some ops[j] := by simp [hj]
    have hy : yielded (permOps π ι ops) t (nth ι j) = yielded ops t j := by
      simp only [yielded, perm_get hp hoj, hoj, Option.bind_some, renOp]
    simp only [Region.wanted, renOp, hg, Option.map_some, hy]

theorem wpAny_perm (hp : PermIs π ι ops) : ∀ (fuel : Nat) (listed listed' : Array Bool) (a : Act) (w : World), listed.size = ops.size → listed'.size = ops.size → (∀ k, k < ops.size → listed'.getD (nth ι k) false = listed.getD k false) →
    wpAny P .any (permOps π ι ops) Q fuel listed' a w → wpAny P .any ops Q fuel listed a w := by
  have sz : ∀ {l : Array Bool} {k : Nat} (d d' : Bool), k < l.size → l.getD k d = l.getD k d' := by
    intro l k d d' hk
    simp [Array.getD_eq_getD_getElem?, hk]
  have rd : ∀ (listed listed' : Array Bool), listed.size = ops.size → listed'.size = ops.size → (∀ k, k < ops.size → listed'.getD (nth ι k) false = listed.getD k false) → ∀ k, k ∈ Region.ready .any ops listed → nth ι k ∈ Region.ready .any (permOps π ι ops) listed' := by
    intro listed listed' hs hs' hl k hk
    rw [mem_ready] at hk ⊢
    obtain ⟨h0, o, ho, he⟩ := hk
    have hk := (Array.getElem?_eq_some_iff.mp ho).1
    refine ⟨?_, renOp ι o, perm_get hp ho, fun e he' hb => ?_⟩
    · rw [sz true false (by rw [hs']; exact hp.lt' k hk), hl k hk, sz false true (by omega)]; exact h0
    · simp only [renOp, List.mem_toArray, List.mem_map] at he'
      obtain ⟨e0, he0, rfl⟩ := he'
      have he0' : e0 ∈ o.after := by simpa using he0
      rw [hl e0.on (hp.on k o e0 ho he0')]
      exact he e0 he0' hb
  have rd' : ∀ (listed listed' : Array Bool), listed.size = ops.size → listed'.size = ops.size → (∀ k, k < ops.size → listed'.getD (nth ι k) false = listed.getD k false) → Region.ready .any ops listed = [] → Region.ready .any (permOps π ι ops) listed' = [] := by
    intro listed listed' hs hs' hl h
    rw [List.eq_nil_iff_forall_not_mem] at h ⊢
    intro j hj
    rw [mem_ready] at hj
    obtain ⟨h0, o', ho', he⟩ := hj
    have hj : j < ops.size := by have := (Array.getElem?_eq_some_iff.mp ho').1; rwa [perm_size] at this
    have hπ := hp.lt j hj
    have ho : ops[nth π j]? = some ops[nth π j] := by simp [hπ]
    have hg := perm_get hp ho
    rw [hp.l j hj, ho'] at hg
    cases hg
    refine h (nth π j) ?_
    rw [mem_ready]
    have hlj := hl _ hπ
    rw [hp.l j hj] at hlj
    refine ⟨?_, _, ho, fun e he0 hb => ?_⟩
    · rw [sz true false (by omega), ← hlj, sz false true (by omega)]; exact h0
    · have := he { e with on := nth ι e.on } (by
        simp only [renOp, List.mem_toArray, List.mem_map]
        exact ⟨e, by simpa using he0, rfl⟩) hb
      rw [← hl e.on (hp.on _ _ e ho he0)]
      exact this
  intro fuel
  induction fuel with
  | zero =>
    intro listed listed' a w hs hs' hl h
    refine ⟨?_, h.2⟩
    rw [List.eq_nil_iff_forall_not_mem]
    intro k hk
    have := rd listed listed' hs hs' hl k hk
    rw [h.1] at this
    cases this
  | succ fuel ih =>
    intro listed listed' a w hs hs' hl h
    refine ⟨fun h0 => h.1 (rd' listed listed' hs hs' hl h0), fun k hk => ?_⟩
    have hr := rd listed listed' hs hs' hl k hk
    have h1 := h.2 _ hr
    rw [mem_ready] at hk
    obtain ⟨_, o, ho, _⟩ := hk
    have hk := (Array.getElem?_eq_some_iff.mp ho).1
    have hnext : ∀ a1 w1, wpAny P .any (permOps π ι ops) Q fuel (listed'.setIfInBounds (nth ι k) true) a1 w1 → wpAny P .any ops Q fuel (listed.setIfInBounds k true) a1 w1 := by
      intro a1 w1 h2
      refine ih _ _ a1 w1 (by simpa using hs) (by simpa using hs') (fun j hj => ?_) h2
      by_cases e : j = k
      · subst e
        have q1 : nth ι j < listed'.size := by rw [hs']; exact hp.lt' j hj
        have q2 : j < listed.size := by omega
        simp [Array.getD_eq_getD_getElem?, q1, q2]
      · have hne : nth ι k ≠ nth ι j := by
          intro h
          have := congrArg (nth π) h
          rw [hp.r k hk, hp.r j hj] at this
          exact e this.symm
        have := hl j hj
        simp only [Array.getD_eq_getD_getElem?] at this ⊢
        rw [Array.getElem?_setIfInBounds_ne hne, Array.getElem?_setIfInBounds_ne (fun h => e h.symm)]
        exact this
    simp only [wpOp, perm_get hp ho, ho] at h1 ⊢
    rw [ren_wanted hp ho] at h1
    have hd : (renOp ι o).dst = o.dst := rfl
    split
    · rename_i hw
      rw [if_pos hw] at h1
      rcases h1 with h1 | ⟨h2, h3⟩
      · exact .inl (Oper.wp_mono hnext (ren_wp o a w _ h1))
      · exact .inr ⟨ren_asks o a w h2, h3⟩
    · rename_i hw
      rw [if_neg hw] at h1
      exact hnext _ _ h1
end

def isStore : Oper → Bool
  | o => match o.op with | .store .. => true | _ => false

/-- Stores last. -/
def lastπ (ops : Array Oper) : List Nat := ((List.range ops.size).filter fun k => !((ops[k]?).map isStore).getD false) ++ ((List.range ops.size).filter fun k => ((ops[k]?).map isStore).getD false)
def idxOf (x : Nat) : List Nat → Nat → Nat
  | [], _ => 0
  | y :: l, n => bif Nat.beq x y then n else idxOf x l (n + 1)
def lastι (ops : Array Oper) : List Nat := (List.range ops.size).map fun k => idxOf k (lastπ ops) 0

section
variable {P : Program} {N : Nat} {g : G} {w : World} {Pr : Nat → Prop} {s s' : St} {a : Act} {F : Oracle} {bd : Bd} {ops : Array Oper} {is : List AIns}

theorem region_draw_ok (hm : P.follows .mixedOrders = true) (hS : Sound P F) (hen : ∀ f args σ lo tr r, F f args σ lo tr = some r → entered P (fnOf f) = true) {id : Nat} {keep : List Nat}
    (hc : chkAll P N ops ops.toList is = true) (hd : drawOk ops is = true) (hv : stepAll F bd s is = some s') (hA : InvA N g w Pr s a) :
    (Code.region id ops true).wp P (fun e a' w' => e = .normal ∧ Behind N g w Pr { s' with env := s'.env.keep keep } a' w') a w :=
  wp_region_any hm (draw_any hS hen hc hd hv hA)

/-- The region, its stores last. -/
def drawLast (P : Program) (N : Nat) (ops : Array Oper) (is : List AIns) : Bool :=
  permOk (lastπ ops) (lastι ops) ops && chkAll P N (permOps (lastπ ops) (lastι ops) ops) (permOps (lastπ ops) (lastι ops) ops).toList is && drawOk (permOps (lastπ ops) (lastι ops) ops) is

theorem region_last_ok (hm : P.follows .mixedOrders = true) (hS : Sound P F) (hen : ∀ f args σ lo tr r, F f args σ lo tr = some r → entered P (fnOf f) = true) {id : Nat} {keep : List Nat}
    (hd : drawLast P N ops is = true) (hv : stepAll F bd s is = some s') (hA : InvA N g w Pr s a) :
    (Code.region id ops true).wp P (fun e a' w' => e = .normal ∧ Behind N g w Pr { s' with env := s'.env.keep keep } a' w') a w := by
  simp only [drawLast, Bool.and_eq_true] at hd
  have h := draw_any (keep := keep) hS hen hd.1.2 hd.2 hv hA
  rw [perm_size] at h
  refine wp_region_any hm (wpAny_perm (permOk_is hd.1.1) ops.size _ (Array.replicate ops.size false) a _ Array.size_replicate Array.size_replicate (fun k hk => ?_) h)
  have hk' := (permOk_is hd.1.1).lt' k hk
  simp [Array.getD_eq_getD_getElem?, hk, hk']
end
end Go.Proofs.YthahhonmkhafkaaDoor.Am

