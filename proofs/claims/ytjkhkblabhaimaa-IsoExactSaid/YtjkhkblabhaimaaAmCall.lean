/- Calls. -/
import Derived.Test.YtjkhkblabhaimaaAmMem8
namespace Go.Proofs.Ytjkhkblabhaimaa.Am
set_option linter.unusedSimpArgs false
set_option linter.unusedVariables false
open Go
set_option linter.unusedVariables false

/-- What behind an operation holds. -/
def Post (o : Oper) (a : Act) (g : G) (w : World) (Pr : Nat → Prop) (s' : St) (v : V) (a' : Act) (w' : World) : Prop :=
  ∃ g' u, a' = a.put o.dst u ∧ (still o.op = true → Same w w') ∧ Ext g w g' w' ∧ Fr Pr g w g' w' ∧ Inv g' w' Pr s'.σ ∧ EnvOk g' w' Pr s'.env a ∧ ∀ d, o.dst = some d → RepV g' w' Pr (.tmp d) v u

/-- What a call's answer is. -/
def Answer (g : G) (w : World) (Pr : Nat → Prop) (d : Nat) (v : V) (σ : List Ob) (e : Ending) (w' : World) : Prop :=
  ∃ u g', e = .returned u ∧ Ext g w g' w' ∧ Fr Pr g w g' w' ∧ Inv g' w' Pr σ ∧ RepV g' w' Pr (.tmp d) v u

/-- Arguments: read without their rights. -/
def Args (g : G) (w : World) (Pr : Nat → Prop) (args : List V) (vs : Array Value) : Prop :=
  vs.size = args.length ∧ ∀ (i : Nat) (x : V), args[i]? = some x → x.down = x ∧ ∃ u, vs[i]? = some u ∧ RepV g w Pr (.tmp i) x u

def SoundAt (P : Program) (F : Oracle) (f : Nat) : Prop :=
  ∀ args σ lo tr v σ', F f args σ lo tr = some (v, σ') → ∀ g w Pr vs d, Inv g w Pr σ → Args g w Pr args vs → Calls P (fnOf f) vs w (Answer g w Pr d v σ')

/-- Below its bound an oracle changes nothing. -/
def KeepF (F : Oracle) : Prop := ∀ f args σ lo tr v σ', F f args σ lo tr = some (v, σ') → ∀ l, l < lo → l < σ.length → σ'[l]? = σ[l]?

def Sound (P : Program) (F : Oracle) : Prop := (∀ f, SoundAt P F f) ∧ KeepF F

section
variable {P : Program} {g g' : G} {w w' : World} {Pr Pr' : Nat → Prop} {s s' : St} {a : Act} {F : Oracle} {bd : Bd}

theorem OpOk.wp {o : Oper} {v : V} (h : OpOk P o a g w Pr s' v) (Q : Exit → Act → World → Prop) : o.wp P a w (Post o a g w Pr s' v) Q := by
  obtain ⟨u, w', g', q, hr, x1, x2, x3, x4, x5⟩ := h
  unfold Oper.wp
  rcases hr with hr | ⟨hr, rfl⟩
  · rw [hr]; exact ⟨g', u, rfl, q, x1, x2, x3, x4, x5⟩
  · rw [hr]; exact ⟨g', undef, rfl, q, x1, x2, x3, x4, x5⟩

/-- What a caller keeps from what it calls. -/
def Mine (g : G) (w : World) : Nat → Prop := fun b => b < w.heap.size ∧ (∀ l, g.kind b ≠ .obj l) ∧ ∀ l i, g.own b ≠ some (.cell l, i)

theorem mine_of (hI : Inv g w Pr s.σ) {b : Nat} (h : Pr b) : Mine g w b := hI.pr b h

theorem RepC.pr {p : Place} {x : C} {v : Value} (h : RepC g w Pr p x v) (hp : ∀ k rows, x = .osl k rows → ∀ b, g.own b = some p → ¬ Pr' b) : RepC g w Pr' p x v := by
  cases x with
  | b x => exact h
  | osl k rows =>
    obtain ⟨h1, h2, h3⟩ := h
    refine ⟨h1, h2, h3.imp id ?_⟩
    rintro ⟨a, cap, h4, h5⟩
    refine ⟨a, cap, h4, h5.imp id ?_⟩
    rintro ⟨s1, s2, s3, s4, s5, s6⟩
    exact ⟨s1, s2, s3, s4, hp k rows rfl _ s4, s6⟩
  | fn f p q => exact h
  | nilf => exact h

theorem RepC.weaken {p : Place} {x : C} {v : Value} (h : RepC g w Pr' p x v) (hp : ∀ b, Pr b → Pr' b) : RepC g w Pr p x v := by
  cases x with
  | b x => exact h
  | osl k rows =>
    obtain ⟨h1, h2, h3⟩ := h
    refine ⟨h1, h2, h3.imp id ?_⟩
    rintro ⟨a, cap, h4, h5⟩
    refine ⟨a, cap, h4, h5.imp id ?_⟩
    rintro ⟨s1, s2, s3, s4, s5, s6⟩
    exact ⟨s1, s2, s3, s4, fun h => s5 (hp _ h), s6⟩
  | fn f p q => exact h
  | nilf => exact h

theorem RepV1.weaken {r : Root} {path : List Nat} {x : V} {v : Value} (h : RepV1 g w Pr' r path x v) (hp : ∀ b, Pr b → Pr' b) : RepV1 g w Pr r path x v := by
  cases x with
  | c x => exact RepC.weaken h hp
  | agg cs =>
    obtain ⟨arr, h1, h2, h3⟩ := h
    refine ⟨arr, h1, h2, fun i c hi => ?_⟩
    obtain ⟨u, k1, k2, k3⟩ := h3 i c hi
    exact ⟨u, k1, k2, RepC.weaken k3 hp⟩
  | tup vs => exact h

theorem RepV.weaken {r : Root} {x : V} {v : Value} (h : RepV g w Pr' r x v) (hp : ∀ b, Pr b → Pr' b) : RepV g w Pr r x v := by
  cases x with
  | c x => exact RepV1.weaken (x := .c x) (path := []) h hp
  | agg cs => exact RepV1.weaken (x := .agg cs) (path := []) h hp
  | tup vs =>
    obtain ⟨arr, h1, h2⟩ := h
    refine ⟨arr, h1, fun i x hi => ?_⟩
    obtain ⟨u, k1, k2⟩ := h2 i x hi
    exact ⟨u, k1, RepV1.weaken k2 hp⟩

theorem RepOb.weaken {l : Nat} {o : Ob} (h : RepOb g w Pr' l o) (hp : ∀ b, Pr b → Pr' b) : RepOb g w Pr l o := by
  cases o with
  | cells cs =>
    obtain ⟨b, o, arr, ty, h1, h2, h3, h4, h5⟩ := h
    refine ⟨b, o, arr, ty, h1, h2, h3, h4, fun i c hi => ?_⟩
    obtain ⟨u, k1, k2, k3⟩ := h5 i c hi
    exact ⟨u, k1, k2, RepC.weaken k3 hp⟩
  | map es =>
    obtain ⟨b, o, mes, clock, h1, h2, h3, h4, h5⟩ := h
    refine ⟨b, o, mes, clock, h1, h2, h3, h4, fun i k v hi => ?_⟩
    obtain ⟨m, k1, k2, k3⟩ := h5 i k v hi
    exact ⟨m, k1, RepV1.weaken k2 hp, RepV1.weaken k3 hp⟩
  | dead => trivial

theorem RepV1.mine {l : Nat} {path : List Nat} {x : V} {v : Value} (h : RepV1 g w Pr (.cell l) path x v) : RepV1 g w (Mine g w) (.cell l) path x v := by
  cases x with
  | c x => exact RepC.pr h (fun _ _ _ b hb hm => hm.2.2 _ _ hb)
  | agg cs =>
    obtain ⟨arr, h1, h2, h3⟩ := h
    refine ⟨arr, h1, h2, fun i c hi => ?_⟩
    obtain ⟨u, k1, k2, k3⟩ := h3 i c hi
    exact ⟨u, k1, k2, RepC.pr k3 (fun _ _ _ b hb hm => hm.2.2 _ _ hb)⟩
  | tup vs => exact h

theorem Inv.mine {σ : List Ob} (hI : Inv g w Pr σ) : Inv g w (Mine g w) σ where
  len := hI.len
  lt := hI.lt
  pr b hb := hb
  ob l o ho := by
    have h := hI.ob l o ho
    cases o with
    | cells cs =>
      obtain ⟨b, o, arr, ty, h1, h2, h3, h4, h5⟩ := h
      refine ⟨b, o, arr, ty, h1, h2, h3, h4, fun i c hi => ?_⟩
      obtain ⟨u, k1, k2, k3⟩ := h5 i c hi
      exact ⟨u, k1, k2, RepC.pr k3 (fun _ _ _ b hb hm => hm.2.2 _ _ hb)⟩
    | map es =>
      obtain ⟨b, o, mes, clock, h1, h2, h3, h4, h5⟩ := h
      refine ⟨b, o, mes, clock, h1, h2, h3, h4, fun i k v hi => ?_⟩
      obtain ⟨m, k1, k2, k3⟩ := h5 i k v hi
      exact ⟨m, k1, RepV1.mine k2, RepV1.mine k3⟩
    | dead => trivial

/-- A value without rights holds under any protection. -/
theorem RepV.any_pr {r r' : Root} {x : V} {v : Value} (h : RepV g w Pr r x v) (hx : x.down = x) : RepV g w Pr' r' x v := by
  have hc : ∀ (c : C) (p q : Place) (u : Value), c.down = c → RepC g w Pr p c u → RepC g w Pr' q c u := by
    intro c p q u hd hc
    cases c with
    | b y => exact hc
    | osl k rows => simp [C.down] at hd
    | fn f p q => exact hc
    | nilf => exact hc
  cases x with
  | c y => exact hc y (r, []) (r', []) v (by simpa [V.down] using hx) h
  | agg cs =>
    obtain ⟨arr, h1, h2, h3⟩ := h
    refine ⟨arr, h1, h2, fun i c hi => ?_⟩
    obtain ⟨u, k1, k2, k3⟩ := h3 i c hi
    have : c.down = c := by
      have hm : cs.map C.down = cs := by simpa [V.down] using hx
      have := congrArg (·[i]?) hm
      simp only [List.getElem?_map, hi, Option.map_some, Option.some.injEq] at this
      exact this
    exact ⟨u, k1, k2, hc c _ _ u this k3⟩
  | tup vs => simp [V.down] at hx

/-- What a call gives back to its caller. -/
theorem answer_mine (hI : Inv g w Pr s.σ) (hE : EnvOk g w Pr s.env a) {d : Nat} {v : V} {σ : List Ob} {e : Ending} {w' : World} (h : Answer g w (Mine g w) d v σ e w') :
    ∃ u g', e = .returned u ∧ Ext g w g' w' ∧ Fr Pr g w g' w' ∧ Inv g' w' Pr σ ∧ EnvOk g' w' Pr s.env a ∧ RepV g' w' Pr (.tmp d) v u := by
  obtain ⟨u, g', he, x1, x2, x3, x4⟩ := h
  have hsub : ∀ b, Pr b → Mine g w b := fun b hb => hI.pr b hb
  refine ⟨u, g', he, x1, fun b hb => x2 b (hsub b hb), ⟨x3.len, fun l o ho => RepOb.weaken (x3.ob l o ho) hsub, x3.lt, fun b hb => x3.pr b (hsub b hb)⟩, ?_, RepV.weaken x4 hsub⟩
  refine hE.ext x1 (fun t i b n h1 h2 => ?_)
  have hm : Mine g w b := ⟨hI.lt b (by rw [h2]; simp), fun l => by rw [h2]; simp, fun l i => by rw [h1]; simp⟩
  obtain ⟨_, y2, y3⟩ := x2 b hm
  exact ⟨by rw [y3]; exact h1, by rw [y2]; exact h2⟩

/-- Is it a function with a text? -/
def entered (P : Program) (f : Nat) : Bool := match P.funcs[f]? with
  | some fn => fn.name != "runtime.NumGoroutine" && fn.body.isSome
  | none => false

theorem run_callFunc {f : Nat} {vs : Array Value} (h : entered P f = true) : (callFunc f vs).run P w = .ok (.enter f vs) w := by
  unfold entered at h
  split at h
  · rename_i fn hf
    simp only [Bool.and_eq_true, bne_iff_ne, ne_eq] at h
    obtain ⟨h1, h2⟩ := h
    obtain ⟨b, hb⟩ := Option.isSome_iff_exists.mp h2
    simp [callFunc, hf, h1, hb]
  · cases h

def chkOpds : List Operand → List Opd → Bool
  | [], [] => true
  | x :: xs, y :: ys => chkOpd x y && chkOpds xs ys
  | _, _ => false

theorem opds_args (hE : EnvOk g w Pr s.env a) : ∀ {xs : List Operand} {ys : List Opd}, chkOpds xs ys = true → xs.length = ys.length ∧ ∀ (i : Nat) (x : V), (ys.map s.rd)[i]? = some x → x.down = x ∧ ∃ u, (xs.map a.eval)[i]? = some u ∧ ∀ r, RepV g w Pr' r x u
  | [], [], _ => ⟨rfl, by simp⟩
  | [], _ :: _, h => by simp [chkOpds] at h
  | _ :: _, [], h => by simp [chkOpds] at h
  | x :: xs, y :: ys, h => by
    simp only [chkOpds, Bool.and_eq_true] at h
    obtain ⟨h1, h2⟩ := opds_args hE h.2
    refine ⟨by simp [h1], fun i v hi => ?_⟩
    cases i with
    | zero =>
      simp at hi; subst hi
      exact ⟨down_down _, _, rfl, fun r => RepV.any_pr (opd_rd hE h.1 (.tmp 0)) (down_down _)⟩
    | succ i => simpa using h2 i v (by simpa using hi)

theorem ok_call (o : Oper) {f : Nat} {xs : Array Operand} {ts : Array TypeId} {ys : List Opd} {v : V} (hS : SoundAt P F f) (ho : o.op = .call { callee := .value (.func (fnOf f)), args := xs, argTypes := ts })
    (hx : chkOpds xs.toList ys = true) (hf : entered P (fnOf f) = true)
    (hv : stepOp F bd s (.call f ys) = some (v, s')) (hI : Inv g w Pr s.σ) (hE : EnvOk g w Pr s.env a) (Q : Exit → Act → World → Prop) : o.wp P a w (Post o a g w Pr s' v) Q := by
  simp only [stepOp] at hv
  split at hv
  case h_2 => cases hv
  rename_i v0 σ hF
  cases hv
  have hrun : (execOp a.eval o).run P w = .ok (.enter (fnOf f) (xs.map a.eval)) w := by
    simp only [execOp, ho, resolve, Act.eval, Deferred.ofValue, invoke, Sem.run_bind, Sem.run_pure, Result.andThen_ok]
    rw [run_callFunc hf]
    simp
  unfold Oper.wp
  rw [hrun]
  obtain ⟨l1, l2⟩ := opds_args (Pr' := Mine g w) hE hx
  have hargs : Args g w (Mine g w) (ys.map s.rd) (xs.map a.eval) := by
    refine ⟨by simpa using l1, fun i x hi => ?_⟩
    obtain ⟨m1, u, m2, m3⟩ := l2 i x hi
    refine ⟨m1, u, ?_, m3 _⟩
    rw [← m2]
    simp
  refine (hS _ _ _ _ _ _ hF g w (Mine g w) _ (o.dst.getD 0) hI.mine hargs).mono ?_
  intro e w' h
  obtain ⟨u, g', rfl, x1, x2, x3, x4, x5⟩ := answer_mine hI hE h
  exact ⟨g', u, rfl, fun h => (by rw [ho] at h; cases h), x1, x2, x3, x4, fun d hd => by rw [hd] at x5; exact x5⟩

theorem ok_callv (o : Oper) {f0 : Operand} {f0' : Opd} {xs : Array Operand} {ts : Array TypeId} {ys : List Opd} {v : V} (hS : Sound P F) (hen : ∀ f args σ lo tr r, F f args σ lo tr = some r → entered P (fnOf f) = true) (ho : o.op = .call { callee := .value f0, args := xs, argTypes := ts })
    (hf0 : chkOpd f0 f0' = true) (hx : chkOpds xs.toList ys = true)
    (hv : stepOp F bd s (.callv f0' ys) = some (v, s')) (hI : Inv g w Pr s.σ) (hE : EnvOk g w Pr s.env a) (Q : Exit → Act → World → Prop) : o.wp P a w (Post o a g w Pr s' v) Q := by
  have h0 := opd_rd hE hf0 (.tmp 0)
  simp only [stepOp] at hv
  split at hv
  case h_2 => cases hv
  rename_i f fst cap hr
  rw [hr] at h0
  obtain ⟨us, ws, q1, q2, q3, q4, q5⟩ := h0
  split at hv
  case h_2 => cases hv
  rename_i v0 σ hF
  cases hv
  have hf := hen _ _ _ _ _ _ hF
  have hrun : (execOp a.eval o).run P w = .ok (.enter (fnOf f) (us ++ xs.map a.eval ++ ws)) w := by
    simp only [execOp, ho, resolve, q1, Deferred.ofValue, invoke, Sem.run_bind, Sem.run_pure, Result.andThen_ok]
    rw [run_callFunc hf]
  unfold Oper.wp
  rw [hrun]
  obtain ⟨l1, l2⟩ := opds_args (Pr' := Mine g w) hE hx
  have hargs : Args g w (Mine g w) (fst.map (fun b => V.c (.b b)) ++ ys.map s.rd ++ cap.map (fun b => V.c (.b b))) (us ++ xs.map a.eval ++ ws) := by
    have hl : xs.size = ys.length := by simpa using l1
    refine ⟨by simp [q2, q3, hl], fun i x hi => ?_⟩
    by_cases h1 : i < fst.length
    · rw [List.append_assoc, List.getElem?_append_left (by simpa using h1)] at hi
      simp only [List.getElem?_map, Option.map_eq_some_iff] at hi
      obtain ⟨b, hb, rfl⟩ := hi
      obtain ⟨u, z1, _, z2⟩ := q4 i b hb
      exact ⟨rfl, u, by rw [Array.append_assoc, Array.getElem?_append_left (by omega)]; exact z1, z2⟩
    · rw [List.append_assoc, List.getElem?_append_right (by simpa using h1)] at hi
      simp only [List.length_map] at hi
      by_cases h2 : i - fst.length < ys.length
      · rw [List.getElem?_append_left (by simpa using h2)] at hi
        obtain ⟨m1, u, m2, m3⟩ := l2 _ x hi
        refine ⟨m1, u, ?_, m3 _⟩
        rw [Array.append_assoc, Array.getElem?_append_right (by omega), Array.getElem?_append_left (by simp; omega), q2, ← m2]
        simp
      · rw [List.getElem?_append_right (by simpa using h2)] at hi
        simp only [List.length_map, List.getElem?_map, Option.map_eq_some_iff] at hi
        obtain ⟨b, hb, rfl⟩ := hi
        obtain ⟨u, z1, _, z2⟩ := q5 _ b hb
        refine ⟨rfl, u, ?_, z2⟩
        rw [Array.append_assoc, Array.getElem?_append_right (by omega), Array.getElem?_append_right (by simp; omega), q2]
        simpa [hl] using z1
  refine (hS.1 f _ _ _ _ _ _ hF g w (Mine g w) _ (o.dst.getD 0) hI.mine hargs).mono ?_
  intro e w' h
  obtain ⟨u, g', rfl, x1, x2, x3, x4, x5⟩ := answer_mine hI hE h
  exact ⟨g', u, rfl, fun h => (by rw [ho] at h; cases h), x1, x2, x3, x4, fun d hd => by rw [hd] at x5; exact x5⟩
end
end Go.Proofs.Ytjkhkblabhaimaa.Am
