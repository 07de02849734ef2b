/- Calls that see no object. -/
import Derived.Test.YtjkhkblabhaimaaAmCall
namespace Go.Proofs.Ytjkhkblabhaimaa.Am
set_option linter.unusedSimpArgs false
set_option linter.unusedVariables false
open Go
set_option linter.unusedVariables false

section
variable {P : Program} {g g1 g2 g' : G} {w w1 w2 w' : World} {Pr Pr1 Pr2 : Nat → Prop} {s s' : St} {a : Act} {F : Oracle} {bd : Bd}

theorem RepB.blind (hst : ∀ x v, g1.st w1 x v → g2.st w2 x v) {x : B} {v : Value} (hx : x.closed 0 = true) (h : RepB g1 w1 x v) : RepB g2 w2 x v := by
  cases x with
  | d x => exact RepD.mono hst h
  | ptr l off => simp [B.closed] at hx
  | nilp => exact h
  | rop row off =>
    obtain ⟨b, o, vs, h1, h2⟩ := h
    exact ⟨b, o, vs, h1, fun j d hj => ⟨hst _ _ (h2 j d hj).1, RepD.mono hst (h2 j d hj).2⟩⟩
  | arr k l off len => simp [B.closed] at hx
  | map l => simp [B.closed] at hx
  | nilm => exact h
  | nils => exact h
  | emp => exact h
  | any => trivial

/-- What is owned stays owned. -/
def Owns (g1 : G) (w1 : World) (Pr1 : Nat → Prop) (g2 : G) (w2 : World) (Pr2 : Nat → Prop) (r : Root) : Prop :=
  ∀ (b n : Nat) (i : List Nat), g1.kind b = .grow n → g1.own b = some (r, i) → ¬ Pr1 b → g2.kind b = .grow n ∧ g2.own b = some (r, i) ∧ ¬ Pr2 b ∧ w2.heap[b]? = w1.heap[b]?

theorem RepC.blind (hst : ∀ x v, g1.st w1 x v → g2.st w2 x v) {r : Root} {i : List Nat} (ho : Owns g1 w1 Pr1 g2 w2 Pr2 r) {x : C} {v : Value} (hx : x.closed 0 = true) (h : RepC g1 w1 Pr1 (r, i) x v) : RepC g2 w2 Pr2 (r, i) x v := by
  cases x with
  | b x => exact RepB.blind hst hx h
  | osl k rows =>
    obtain ⟨h1, h2, h3⟩ := h
    refine ⟨RepD.mono hst h1, h2, h3.imp id ?_⟩
    rintro ⟨a, cap, h4, h5⟩
    refine ⟨a, cap, h4, h5.imp id ?_⟩
    rintro ⟨s1, s2, s3, s4, s5, arr, ty, s6, s7⟩
    obtain ⟨q1, q2, q3, q4⟩ := ho _ _ _ s3 s4 s5
    exact ⟨s1, s2, q1, q2, q3, arr, ty, by rw [q4]; exact s6, s7⟩
  | fn f fst cap =>
    simp only [C.closed, Bool.and_eq_true, List.all_eq_true] at hx
    obtain ⟨xs, ys, h1, h2, h3, h4, h5⟩ := h
    refine ⟨xs, ys, h1, h2, h3, fun i b hi => ?_, fun i b hi => ?_⟩
    · obtain ⟨u, k1, k2, k3⟩ := h4 i b hi; exact ⟨u, k1, k2, RepB.blind hst (hx.1 _ (List.mem_of_getElem? hi)) k3⟩
    · obtain ⟨u, k1, k2, k3⟩ := h5 i b hi; exact ⟨u, k1, k2, RepB.blind hst (hx.2 _ (List.mem_of_getElem? hi)) k3⟩
  | nilf => exact h

theorem RepV1.blind (hst : ∀ x v, g1.st w1 x v → g2.st w2 x v) {r : Root} {path : List Nat} (ho : Owns g1 w1 Pr1 g2 w2 Pr2 r) {x : V} {v : Value} (hx : x.closed1 0 = true) (h : RepV1 g1 w1 Pr1 r path x v) : RepV1 g2 w2 Pr2 r path x v := by
  cases x with
  | c x => exact RepC.blind hst ho hx h
  | agg cs =>
    simp only [V.closed1, List.all_eq_true] at hx
    obtain ⟨arr, h1, h2, h3⟩ := h
    refine ⟨arr, h1, h2, fun i c hi => ?_⟩
    obtain ⟨u, k1, k2, k3⟩ := h3 i c hi
    exact ⟨u, k1, k2, RepC.blind hst ho (hx _ (List.mem_of_getElem? hi)) k3⟩
  | tup vs => exact h

theorem RepV.blind (hst : ∀ x v, g1.st w1 x v → g2.st w2 x v) {r : Root} (ho : Owns g1 w1 Pr1 g2 w2 Pr2 r) {x : V} {v : Value} (hx : x.closed 0 = true) (h : RepV g1 w1 Pr1 r x v) : RepV g2 w2 Pr2 r x v := by
  cases x with
  | c x => exact RepV1.blind (x := .c x) (path := []) hst ho hx h
  | agg cs => exact RepV1.blind (x := .agg cs) (path := []) hst ho hx h
  | tup vs =>
    simp only [V.closed, List.all_eq_true] at hx
    obtain ⟨arr, h1, h2⟩ := h
    refine ⟨arr, h1, fun i x hi => ?_⟩
    obtain ⟨u, k1, k2⟩ := h2 i x hi
    exact ⟨u, k1, RepV1.blind hst ho (hx _ (List.mem_of_getElem? hi)) k2⟩

def unobj : Bk → Bk
  | .obj _ => .free
  | k => k

/-- The same memory, without its objects. -/
def G.blind (g : G) : G := ⟨[], fun b => unobj (g.kind b), fun _ => none⟩

def Old (w : World) : Nat → Prop := fun b => b < w.heap.size

theorem unobj_ne {k : Bk} (h : unobj k ≠ .free) : k ≠ .free := by rintro rfl; exact h rfl

theorem blind_inv (hI : Inv g w Pr s.σ) : Inv g.blind w (Old w) [] where
  len := rfl
  ob l o h := by simp at h
  lt b h := hI.lt b (unobj_ne h)
  pr b h := by
    refine ⟨h, fun l hl => ?_, fun l i hl => (by cases hl)⟩
    have hl' : unobj (g.kind b) = .obj l := hl
    cases hk : g.kind b <;> rw [hk] at hl' <;> cases hl'

theorem blind_st {x : Addr} {v : Value} : g.blind.st w x v ↔ g.st w x v := by
  simp only [G.st, G.blind]
  constructor
  · rintro ⟨h1, h2, h3⟩
    refine ⟨h1, h2, ?_⟩
    cases hk : g.kind x.block <;> rw [hk] at h3 <;> simp_all [unobj]
  · rintro ⟨h1, h2, h3⟩
    refine ⟨h1, h2, ?_⟩
    rcases h3 with h3 | ⟨n, h3, h4⟩
    · exact .inl (by rw [h3]; rfl)
    · exact .inr ⟨n, by rw [h3]; rfl, h4⟩

/-- What it gives back. -/
theorem answer_blind (hI : Inv g w Pr s.σ) (hE : EnvOk g w Pr s.env a) {d : Nat} {v : V} {σ : List Ob} {e : Ending} {w' : World} (hv : v.closed 0 = true) (h : Answer g.blind w (Old w) d v σ e w') :
    ∃ u g', e = .returned u ∧ Same w w' ∧ Ext g w g' w' ∧ Fr Pr g w g' w' ∧ Inv g' w' Pr s.σ ∧ EnvOk g' w' Pr s.env a ∧ RepV g' w' Pr (.tmp d) v u := by
  obtain ⟨u, g1, he, x1, x2, x3, x4⟩ := h
  have hsame : Same w w' := fun b hb => (x2 b hb).1
  let g2 : G := ⟨g.loc, fun b => if b < w.heap.size then g.kind b else unobj (g1.kind b), fun b => if b < w.heap.size then g.own b else g1.own b⟩
  have hst : ∀ x v, g1.st w' x v → g2.st w' x v := by
    rintro x v ⟨h1, h2, h3⟩
    refine ⟨h1, h2, ?_⟩
    simp only [g2]
    by_cases hb : x.block < w.heap.size
    · rw [if_pos hb]
      have hk := (x2 _ hb).2.1
      rw [hk] at h3
      simp only [G.blind] at h3
      cases hg : g.kind x.block <;> rw [hg] at h3 <;> simp_all [unobj]
    · rw [if_neg hb]
      rcases h3 with h3 | ⟨n, h3, h4⟩
      · exact .inl (by rw [h3]; rfl)
      · exact .inr ⟨n, by rw [h3]; rfl, h4⟩
  have hext : Ext g w g2 w' := by
    refine ⟨fun x v hx => ?_, fun l x h => h, x1.size, x1.shape, x1.os, x1.tape, x1.output⟩
    obtain ⟨h1, h2, h3⟩ := hx
    have hlt : x.block < w.heap.size := hI.lt _ (by rcases h3 with h3 | ⟨n, h3, _⟩ <;> rw [h3] <;> simp)
    refine ⟨h1, ?_, by simpa [g2, hlt] using h3⟩
    simp only [World.cell?, hsame _ hlt]
    exact h2
  have hkeep : ∀ p, Keep g g2 p := by
    intro p b n h1 h2
    have hlt : b < w.heap.size := hI.lt _ (by rw [h2]; simp)
    exact ⟨by simpa [g2, hlt] using h1, by simpa [g2, hlt] using h2⟩
  refine ⟨u, g2, he, hsame, hext, fun b hb => ?_, ⟨hI.len, fun l o ho => ?_, fun b hb => ?_, fun b hb => ?_⟩, hE.ext hext (fun _ _ => hkeep _), ?_⟩
  · have hlt := (hI.pr b hb).1
    exact ⟨hsame b hlt, by simp [g2, hlt], by simp [g2, hlt]⟩
  · refine RepOb.frame hext (fun i => hkeep _) (fun b hb => ?_) (hI.ob l o ho)
    have hlt : b < w.heap.size := hI.lt _ (by rw [hb]; simp)
    exact ⟨hsame b hlt, by simpa [g2, hlt] using hb⟩
  · by_cases hlt : b < w.heap.size
    · exact Nat.lt_of_lt_of_le hlt x1.size
    · exact x3.lt b (unobj_ne (by simpa [g2, hlt] using hb))
  · obtain ⟨p1, p2, p3⟩ := hI.pr b hb
    exact ⟨Nat.lt_of_lt_of_le p1 x1.size, by simpa [g2, p1] using p2, by simpa [g2, p1] using p3⟩
  · refine RepV.blind hst (Pr1 := Old w) ?_ hv x4
    intro b n i h1 h2 h3
    have hlt : ¬ b < w.heap.size := h3
    refine ⟨by simp [g2, hlt, h1, unobj], by simp [g2, hlt, h2], fun hp => hlt (hI.pr b hp).1, rfl⟩

/-- A call that sees no object. -/
theorem ok_callb (o : Oper) {f : Nat} {xs : Array Operand} {ts : Array TypeId} {ys : List Opd} {v : V} (hS : SoundAt P F f) (ho : o.op = .call { callee := .value (.func (fnOf f)), args := xs, argTypes := ts })
    (hx : chkOpds xs.toList ys = true) (hf : entered P (fnOf f) = true)
    (hv : stepOp F bd s (.callb f ys) = some (v, s')) (hI : Inv g w Pr s.σ) (hE : EnvOk g w Pr s.env a) (Q : Exit → Act → World → Prop) : o.wp P a w (fun a' w' => Post o a g w Pr s' v a' w' ∧ Same w w') Q := by
  simp only [stepOp] at hv
  split at hv
  case isFalse => cases hv
  rename_i hcl
  split at hv
  case h_2 => cases hv
  rename_i v0 σ hF
  split at hv
  case isFalse => cases hv
  rename_i hvc
  cases hv
  have hrun : (execOp a.eval o).run P w = .ok (.enter (fnOf f) (xs.map a.eval)) w := by
    simp only [execOp, ho, resolve, Act.eval, Deferred.ofValue, invoke, Sem.run_bind, Sem.run_pure, Result.andThen_ok]
    rw [run_callFunc hf]
    simp
  unfold Oper.wp
  rw [hrun]
  obtain ⟨l1, l2⟩ := opds_args (Pr' := fun _ => True) hE hx
  have hargs : Args g.blind w (Old w) (ys.map s.rd) (xs.map a.eval) := by
    refine ⟨by simpa using l1, fun i x hi => ?_⟩
    obtain ⟨m1, u, m2, m3⟩ := l2 i x hi
    refine ⟨m1, u, ?_, RepV.blind (fun x v h => blind_st.2 h) (fun _ _ _ _ _ h => absurd trivial h) (List.all_eq_true.1 hcl x (List.mem_of_getElem? hi)) (m3 _)⟩
    rw [← m2]
    simp
  refine (hS _ _ _ _ _ _ hF g.blind w (Old w) _ (o.dst.getD 0) (blind_inv hI) hargs).mono ?_
  intro e w' h
  obtain ⟨u, g', rfl, x0, x1, x2, x3, x4, x5⟩ := answer_blind hI hE hvc h
  exact ⟨⟨g', u, rfl, fun _ => x0, x1, x2, x3, x4, fun d hd => by rw [hd] at x5; exact x5⟩, x0⟩
end
end Go.Proofs.Ytjkhkblabhaimaa.Am
