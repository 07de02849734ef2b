/- Operations that leave the model's memory alone. -/
import Derived.Test.YtjkhkblabhaimaaAmRep
namespace Go.Proofs.Ytjkhkblabhaimaa.Am
set_option linter.unusedSimpArgs false
set_option linter.unusedVariables false
open Go

open Classical in
/-- What is owned goes to other places; the protected stays. -/
noncomputable def G.ren (g : G) (Pr : Nat → Prop) (φ : Place → Place) : G :=
  { g with own := fun b => if Pr b then g.own b else (g.own b).map φ }

section
variable {P : Program} {g g' : G} {w w' : World} {Pr : Nat → Prop} {s s' : St} {a : Act}

theorem RepB.ren (φ : Place → Place) {x : B} {v : Value} (h : RepB g w x v) : RepB (g.ren Pr φ) w x v := by cases x <;> exact h

theorem RepC.ren (φ : Place → Place) {p q : Place} (hq : φ p = q) {x : C} {v : Value} (h : RepC g w Pr p x v) : RepC (g.ren Pr φ) w Pr q x v := by
  cases x with
  | b x => exact RepB.ren φ h
  | osl k rows =>
    obtain ⟨h1, h2, h3⟩ := h
    refine ⟨h1, h2, h3.imp id ?_⟩
    rintro ⟨a, cap, h4, h5⟩
    refine ⟨a, cap, h4, h5.imp id ?_⟩
    rintro ⟨s1, s2, s3, s4, s5, s6⟩
    exact ⟨s1, s2, s3, by simp [G.ren, s5, s4, hq], s5, s6⟩
  | fn f fst cap =>
    obtain ⟨xs, ys, h1, h2, h3, h4, h5⟩ := h
    refine ⟨xs, ys, h1, h2, h3, fun i b hi => ?_, fun i b hi => ?_⟩
    · obtain ⟨u, k1, k2, k3⟩ := h4 i b hi; exact ⟨u, k1, k2, RepB.ren φ k3⟩
    · obtain ⟨u, k1, k2, k3⟩ := h5 i b hi; exact ⟨u, k1, k2, RepB.ren φ k3⟩
  | nilf => exact h

theorem RepV1.ren (φ : Place → Place) {r r' : Root} {path path' : List Nat} (hr : ∀ p, φ (r, path ++ p) = (r', path' ++ p)) {x : V} {v : Value} (h : RepV1 g w Pr r path x v) :
    RepV1 (g.ren Pr φ) w Pr r' path' x v := by
  cases x with
  | c x => exact RepC.ren φ (by simpa using hr []) h
  | agg cs =>
    obtain ⟨arr, h1, h2, h3⟩ := h
    refine ⟨arr, h1, h2, fun i c hi => ?_⟩
    obtain ⟨u, k1, k2, k3⟩ := h3 i c hi
    exact ⟨u, k1, k2, RepC.ren φ (hr [i]) k3⟩
  | tup vs => exact h

theorem RepV.ren (φ : Place → Place) {r r' : Root} (hr : ∀ p, φ (r, p) = (r', p)) {x : V} {v : Value} (h : RepV g w Pr r x v) : RepV (g.ren Pr φ) w Pr r' x v := by
  cases x with
  | c x => exact RepV1.ren (x := .c x) (path := []) (path' := []) φ (by simpa using hr) h
  | agg cs => exact RepV1.ren (x := .agg cs) (path := []) (path' := []) φ (by simpa using hr) h
  | tup vs =>
    obtain ⟨arr, h1, h2⟩ := h
    refine ⟨arr, h1, fun i x hi => ?_⟩
    obtain ⟨u, k1, k2⟩ := h2 i x hi
    exact ⟨u, k1, RepV1.ren φ (fun p => by simpa using hr _) k2⟩

theorem Ext.ren (φ : Place → Place) : Ext g w (g.ren Pr φ) w := ⟨fun _ _ h => h, fun _ _ h => h, Nat.le_refl _, fun _ arr _ _ h => ⟨arr, h, rfl⟩, rfl, rfl, rfl⟩
theorem Fr.ren (φ : Place → Place) : Fr Pr g w (g.ren Pr φ) w := fun b hb => ⟨rfl, rfl, by simp [G.ren, hb]⟩

theorem RepOb.ren (φ : Place → Place) {l : Nat} (hl : ∀ i, φ (.cell l, i) = (.cell l, i)) {o : Ob} (h : RepOb g w Pr l o) : RepOb (g.ren Pr φ) w Pr l o := by
  cases o with
  | cells cs =>
    obtain ⟨b, o, arr, ty, h1, h2, h3, h4, h5⟩ := h
    refine ⟨b, o, arr, ty, h1, h2, h3, h4, fun i c hi => ?_⟩
    obtain ⟨u, k1, k2, k3⟩ := h5 i c hi
    exact ⟨u, k1, k2, RepC.ren φ (hl _) k3⟩
  | map es =>
    obtain ⟨b, o, mes, clock, h1, h2, h3, h4, h5⟩ := h
    refine ⟨b, o, mes, clock, h1, h2, h3, h4, fun i k v hi => ?_⟩
    obtain ⟨m, k1, k2, k3⟩ := h5 i k v hi
    exact ⟨m, k1, RepV1.ren φ (fun p => hl _) k2, RepV1.ren φ (fun p => hl _) k3⟩
  | dead => trivial

theorem Inv.ren (φ : Place → Place) {σ : List Ob} (hl : ∀ l i, φ (.cell l, i) = (.cell l, i)) (h : Inv g w Pr σ) : Inv (g.ren Pr φ) w Pr σ where
  len := h.len
  ob l o ho := RepOb.ren φ (hl l) (h.ob l o ho)
  lt := h.lt
  pr b hb := by
    obtain ⟨h1, h2, h3⟩ := h.pr b hb
    exact ⟨h1, h2, by simpa [G.ren, hb] using h3⟩

/-- The temporaries are what the environment says. -/
def EnvOk (g : G) (w : World) (Pr : Nat → Prop) (e : Env) (a : Act) : Prop := ∀ t, RepV g w Pr (.tmp t) (e.get t) (a.tmps.getD t undef)

/-- An operation that writes to no block that stands. -/
def still : Op → Bool
  | .store .. => false
  | .call c => match c.callee with
    | .builtin .append | .builtin .copy | .value _ | .invoke _ _ => false
    | _ => true
  | _ => true

def Same (w w' : World) : Prop := ∀ (b : Nat), b < w.heap.size → w'.heap[b]? = w.heap[b]?

def OpOk (P : Program) (o : Oper) (a : Act) (g : G) (w : World) (Pr : Nat → Prop) (s' : St) (v : V) : Prop :=
  ∃ u w' g', (still o.op = true → Same w w') ∧ ((execOp a.eval o).run P w = .ok (.value u) w' ∨ ((execOp a.eval o).run P w = .ok .skip w' ∧ u = undef)) ∧
    Ext g w g' w' ∧ Fr Pr g w g' w' ∧ Inv g' w' Pr s'.σ ∧ EnvOk g' w' Pr s'.env a ∧ ∀ d, o.dst = some d → RepV g' w' Pr (.tmp d) v u

theorem OpOk.pure {o : Oper} {v : V} {u : Value} (hr : (execOp a.eval o).run P w = .ok (.value u) w) (hI : Inv g w Pr s.σ) (hE : EnvOk g w Pr s.env a)
    (hv : ∀ r, RepV g w Pr r v u) : OpOk P o a g w Pr s v :=
  ⟨u, w, g, fun _ _ _ => rfl, .inl hr, .refl _ _, .refl _ _ _, hI, hE, fun _ _ => hv _⟩

def chkConst : Value → V → Bool
  | .bool a, .c (.b (.d (.bool b))) => a == b
  | .int k a, .c (.b (.d (.int k' b))) => decide (k = k') && decide (a = b)
  | .string a, .c (.b (.d (.str b))) => decide (a = b)
  | .slice none 0 0, .c (.osl _ []) => true
  | .slice none 0 0, .c (.b (.d (.sl []))) => true
  | .slice none 0 0, .c (.b .nils) => true
  | .pointer none, .c (.b .nilp) => true
  | .map none, .c (.b .nilm) => true
  | .nilFunc, .c .nilf => true
  | _, _ => false

def chkOpd : Operand → Opd → Bool
  | .tmp t, .t n => t == n
  | .const v, .k c => chkConst v c
  | .func f, .k (.c (.fn f' [] [])) => f == fnOf f'
  | _, _ => false

theorem chkConst_ok {v : Value} {c : V} (h : chkConst v c = true) (r : Root) : RepV g w Pr r c v := by
  unfold chkConst at h
  split at h
  · simp at h; subst h; exact RepD.bool _
  · simp at h; obtain ⟨rfl, rfl⟩ := h; exact RepD.int _ _
  · have h' := of_decide_eq_true h; subst h'; exact RepD.str _
  · exact ⟨RepD.nil, by simp, .inl rfl⟩
  · exact RepD.nil
  · rfl
  · rfl
  · rfl
  · rfl
  · cases h

/-- The operand's own place; a constant has none. -/
def Opd.src : Opd → Option Nat
  | .t n => some n
  | .k _ => none

theorem opd_raw (hE : EnvOk g w Pr s.env a) {y : Operand} {x : Opd} (h : chkOpd y x = true) :
    (∀ n, x = .t n → RepV g w Pr (.tmp n) (s.raw x) (a.eval y)) ∧ ((∀ c, x = .k c → ∀ r, RepV g w Pr r (s.raw x) (a.eval y))) := by
  unfold chkOpd at h
  split at h
  · rename_i t n
    have h' : t = n := eq_of_beq h
    subst h'
    exact ⟨fun n hn => by cases hn; exact hE t, fun c hc => by cases hc⟩
  · exact ⟨fun n hn => (by cases hn), fun c hc r => by cases hc; exact chkConst_ok h r⟩
  · rename_i f f'
    have h' : f = fnOf f' := eq_of_beq h
    subst h'
    exact ⟨fun n hn => (by cases hn), fun c hc r => by cases hc; exact ⟨#[], #[], rfl, rfl, rfl, by simp, by simp⟩⟩
  · cases h

theorem opd_rd (hE : EnvOk g w Pr s.env a) {y : Operand} {x : Opd} (h : chkOpd y x = true) (r : Root) : RepV g w Pr r (s.rd x) (a.eval y) := by
  obtain ⟨h1, h2⟩ := opd_raw hE h
  cases x with
  | t n => exact RepV.down (h1 n rfl)
  | k c => exact RepV.down (h2 c rfl r)

theorem env_get_cons (t : Nat) (v : V) (e : Env) (n : Nat) : Env.get ((t, v) :: e) n = if t = n then v else e.get n := by
  simp only [Env.get]
  by_cases h : t = n
  · simp [h]
  · have : (t == n) = false := by simp [h]
    simp [h, this]

theorem get_cons (t : Nat) (v : V) (e : Env) (n : Nat) : Env.get ((t, v) :: e) n = bif t == n then v else e.get n := rfl

theorem EnvOk.cons {e : Env} (hE : EnvOk g w Pr e a) {t : Nat} {v : V} (h : RepV g w Pr (.tmp t) v (a.tmps.getD t undef)) : EnvOk g w Pr ((t, v) :: e) a := by
  intro n
  rw [env_get_cons]
  split
  · subst_vars; exact h
  · exact hE n

/-- What an operand has is taken to the temporary d. -/
theorem take_ok (hI : Inv g w Pr s.σ) (hE : EnvOk g w Pr s.env a) {y : Operand} {x : Opd} (h : chkOpd y x = true) (d : Nat) :
    ∃ g', Ext g w g' w ∧ Fr Pr g w g' w ∧ Inv g' w Pr s.σ ∧ EnvOk g' w Pr (s.took x).env a ∧ RepV g' w Pr (.tmp d) (s.raw x) (a.eval y) := by
  cases x with
  | k c => exact ⟨g, .refl _ _, .refl _ _ _, hI, hE, (opd_raw hE h).2 c rfl _⟩
  | t n =>
    have hv := (opd_raw hE h).1 n rfl
    let φ : Place → Place := fun p => if p.1 = .tmp n then (.tmp d, p.2) else p
    have hv' : RepV (g.ren Pr φ) w Pr (.tmp d) (s.raw (.t n)) (a.eval y) := RepV.ren φ (fun p => by simp [φ]) hv
    refine ⟨g.ren Pr φ, Ext.ren φ, Fr.ren φ, Inv.ren φ (fun l i => by simp [φ]) hI, ?_, hv'⟩
    have hn : RepV (g.ren Pr φ) w Pr (.tmp n) (s.env.get n).down (a.tmps.getD n undef) := RepV.down (RepV.ren φ (r' := .tmp d) (fun p => by simp [φ]) (hE n))
    intro t
    simp only [St.took]
    rw [env_get_cons]
    split
    · subst_vars; exact hn
    · rename_i hne
      exact RepV.ren φ (fun p => by simp only [φ]; rw [if_neg]; intro h; exact hne (by cases h; rfl)) (hE t)

theorem run_pure_value (x : Value) : (Sem.pure (Next.value x) : Sem Next).run P w = .ok (.value x) w := rfl

theorem ok_mov_cp (o : Oper) {y : Operand} {x : Opd} (ho : o.op = .move y ∨ o.op = .assign y) (h : chkOpd y x = true) (hI : Inv g w Pr s.σ) (hE : EnvOk g w Pr s.env a) :
    OpOk P o a g w Pr s (s.rd x) := by
  refine OpOk.pure (u := a.eval y) ?_ hI hE (fun r => opd_rd hE h r)
  rcases ho with ho | ho <;> simp only [execOp, ho] <;> rfl

theorem ok_mov_own (o : Oper) {y : Operand} {x : Opd} (ho : o.op = .move y ∨ o.op = .assign y) (h : chkOpd y x = true) (hI : Inv g w Pr s.σ) (hE : EnvOk g w Pr s.env a) :
    OpOk P o a g w Pr (s.took x) (s.raw x) := by
  have hr : (execOp a.eval o).run P w = .ok (.value (a.eval y)) w := by rcases ho with ho | ho <;> simp only [execOp, ho] <;> rfl
  obtain ⟨g', h1, h2, h3, h4, h5⟩ := take_ok hI hE h (o.dst.getD 0)
  refine ⟨a.eval y, w, g', fun _ _ _ => rfl, .inl hr, h1, h2, ?_, h4, fun d hd => ?_⟩
  · cases x <;> exact h3
  · rw [hd] at h5; exact h5

theorem rep_int {r : Root} {k : IntKind} {n : Int} {v : Value} (h : RepV g w Pr r (.c (.b (.d (.int k n)))) v) : v = .int k n := by cases h; rfl
theorem rep_bool {r : Root} {n : Bool} {v : Value} (h : RepV g w Pr r (.c (.b (.d (.bool n)))) v) : v = .bool n := by cases h; rfl
theorem rep_str {r : Root} {n : ByteArray} {v : Value} (h : RepV g w Pr r (.c (.b (.d (.str n)))) v) : v = .string n := by cases h; rfl

theorem ok_pick (o : Oper) {c x y : Operand} {c' x' y' : Opd} {t : Bool} (ho : o.op = .pick c x y) (hc : chkOpd c c' = true) (hx : chkOpd x x' = true) (hy : chkOpd y y' = true)
    (ht : s.rd c' = .c (.b (.d (.bool t)))) (hI : Inv g w Pr s.σ) (hE : EnvOk g w Pr s.env a) : OpOk P o a g w Pr s (bif t then s.rd x' else s.rd y') := by
  have h1 := opd_rd hE hc (.tmp 0)
  rw [ht] at h1
  have h2 : a.eval c = .bool t := rep_bool h1
  refine OpOk.pure (u := if t then a.eval x else a.eval y) ?_ hI hE ?_
  · simp only [execOp, ho, h2, asBool]; cases t <;> rfl
  · intro r
    cases t
    · exact opd_rd hE hy r
    · exact opd_rd hE hx r

theorem intOf_ok {r : Root} {x : V} {n : Int} {v : Value} (h : RepV g w Pr r x v) (hx : intOf x = some n) : ∃ k, v = .int k n := by
  unfold intOf at hx
  split at hx
  · cases hx; exact ⟨_, rep_int h⟩
  · cases hx

theorem ok_un (o : Oper) {t : TypeId} {op : UnOp} {x : Operand} {x' : Opd} {d : D} (ho : o.op = .unOp op t x) (hx : chkOpd x x' = true)
    (hd : unV op (s.rd x') = some d) (hI : Inv g w Pr s.σ) (hE : EnvOk g w Pr s.env a) : OpOk P o a g w Pr s (.c (.b (.d d))) := by
  have h1 := opd_rd hE hx (.tmp 0)
  generalize s.rd x' = xv at h1 hd
  unfold unV at hd
  split at hd
  · rename_i k n
    have h2 := rep_int h1
    split at hd
    · cases hd
      refine OpOk.pure (u := .int k (k.wrap (0 - n))) ?_ hI hE (fun r => RepD.int _ _)
      simp only [execOp, ho, h2]; rfl
    · cases hd
  · rename_i b
    have h2 := rep_bool h1
    split at hd
    · cases hd
      refine OpOk.pure (u := .bool (!b)) ?_ hI hE (fun r => RepD.bool _)
      simp only [execOp, ho, h2]; rfl
    · cases hd
  · cases hd
end
end Go.Proofs.Ytjkhkblabhaimaa.Am
