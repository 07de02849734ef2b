/- Operations that make or write memory: new objects, stores. -/
import Derived.Test.YtjkhkblabhaimaaAmOps6
namespace Go.Proofs.Ytjkhkblabhaimaa.Am
set_option linter.unusedSimpArgs false
set_option linter.unusedVariables false
open Go
set_option linter.unusedVariables false

section
variable {P : Program} {g g' : G} {w w' : World} {Pr : Nat → Prop} {s s' : St} {a : Act} {F : Oracle} {bd : Bd}

theorem RepOb.frame (e : Ext g w g' w') {l : Nat} (hk : ∀ i, Keep g g' (.cell l, i)) (hb : ∀ b, g.kind b = .obj l → w'.heap[b]? = w.heap[b]? ∧ g'.kind b = .obj l) {o : Ob} (h : RepOb g w Pr l o) : RepOb g' w' Pr l o := by
  cases o with
  | cells cs =>
    obtain ⟨b, o, arr, ty, h1, h2, h3, h4, h5⟩ := h
    obtain ⟨e1, e2⟩ := hb b h2
    refine ⟨b, o, arr, ty, e.loc _ _ h1, e2, e1.trans h3, h4, fun i c hi => ?_⟩
    obtain ⟨u, k1, k2, k3⟩ := h5 i c hi
    exact ⟨u, k1, k2, RepC.ext e (hk _) k3⟩
  | map es =>
    obtain ⟨b, o, mes, clock, h1, h2, h3, h4, h5⟩ := h
    obtain ⟨e1, e2⟩ := hb b h2
    refine ⟨b, o, mes, clock, e.loc _ _ h1, e2, e1.trans h3, h4, fun i k v hi => ?_⟩
    obtain ⟨m, k1, k2, k3⟩ := h5 i k v hi
    exact ⟨m, k1, RepV1.ext e hk k2, RepV1.ext e hk k3⟩
  | dead => trivial

theorem EnvOk.ext (e : Ext g w g' w') (hk : ∀ t i, Keep g g' (.tmp t, i)) {env : Env} (h : EnvOk g w Pr env a) : EnvOk g' w' Pr env a := fun t => RepV.ext e (hk t) (h t)

/-- A new block. -/
theorem alloc_get {o : Obj} (b : Nat) (h : b < w.heap.size) : (w.alloc o).heap[b]? = w.heap[b]? := by
  show (w.heap.push o)[b]? = _
  rw [Array.getElem?_push, if_neg (by omega)]
theorem alloc_new {o : Obj} : (w.alloc o).heap[w.heap.size]? = some o := by
  show (w.heap.push o)[w.heap.size]? = _
  simp
theorem alloc_cell {o : Obj} {x : Addr} (h : x.block < w.heap.size) : (w.alloc o).cell? x = w.cell? x := by
  simp only [World.cell?, alloc_get _ h]

def G.withKind (g : G) (b : Nat) (k : Bk) : G := { g with kind := fun x => if x = b then k else g.kind x }
def G.withOwn (g : G) (b : Nat) (p : Place) : G := { g with own := fun x => if x = b then some p else g.own x }
def G.withLoc (g : G) (x : Nat × Nat) : G := { g with loc := g.loc ++ [x] }

theorem loc_old {g : G} {x y : Nat × Nat} {l : Nat} (h : g.loc[l]? = some y) : (g.loc ++ [x])[l]? = some y := by
  rw [List.getElem?_append_left (List.getElem?_eq_some_iff.mp h).1]; exact h

/-- A new object. -/
def G.newObj (g : G) (w : World) (l : Nat) : G := (g.withKind w.heap.size (.obj l)).withLoc (w.heap.size, 0)

theorem newObj_ext (hI : Inv g w Pr s.σ) (o : Obj) (l : Nat) : Ext g w (g.newObj w l) (w.alloc o) where
  st x v h := by
    obtain ⟨h1, h2, h3⟩ := h
    have hlt : x.block < w.heap.size := hI.lt _ (by rcases h3 with h3 | ⟨n, h3, _⟩ <;> rw [h3] <;> simp)
    refine ⟨h1, by rw [alloc_cell hlt]; exact h2, ?_⟩
    have hne : x.block ≠ w.heap.size := by omega
    simpa [G.newObj, G.withKind, G.withLoc, hne] using h3
  loc l x h := loc_old h
  size := by simp
  shape b arr ty fz h := ⟨arr, by rw [alloc_get b (Array.getElem?_eq_some_iff.mp h).1]; exact h, rfl⟩
  os := rfl
  tape := rfl
  output := rfl

theorem newObj_keep (hI : Inv g w Pr s.σ) (l : Nat) (p : Place) : Keep g (g.newObj w l) p := by
  intro b n h1 h2
  have hlt : b < w.heap.size := hI.lt _ (by rw [h2]; simp)
  have hne : b ≠ w.heap.size := by omega
  exact ⟨h1, by simpa [G.newObj, G.withKind, G.withLoc, hne] using h2⟩

theorem newObj_fr (hI : Inv g w Pr s.σ) (o : Obj) (l : Nat) : Fr Pr g w (g.newObj w l) (w.alloc o) := by
  intro b hb
  have hlt := (hI.pr b hb).1
  have hne : b ≠ w.heap.size := by omega
  exact ⟨alloc_get b hlt, by simp [G.newObj, G.withKind, G.withLoc, hne], rfl⟩

theorem newObj_inv (hI : Inv g w Pr s.σ) (o : Obj) (ob : Ob) (h : RepOb (g.newObj w s.σ.length) (w.alloc o) Pr s.σ.length ob) : Inv (g.newObj w s.σ.length) (w.alloc o) Pr (s.σ ++ [ob]) where
  len := by simp [G.newObj, G.withLoc, G.withKind, hI.len]
  ob l x hx := by
    by_cases hl : l < s.σ.length
    · rw [List.getElem?_append_left hl] at hx
      refine RepOb.frame (newObj_ext hI o _) (fun i => newObj_keep hI _ _) ?_ (hI.ob l x hx)
      intro b hb
      have hlt : b < w.heap.size := hI.lt _ (by rw [hb]; simp)
      have hne : b ≠ w.heap.size := by omega
      exact ⟨alloc_get b hlt, by simpa [G.newObj, G.withKind, G.withLoc, hne] using hb⟩
    · rw [List.getElem?_append_right (by omega)] at hx
      have : l = s.σ.length := by
        have := (List.getElem?_eq_some_iff.mp hx).1
        simp at this; omega
      subst this
      simp at hx
      subst hx
      exact h
  lt b hb := by
    by_cases he : b = w.heap.size
    · subst he; simp
    · have := hI.lt b (by simpa [G.newObj, G.withKind, G.withLoc, he] using hb)
      simp; omega
  pr b hb := by
    obtain ⟨h1, h2, h3⟩ := hI.pr b hb
    have hne : b ≠ w.heap.size := by omega
    exact ⟨by simp; omega, by simpa [G.newObj, G.withKind, G.withLoc, hne] using h2, h3⟩

theorem newObj_loc (hI : Inv g w Pr s.σ) : (g.newObj w s.σ.length).loc[s.σ.length]? = some (w.heap.size, 0) := by
  simp [G.newObj, G.withLoc, G.withKind, ← hI.len]

/-- A new object of cells, whose values lie nowhere in particular. -/
theorem new_cells (hI : Inv g w Pr s.σ) {arr : Array Value} {ty : TypeId} {cs : List C} (hl : cs.length ≤ arr.size)
    (hc : ∀ (i : Nat) (c : C), cs[i]? = some c → ∃ u, arr[i]? = some u ∧ u.oneCell' = true ∧ ∀ p, RepC g w Pr p c u) :
    Inv (g.newObj w s.σ.length) (w.alloc (.cells arr ty)) Pr (s.σ ++ [.cells cs]) := by
  refine newObj_inv hI _ _ ⟨w.heap.size, 0, arr, ty, newObj_loc hI, by simp [G.newObj, G.withKind, G.withLoc], alloc_new, by omega, fun i c hi => ?_⟩
  obtain ⟨u, k1, k2, k3⟩ := hc i c hi
  exact ⟨u, by simpa using k1, k2, RepC.ext (newObj_ext hI _ _) (newObj_keep hI _ _) (k3 _)⟩

theorem OpOk.newObj {o : Oper} {v : V} {u : Value} {x : Obj} {ob : Ob} (hr : (execOp a.eval o).run P w = .ok (.value u) (w.alloc x)) (hI : Inv g w Pr s.σ) (hE : EnvOk g w Pr s.env a)
    (hI' : Inv (g.newObj w s.σ.length) (w.alloc x) Pr (s.σ ++ [ob]))
    (hv : ∀ d, RepV (g.newObj w s.σ.length) (w.alloc x) Pr (.tmp d) v u) : OpOk P o a g w Pr { s with σ := s.σ ++ [ob] } v :=
  ⟨u, w.alloc x, g.newObj w s.σ.length, fun _ b hb => alloc_get b hb, .inl hr, newObj_ext hI _ _, newObj_fr hI _ _, hI', hE.ext (newObj_ext hI _ _) (fun _ _ => newObj_keep hI _ _), fun d _ => hv d⟩

theorem ok_box (o : Oper) {t : TypeId} {x : Operand} {x' : Opd} {v : V} (ho : o.op = .box t x) (hx : chkOpd x x' = true)
    (hv : stepOp F bd s (.box x') = some (v, s')) (hI : Inv g w Pr s.σ) (hE : EnvOk g w Pr s.env a) : OpOk P o a g w Pr s' v := by
  simp only [stepOp] at hv
  split at hv
  case h_2 => cases hv
  rename_i cs hcs
  cases hv
  have h1 := opd_rd hE hx
  obtain ⟨c1, c2⟩ := RepV.cells (h1 (.tmp 0)) hcs
  refine OpOk.newObj (x := .cells (a.eval x).cells t) (u := .pointer (some ⟨w.heap.size, 0, none⟩)) ?_ hI hE (new_cells hI (by omega) (fun i c hi => ?_)) (fun d => ⟨_, _, newObj_loc hI, rfl⟩)
  · simp [execOp, ho, Instr.box, newVar, newRow]
  · obtain ⟨u, k1, k2, path, k3⟩ := c2 i c hi
    refine ⟨u, k1, k2, fun p => ?_⟩
    have hd : c.down = c := by
      have hs : s.rd x' = (s.raw x').down := rfl
      rw [hs] at hcs
      cases hraw : s.raw x' with
      | c y =>
        rw [hraw] at hcs
        cases y with
        | b z =>
          cases z <;> simp [V.down, C.down, V.cells] at hcs <;> subst hcs <;> (cases i <;> simp at hi) <;> subst hi <;> rfl
        | osl k rows => simp [V.down, C.down, V.cells] at hcs; subst hcs; (cases i <;> simp at hi); subst hi; rfl
        | fn f p q => simp [V.down, C.down, V.cells] at hcs; subst hcs; (cases i <;> simp at hi); subst hi; rfl
        | nilf => simp [V.down, C.down, V.cells] at hcs; subst hcs; (cases i <;> simp at hi); subst hi; rfl
      | agg cs0 =>
        rw [hraw] at hcs
        simp only [V.down, V.cells, Option.some.injEq] at hcs
        subst hcs
        simp only [List.getElem?_map, Option.map_eq_some_iff] at hi
        obtain ⟨c0, _, rfl⟩ := hi
        cases c0 <;> rfl
      | tup vs => rw [hraw] at hcs; simp [V.down, V.cells] at hcs
    rw [← hd]
    exact RepC.down k3

/-- Are these a type's zero cells? -/
def chkZero (z : Value) (zs : List C) : Bool := z.cells.size == zs.length && (List.range zs.length).all fun i => match z.cells[i]?, zs[i]? with
  | some v, some c => chkConst v (.c c)
  | _, _ => false

theorem chkConst_scalar {v : Value} {c : C} (h : chkConst v (.c c) = true) : v.oneCell' = true := by
  unfold chkConst at h
  split at h <;> first | rfl | simp_all

theorem chkZero_ok {z : Value} {zs : List C} (h : chkZero z zs = true) : z.cells.size = zs.length ∧ ∀ (i : Nat) (c : C), zs[i]? = some c → ∃ u, z.cells[i]? = some u ∧ u.oneCell' = true ∧ ∀ p, RepC g w Pr p c u := by
  simp only [chkZero, Bool.and_eq_true, beq_iff_eq, List.all_eq_true, List.mem_range] at h
  obtain ⟨h1, h2⟩ := h
  refine ⟨h1, fun i c hi => ?_⟩
  have hlt := (List.getElem?_eq_some_iff.mp hi).1
  have := h2 i hlt
  rw [hi] at this
  split at this
  · rename_i v c' hv hc
    cases hc
    exact ⟨v, hv, chkConst_scalar this, fun p => chkConst_ok (g := g) (w := w) (Pr := Pr) this p.1 |> fun h => by
      cases c with
      | b x => exact h
      | osl k rows =>
        simp [chkConst] at this
        split at this <;> simp_all
        exact ⟨RepD.nil, by simp, .inl rfl⟩
      | fn f p q => simp [chkConst] at this
      | nilf => exact h⟩
  · cases this

theorem ok_alloc (o : Oper) {t : TypeId} {zs : List C} {i : TypeInfo} {z : Value} {v : V} (ho : o.op = .alloc t) (hi : P.info? t = some i) (hz : i.zero = some z) (hc : chkZero z zs = true)
    (hv : stepOp F bd s (.alloc zs) = some (v, s')) (hI : Inv g w Pr s.σ) (hE : EnvOk g w Pr s.env a) : OpOk P o a g w Pr s' v := by
  simp only [stepOp] at hv
  cases hv
  obtain ⟨h1, h2⟩ := chkZero_ok (g := g) (w := w) (Pr := Pr) hc
  refine OpOk.newObj (x := .cells z.cells t) (u := .pointer (some ⟨w.heap.size, 0, none⟩)) ?_ hI hE (new_cells hI (by omega) h2) (fun d => ⟨_, _, newObj_loc hI, rfl⟩)
  simp [execOp, ho, Instr.alloc, zeroValue, typeInfo, hi, hz, newVar, newRow]

theorem ok_mkm (o : Oper) {t : TypeId} {v : V} (ho : o.op = .makeMap t none)
    (hv : stepOp F bd s .mkm = some (v, s')) (hI : Inv g w Pr s.σ) (hE : EnvOk g w Pr s.env a) : OpOk P o a g w Pr s' v := by
  simp only [stepOp] at hv
  cases hv
  refine OpOk.newObj (x := .map #[] 0) (u := .map (some w.heap.size)) ?_ hI hE (newObj_inv hI _ _ ⟨w.heap.size, 0, #[], 0, newObj_loc hI, by simp [G.newObj, G.withKind, G.withLoc], alloc_new, rfl, by simp⟩) (fun d => ⟨_, _, newObj_loc hI, rfl⟩)
  simp [execOp, ho, Instr.makeMap]
end
end Go.Proofs.Ytjkhkblabhaimaa.Am
