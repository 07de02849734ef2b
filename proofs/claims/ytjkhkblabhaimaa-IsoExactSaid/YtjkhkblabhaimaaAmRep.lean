/- How the abstract machine's values lie in the model's memory. -/
import Derived.Test.YtjkhkblabhaimaaAm
import Derived.Laws.Sem
namespace Go.Proofs.Ytjkhkblabhaimaa.Am
set_option linter.unusedSimpArgs false
set_option linter.unusedVariables false
open Go

inductive Root where
  | tmp (t : Nat)
  | cell (l : Nat)
  deriving DecidableEq

abbrev Place := Root × List Nat

/-- What a block is: free (not ours to speak of), frozen (nobody writes to it any more), growing (its first n cells are frozen), an object's. -/
inductive Bk where
  | free
  | frozen
  | grow (n : Nat)
  | obj (l : Nat)

structure G where
  loc : List (Nat × Nat)
  kind : Nat → Bk
  own : Nat → Option Place

/-- A cell that will hold what it holds. -/
def G.st (g : G) (w : World) (a : Addr) (v : Value) : Prop :=
  a.spot = none ∧ w.cell? a = some v ∧ (g.kind a.block = .frozen ∨ ∃ n, g.kind a.block = .grow n ∧ a.off < n)

inductive RepD (st : Addr → Value → Prop) : D → Value → Prop where
  | bool (b : Bool) : RepD st (.bool b) (.bool b)
  | int (k : IntKind) (n : Int) : RepD st (.int k n) (.int k n)
  | str (s : ByteArray) : RepD st (.str s) (.string s)
  | nil : RepD st (.sl []) (.slice none 0 0)
  | sl (rows : List (List D)) (a : Addr) (k cap : Nat) (vs : Nat → Nat → Value) (h1 : rows ≠ [] → a.spot = none) (h2 : rows.length ≤ cap)
      (h3 : ∀ r ∈ rows, r.length = k)
      (h4 : ∀ i row j d, rows[i]? = some row → row[j]? = some d → st ⟨a.block, a.off + i * k + j, none⟩ (vs i j))
      (h5 : ∀ i row j d, rows[i]? = some row → row[j]? = some d → RepD st d (vs i j)) : RepD st (.sl rows) (.slice (some a) rows.length cap)

theorem RepD.mono {st st' : Addr → Value → Prop} (h : ∀ a v, st a v → st' a v) {d : D} {v : Value} (r : RepD st d v) : RepD st' d v := by
  induction r with
  | bool b => exact .bool b
  | int k n => exact .int k n
  | str s => exact .str s
  | nil => exact .nil
  | sl rows a k cap vs h1 h2 h3 h4 h5 ih => exact .sl rows a k cap vs h1 h2 h3 (fun i row j d hi hj => h _ _ (h4 i row j d hi hj)) ih

theorem one_cells {v : Value} (h : v.oneCell' = true) : v.cells = #[v] := by cases v <;> first | rfl | cases h

theorem RepD.scalar {st : Addr → Value → Prop} {d : D} {v : Value} (r : RepD st d v) : v.oneCell' = true := by cases r <;> rfl

def RepB (g : G) (w : World) : B → Value → Prop
  | .d x, v => RepD (g.st w) x v
  | .ptr l off, v => ∃ b o, g.loc[l]? = some (b, o) ∧ v = .pointer (some ⟨b, o + off, none⟩)
  | .nilp, v => v = .pointer none
  | .rop row off, v => ∃ (b o : Nat) (vs : Nat → Value), v = .pointer (some ⟨b, o + off, none⟩) ∧ ∀ j d, row[j]? = some d → g.st w ⟨b, o + j, none⟩ (vs j) ∧ RepD (g.st w) d (vs j)
  | .arr k l off len, v => ∃ b o cap arr ty, g.loc[l]? = some (b, o) ∧ v = .slice (some ⟨b, o + off, none⟩) len cap ∧ len ≤ cap ∧ w.heap[b]? = some (.cells arr ty (0, 0)) ∧ o + off + cap * k ≤ arr.size
  | .map l, v => ∃ b o, g.loc[l]? = some (b, o) ∧ v = .map (some b)
  | .nilm, v => v = .map none
  | .nils, v => v = .slice none 0 0
  | .emp, v => ∃ a cap, v = .slice (some a) 0 cap
  | .any, _ => True

def RepC (g : G) (w : World) (Pr : Nat → Prop) (p : Place) : C → Value → Prop
  | .b x, v => RepB g w x v
  | .osl k rows, v => RepD (g.st w) (.sl rows) v ∧ (∀ r ∈ rows, r.length = k) ∧ (v = .slice none 0 0 ∨ ∃ a cap, v = .slice (some a) rows.length cap ∧
      (cap = rows.length ∨ (a.spot = none ∧ rows.length ≤ cap ∧ g.kind a.block = .grow (a.off + rows.length * k) ∧ g.own a.block = some p ∧ ¬ Pr a.block ∧
        ∃ arr ty, w.heap[a.block]? = some (.cells arr ty (0, 0)) ∧ a.off + cap * k ≤ arr.size)))
  | .fn f fst cap, v => ∃ xs ys : Array Value, v = .func (.func (fnOf f)) xs ys ∧ xs.size = fst.length ∧ ys.size = cap.length ∧
      (∀ (i : Nat) (b : B), fst[i]? = some b → ∃ u, xs[i]? = some u ∧ b ≠ .any ∧ RepB g w b u) ∧ (∀ (i : Nat) (b : B), cap[i]? = some b → ∃ u, ys[i]? = some u ∧ b ≠ .any ∧ RepB g w b u)
  | .nilf, v => v = .nilFunc

def RepV1 (g : G) (w : World) (Pr : Nat → Prop) (r : Root) (path : List Nat) : V → Value → Prop
  | .c x, v => RepC g w Pr (r, path) x v
  | .agg cs, v => ∃ arr : Array Value, v = .agg arr ∧ arr.size = cs.length ∧ ∀ i c, cs[i]? = some c → ∃ u, arr[i]? = some u ∧ u.oneCell' = true ∧ RepC g w Pr (r, path ++ [i]) c u
  | .tup _, _ => False

def RepV (g : G) (w : World) (Pr : Nat → Prop) (r : Root) : V → Value → Prop
  | .tup vs, v => ∃ arr : Array Value, v = .tuple arr ∧ ∀ i x, vs[i]? = some x → ∃ u, arr[i]? = some u ∧ RepV1 g w Pr r [i] x u
  | x, v => RepV1 g w Pr r [] x v

def RepOb (g : G) (w : World) (Pr : Nat → Prop) (l : Nat) : Ob → Prop
  | .cells cs => ∃ b o arr ty, g.loc[l]? = some (b, o) ∧ g.kind b = .obj l ∧ w.heap[b]? = some (.cells arr ty (0, 0)) ∧ o + cs.length ≤ arr.size ∧
      ∀ i c, cs[i]? = some c → ∃ u, arr[o + i]? = some u ∧ u.oneCell' = true ∧ RepC g w Pr (.cell l, [i]) c u
  | .map es => ∃ b o mes clock, g.loc[l]? = some (b, o) ∧ g.kind b = .obj l ∧ w.heap[b]? = some (.map mes clock) ∧ mes.size = es.length ∧
      ∀ i k v, es[i]? = some (k, v) → ∃ m, mes[i]? = some m ∧ RepV1 g w Pr (.cell l) [i, 0] k m.key ∧ RepV1 g w Pr (.cell l) [i, 1] v m.val
  | .dead => True

structure Inv (g : G) (w : World) (Pr : Nat → Prop) (σ : List Ob) : Prop where
  len : g.loc.length = σ.length
  ob : ∀ l o, σ[l]? = some o → RepOb g w Pr l o
  lt : ∀ b, g.kind b ≠ .free → b < w.heap.size
  pr : ∀ b, Pr b → b < w.heap.size ∧ (∀ l, g.kind b ≠ .obj l) ∧ ∀ l i, g.own b ≠ some (.cell l, i)

structure Ext (g : G) (w : World) (g' : G) (w' : World) : Prop where
  st : ∀ a v, g.st w a v → g'.st w' a v
  loc : ∀ (l : Nat) x, g.loc[l]? = some x → g'.loc[l]? = some x
  size : w.heap.size ≤ w'.heap.size
  shape : ∀ (b : Nat) (arr : Array Value) (ty : TypeId) (fz : Nat × Nat), w.heap[b]? = some (.cells arr ty fz) → ∃ arr' : Array Value, w'.heap[b]? = some (.cells arr' ty fz) ∧ arr'.size = arr.size
  os : w'.os = w.os
  tape : w'.tape = w.tape
  output : w'.output = w.output

theorem Ext.refl (g : G) (w : World) : Ext g w g w := ⟨fun _ _ h => h, fun _ _ h => h, Nat.le_refl _, fun _ arr _ _ h => ⟨arr, h, rfl⟩, rfl, rfl, rfl⟩
theorem Ext.trans {g g1 g2 : G} {w w1 w2 : World} (h : Ext g w g1 w1) (k : Ext g1 w1 g2 w2) : Ext g w g2 w2 where
  st a v x := k.st a v (h.st a v x)
  loc l x y := k.loc l x (h.loc l x y)
  size := Nat.le_trans h.size k.size
  shape b arr ty fz x := by
    obtain ⟨a1, y1, z1⟩ := h.shape b arr ty fz x
    obtain ⟨a2, y2, z2⟩ := k.shape b a1 ty fz y1
    exact ⟨a2, y2, z2.trans z1⟩
  os := k.os.trans h.os
  tape := k.tape.trans h.tape
  output := k.output.trans h.output

/-- The protected blocks are as they were. -/
def Fr (Pr : Nat → Prop) (g : G) (w : World) (g' : G) (w' : World) : Prop :=
  ∀ (b : Nat), Pr b → w'.heap[b]? = w.heap[b]? ∧ g'.kind b = g.kind b ∧ g'.own b = g.own b

theorem Fr.refl (Pr : Nat → Prop) (g : G) (w : World) : Fr Pr g w g w := fun _ _ => ⟨rfl, rfl, rfl⟩
theorem Fr.trans {Pr : Nat → Prop} {g g1 g2 : G} {w w1 w2 : World} (h : Fr Pr g w g1 w1) (k : Fr Pr g1 w1 g2 w2) : Fr Pr g w g2 w2 :=
  fun b hb => let ⟨a1, a2, a3⟩ := h b hb; let ⟨b1, b2, b3⟩ := k b hb; ⟨b1.trans a1, b2.trans a2, b3.trans a3⟩

/-- What the place p owns is as it was. -/
def Keep (g : G) (g' : G) (p : Place) : Prop := ∀ b n, g.own b = some p → g.kind b = .grow n → g'.own b = some p ∧ g'.kind b = .grow n

theorem Keep.refl (g : G) (p : Place) : Keep g g p := fun _ _ h k => ⟨h, k⟩

section
variable {g g' : G} {w w' : World} {Pr : Nat → Prop}

theorem RepB.ext (e : Ext g w g' w') {x : B} {v : Value} (h : RepB g w x v) : RepB g' w' x v := by
  cases x with
  | d x => exact RepD.mono e.st h
  | ptr l off => obtain ⟨b, o, h1, h2⟩ := h; exact ⟨b, o, e.loc _ _ h1, h2⟩
  | nilp => exact h
  | rop row off =>
    obtain ⟨b, o, vs, h1, h2⟩ := h
    exact ⟨b, o, vs, h1, fun j d hj => ⟨e.st _ _ (h2 j d hj).1, RepD.mono e.st (h2 j d hj).2⟩⟩
  | arr k l off len =>
    obtain ⟨b, o, cap, arr, ty, h1, h2, h3, h4, h5⟩ := h
    obtain ⟨arr', h6, h7⟩ := e.shape _ _ _ _ h4
    exact ⟨b, o, cap, arr', ty, e.loc _ _ h1, h2, h3, h6, by omega⟩
  | map l => obtain ⟨b, o, h1, h2⟩ := h; exact ⟨b, o, e.loc _ _ h1, h2⟩
  | nilm => exact h
  | nils => exact h
  | emp => exact h
  | any => trivial

theorem RepC.ext (e : Ext g w g' w') {p : Place} (kp : Keep g g' p) {x : C} {v : Value} (h : RepC g w Pr p x v) : RepC g' w' Pr p x v := by
  cases x with
  | b x => exact RepB.ext e h
  | osl k rows =>
    obtain ⟨h1, h2, h3⟩ := h
    refine ⟨RepD.mono e.st h1, h2, h3.imp id ?_⟩
    rintro ⟨a, cap, h4, h5⟩
    refine ⟨a, cap, h4, h5.imp id ?_⟩
    rintro ⟨s1, s2, s3, s4, s5, arr, ty, s6, s7⟩
    obtain ⟨arr', t1, t2⟩ := e.shape _ _ _ _ s6
    exact ⟨s1, s2, (kp _ _ s4 s3).2, (kp _ _ s4 s3).1, s5, arr', ty, t1, by omega⟩
  | fn f fst cap =>
    obtain ⟨xs, ys, h1, h2, h3, h4, h5⟩ := h
    refine ⟨xs, ys, h1, h2, h3, fun i b hi => ?_, fun i b hi => ?_⟩
    · obtain ⟨u, k1, k2, k3⟩ := h4 i b hi; exact ⟨u, k1, k2, RepB.ext e k3⟩
    · obtain ⟨u, k1, k2, k3⟩ := h5 i b hi; exact ⟨u, k1, k2, RepB.ext e k3⟩
  | nilf => exact h

theorem RepV1.ext (e : Ext g w g' w') {r : Root} {path : List Nat} (kp : ∀ i, Keep g g' (r, i)) {x : V} {v : Value} (h : RepV1 g w Pr r path x v) : RepV1 g' w' Pr r path x v := by
  cases x with
  | c x => exact RepC.ext e (kp _) h
  | agg cs =>
    obtain ⟨arr, h1, h2, h3⟩ := h
    refine ⟨arr, h1, h2, fun i c hi => ?_⟩
    obtain ⟨u, k1, k2, k3⟩ := h3 i c hi
    exact ⟨u, k1, k2, RepC.ext e (kp _) k3⟩
  | tup vs => exact h

theorem RepV.ext (e : Ext g w g' w') {r : Root} (kp : ∀ i, Keep g g' (r, i)) {x : V} {v : Value} (h : RepV g w Pr r x v) : RepV g' w' Pr r x v := by
  cases x with
  | c x => exact RepV1.ext (x := .c x) (path := []) e kp h
  | agg cs => exact RepV1.ext (x := .agg cs) (path := []) e kp h
  | tup vs =>
    obtain ⟨arr, h1, h2⟩ := h
    refine ⟨arr, h1, fun i x hi => ?_⟩
    obtain ⟨u, k1, k2⟩ := h2 i x hi
    exact ⟨u, k1, RepV1.ext e kp k2⟩

theorem RepC.down {p q : Place} {x : C} {v : Value} (h : RepC g w Pr p x v) : RepC g w Pr q x.down v := by
  cases x with
  | b x => exact h
  | osl k rows => exact h.1
  | fn f fst cap => exact h
  | nilf => exact h

theorem RepV.down {r r' : Root} {x : V} {v : Value} (h : RepV g w Pr r x v) : RepV g w Pr r' x.down v := by
  cases x with
  | c x => exact RepC.down (p := (r, [])) h
  | agg cs =>
    obtain ⟨arr, h1, h2, h3⟩ := h
    refine ⟨arr, h1, by simpa using h2, fun i c hi => ?_⟩
    simp only [List.getElem?_map, Option.map_eq_some_iff] at hi
    obtain ⟨c0, hc, rfl⟩ := hi
    obtain ⟨u, k1, k2, k3⟩ := h3 i c0 hc
    exact ⟨u, k1, k2, RepC.down k3⟩
  | tup vs => trivial

theorem RepV1.down {r r' : Root} {path path' : List Nat} {x : V} {v : Value} (h : RepV1 g w Pr r path x v) : RepV1 g w Pr r' path' x.down v := by
  cases x with
  | c x => exact RepC.down (p := (r, path)) h
  | agg cs =>
    obtain ⟨arr, h1, h2, h3⟩ := h
    refine ⟨arr, h1, by simpa using h2, fun i c hi => ?_⟩
    simp only [List.getElem?_map, Option.map_eq_some_iff] at hi
    obtain ⟨c0, hc, rfl⟩ := hi
    obtain ⟨u, k1, k2, k3⟩ := h3 i c0 hc
    exact ⟨u, k1, k2, RepC.down k3⟩
  | tup vs => exact h.elim

theorem RepB.scalar {x : B} {v : Value} (h : RepB g w x v) (hx : x ≠ .any) : v.oneCell' = true := by
  cases x with
  | d x => exact RepD.scalar h
  | ptr l off => obtain ⟨b, o, h1, rfl⟩ := h; rfl
  | nilp => cases h; rfl
  | rop row off => obtain ⟨b, o, vs, rfl, _⟩ := h; rfl
  | arr k l off len => obtain ⟨b, o, cap, arr, ty, h1, rfl, _⟩ := h; rfl
  | map l => obtain ⟨b, o, h1, rfl⟩ := h; rfl
  | nilm => cases h; rfl
  | nils => cases h; rfl
  | emp => obtain ⟨a, cap, rfl⟩ := h; rfl
  | any => exact absurd rfl hx

theorem RepC.scalar {p : Place} {x : C} {v : Value} (h : RepC g w Pr p x v) (hx : x ≠ .b .any) : v.oneCell' = true := by
  cases x with
  | b x => exact RepB.scalar h (fun e => hx (by rw [e]))
  | osl k rows => exact RepD.scalar h.1
  | fn f fst cap => obtain ⟨xs, ys, rfl, _⟩ := h; rfl
  | nilf => cases h; rfl

/-- A value's cells are its cells. -/
theorem RepV.cells {r : Root} {x : V} {v : Value} {cs : List C} (h : RepV g w Pr r x v) (hc : x.cells = some cs) :
    v.cells.size = cs.length ∧ ∀ (i : Nat) (c : C), cs[i]? = some c → ∃ u, v.cells[i]? = some u ∧ u.oneCell' = true ∧ ∃ path, RepC g w Pr (r, path) c u := by
  cases x with
  | c x =>
    have hne : x ≠ .b .any := by rintro rfl; simp [V.cells] at hc
    have hcs : cs = [x] := by
      cases x with
      | b y => cases y <;> simp_all [V.cells]
      | osl k rows => simpa [V.cells] using hc.symm
      | fn f a b => simpa [V.cells] using hc.symm
      | nilf => simpa [V.cells] using hc.symm
    subst hcs
    have hs := RepC.scalar (p := (r, [])) h hne
    rw [one_cells hs]
    refine ⟨rfl, fun i c hi => ?_⟩
    cases i with
    | zero => simp at hi; subst hi; exact ⟨v, rfl, hs, [], h⟩
    | succ i => simp at hi
  | agg cs' =>
    simp only [V.cells, Option.some.injEq] at hc
    subst hc
    obtain ⟨arr, rfl, h2, h3⟩ := h
    refine ⟨by simpa [Value.cells] using h2, fun i c hi => ?_⟩
    obtain ⟨u, k1, k2, k3⟩ := h3 i c hi
    exact ⟨u, k1, k2, _, k3⟩
  | tup vs => simp [V.cells] at hc
end
end Go.Proofs.Ytjkhkblabhaimaa.Am
