/- Rows that grow: literals, make, append, what is left behind their first ones. -/
import Derived.Test.YtjkhkblabhaimaaAmMem4
import Derived.Laws.AppendOwn
namespace Go.Proofs.Ytjkhkblabhaimaa.Am
set_option linter.unusedSimpArgs false
set_option linter.unusedVariables false
open Go
set_option linter.unusedVariables false

section
variable {P : Program} {g g' : G} {w w' : World} {Pr : Nat → Prop} {s s' : St} {a : Act} {F : Oracle} {bd : Bd}

theorem Ext.heap (h : w'.heap = w.heap) (h1 : w'.os = w.os) (h2 : w'.tape = w.tape) (h3 : w'.output = w.output) : Ext g w g w' where
  st x v hx := by obtain ⟨a1, a2, a3⟩ := hx; exact ⟨a1, by simp only [World.cell?, h]; exact a2, a3⟩
  loc l x h := h
  size := by rw [h]; exact Nat.le_refl _
  shape b arr ty fz hb := ⟨arr, by rw [h]; exact hb, rfl⟩
  os := h1
  tape := h2
  output := h3

theorem Inv.heap {σ : List Ob} (hI : Inv g w Pr σ) (h : w'.heap = w.heap) (h1 : w'.os = w.os) (h2 : w'.tape = w.tape) (h3 : w'.output = w.output) : Inv g w' Pr σ where
  len := hI.len
  ob l o ho := RepOb.frame (Ext.heap h h1 h2 h3) (fun _ => Keep.refl _ _) (fun b hb => ⟨by rw [h], hb⟩) (hI.ob l o ho)
  lt b hb := by rw [h]; exact hI.lt b hb
  pr b hb := by rw [h]; exact hI.pr b hb

theorem Fr.heap (h : w'.heap = w.heap) : Fr Pr g w g w' := fun b hb => ⟨by rw [h], rfl, rfl⟩

theorem repV_c {r : Root} {x : C} {v : Value} : RepV g w Pr r (.c x) v = RepC g w Pr (r, []) x v := rfl

/-- A new growing row. -/
def G.newRow (g : G) (w : World) (n : Nat) (p : Place) : G := (g.withKind w.heap.size (.grow n)).withOwn w.heap.size p

theorem newRow_ext (hI : Inv g w Pr s.σ) (o : Obj) (n : Nat) (p : Place) : Ext g w (g.newRow w n p) (w.alloc o) where
  st x v h := by
    obtain ⟨h1, h2, h3⟩ := h
    have hlt : x.block < w.heap.size := hI.lt _ (by rcases h3 with h3 | ⟨n, h3, _⟩ <;> rw [h3] <;> simp)
    refine ⟨h1, by rw [alloc_cell hlt]; exact h2, ?_⟩
    have hne : x.block ≠ w.heap.size := by omega
    simpa [G.newRow, G.withKind, G.withOwn, hne] using h3
  loc l x h := h
  size := by simp
  shape b arr ty fz h := ⟨arr, by rw [alloc_get b (Array.getElem?_eq_some_iff.mp h).1]; exact h, rfl⟩
  os := rfl
  tape := rfl
  output := rfl

theorem newRow_keep (hI : Inv g w Pr s.σ) (n : Nat) (p q : Place) : Keep g (g.newRow w n p) q := by
  intro b m h1 h2
  have hlt : b < w.heap.size := hI.lt _ (by rw [h2]; simp)
  have hne : b ≠ w.heap.size := by omega
  exact ⟨by simpa [G.newRow, G.withKind, G.withOwn, hne] using h1, by simpa [G.newRow, G.withKind, G.withOwn, hne] using h2⟩

theorem newRow_fr (hI : Inv g w Pr s.σ) (o : Obj) (n : Nat) (p : Place) : Fr Pr g w (g.newRow w n p) (w.alloc o) := by
  intro b hb
  have hlt := (hI.pr b hb).1
  have hne : b ≠ w.heap.size := by omega
  exact ⟨alloc_get b hlt, by simp [G.newRow, G.withKind, G.withOwn, hne], by simp [G.newRow, G.withKind, G.withOwn, hne]⟩

theorem newRow_inv (hI : Inv g w Pr s.σ) (o : Obj) (n : Nat) (p : Place) : Inv (g.newRow w n p) (w.alloc o) Pr s.σ where
  len := hI.len
  ob l x hx := by
    refine RepOb.frame (newRow_ext hI o n p) (fun i => newRow_keep hI _ _ _) ?_ (hI.ob l x hx)
    intro b hb
    have hlt : b < w.heap.size := hI.lt _ (by rw [hb]; simp)
    have hne : b ≠ w.heap.size := by omega
    exact ⟨alloc_get b hlt, by simpa [G.newRow, G.withKind, G.withOwn, hne] using hb⟩
  lt b hb := by
    by_cases he : b = w.heap.size
    · subst he; simp
    · have := hI.lt b (by simpa [G.newRow, G.withKind, G.withOwn, he] using hb)
      simp; omega
  pr b hb := by
    obtain ⟨h1, h2, h3⟩ := hI.pr b hb
    have hne : b ≠ w.heap.size := by omega
    exact ⟨by simp; omega, by simpa [G.newRow, G.withKind, G.withOwn, hne] using h2, by simpa [G.newRow, G.withKind, G.withOwn, hne] using h3⟩

/-- Rows that lie in an array. -/
def RowsIn (g : G) (w : World) (k : Nat) (rows : List (List D)) (arr : Array Value) : Prop :=
  ∀ (i : Nat) (row : List D) (j : Nat) (d : D), rows[i]? = some row → row[j]? = some d → ∃ u, arr[i * k + j]? = some u ∧ RepD (g.st w) d u

theorem row_idx {i j k n : Nat} (hi : i < n) (hj : j < k) : i * k + j < n * k := by
  have : (i + 1) * k ≤ n * k := Nat.mul_le_mul_right _ (by omega)
  rw [Nat.succ_mul] at this
  omega

theorem newRow_rep (hI : Inv g w Pr s.σ) {k : Nat} {rows : List (List D)} {arr : Array Value} {ty : TypeId} (hk : ∀ r ∈ rows, r.length = k) (hr : RowsIn g w k rows arr) {cap : Nat} (hcap : rows.length ≤ cap)
    (hsz : cap * k ≤ arr.size) (p : Place) (hp : ∀ b, Pr b → b < w.heap.size) :
    RepC (g.newRow w (rows.length * k) p) (w.alloc (.cells arr ty)) Pr p (.osl k rows) (.slice (some ⟨w.heap.size, 0, none⟩) rows.length cap) := by
  have hget : ∀ (i : Nat) (row : List D) (j : Nat) (d : D), rows[i]? = some row → row[j]? = some d → ∃ u, arr[i * k + j]? = some u ∧ RepD ((g.newRow w (rows.length * k) p).st (w.alloc (.cells arr ty))) d u := by
    intro i row j d hi hj
    obtain ⟨u, u1, u2⟩ := hr i row j d hi hj
    exact ⟨u, u1, RepD.mono (newRow_ext hI _ _ _).st u2⟩
  refine ⟨RepD.sl rows _ k cap (fun i j => arr.getD (i * k + j) undef) (fun _ => rfl) hcap hk ?_ ?_, hk, .inr ⟨_, cap, rfl, .inr ⟨rfl, hcap, by simp [G.newRow, G.withKind, G.withOwn], by simp [G.newRow, G.withKind, G.withOwn], fun h => ?_, arr, ty, alloc_new, by simpa using hsz⟩⟩⟩
  · intro i row j d hi hj
    obtain ⟨u, u1, u2⟩ := hget i row j d hi hj
    refine ⟨rfl, ?_, .inr ⟨rows.length * k, by simp [G.newRow, G.withKind, G.withOwn], ?_⟩⟩
    · rw [cell_of alloc_new]; simp [Array.getD_eq_getD_getElem?, u1]
    · have h1 := (List.getElem?_eq_some_iff.mp hi).1
      have h2 := (List.getElem?_eq_some_iff.mp hj).1
      rw [hk row (List.mem_of_getElem? hi)] at h2
      simpa using row_idx h1 h2
  · intro i row j d hi hj
    obtain ⟨u, u1, u2⟩ := hget i row j d hi hj
    simpa [Array.getD_eq_getD_getElem?, u1] using u2
  · have := hp _ h; simp at this

theorem OpOk.newRow {o : Oper} {k : Nat} {rows : List (List D)} {arr : Array Value} {ty : TypeId} {cap : Nat} (hI : Inv g w Pr s.σ) (hE : EnvOk g w Pr s.env a)
    (hr : (execOp a.eval o).run P w = .ok (.value (.slice (some ⟨w.heap.size, 0, none⟩) rows.length cap)) (w.alloc (.cells arr ty)))
    (hk : ∀ r ∈ rows, r.length = k) (hrow : RowsIn g w k rows arr) (hcap : rows.length ≤ cap) (hsz : cap * k ≤ arr.size) : OpOk P o a g w Pr s (.c (.osl k rows)) := by
  let p : Place := (.tmp (o.dst.getD 0), [])
  refine ⟨_, _, g.newRow w (rows.length * k) p, fun _ b hb => alloc_get b hb, .inl hr, newRow_ext hI _ _ _, newRow_fr hI _ _ _, newRow_inv hI _ _ _, hE.ext (newRow_ext hI _ _ _) (fun _ _ => newRow_keep hI _ _ _), fun d hd => ?_⟩
  have := newRow_rep (ty := ty) hI hk hrow hcap hsz p (fun b hb => (hI.pr b hb).1)
  have e : p = (.tmp d, []) := by simp [p, hd]
  rw [repV_c, ← e]
  exact this

/-- The same where a draw comes first. -/
theorem OpOk.newRowDrew {o : Oper} {k : Nat} {rows : List (List D)} {arr : Array Value} {ty : TypeId} {cap : Nat} (hI : Inv g w Pr s.σ) (hE : EnvOk g w Pr s.env a)
    (hr : (execOp a.eval o).run P w = .ok (.value (.slice (some ⟨w.heap.size, 0, none⟩) rows.length cap)) (w.drew.alloc (.cells arr ty)))
    (hk : ∀ r ∈ rows, r.length = k) (hrow : RowsIn g w k rows arr) (hcap : rows.length ≤ cap) (hsz : cap * k ≤ arr.size) : OpOk P o a g w Pr s (.c (.osl k rows)) := by
  let p : Place := (.tmp (o.dst.getD 0), [])
  have e0 : Ext g w g w.drew := Ext.heap rfl rfl rfl rfl
  have hI' : Inv g w.drew Pr s.σ := hI.heap rfl rfl rfl rfl
  have hE' : EnvOk g w.drew Pr s.env a := hE.ext e0 (fun _ _ => Keep.refl _ _)
  refine ⟨_, _, g.newRow w.drew (rows.length * k) p, fun _ b hb => alloc_get (w := w.drew) b hb, .inl hr, e0.trans (newRow_ext hI' _ _ _), Fr.trans (Fr.heap rfl) (newRow_fr hI' _ _ _), newRow_inv hI' _ _ _, hE'.ext (newRow_ext hI' _ _ _) (fun _ _ => newRow_keep hI' _ _ _), fun d hd => ?_⟩
  have := newRow_rep (ty := ty) hI' hk (fun i row j d hi hj => by obtain ⟨u, u1, u2⟩ := hrow i row j d hi hj; exact ⟨u, u1, RepD.mono e0.st u2⟩) hcap hsz p (fun b hb => (hI'.pr b hb).1)
  have e : p = (.tmp d, []) := by simp [p, hd]
  rw [repV_c, ← e]
  exact this

theorem rep_get {zs : List C} {n i : Nat} (hi : i < n * zs.length) : (rep n zs)[i]? = zs[i % zs.length]? := by
  induction n generalizing i with
  | zero => simp at hi
  | succ n ih =>
    have e : rep (n + 1) zs = zs ++ rep n zs := by simp [rep, List.replicate_succ]
    rw [e]
    by_cases h : i < zs.length
    · rw [List.getElem?_append_left h, Nat.mod_eq_of_lt h]
    · rw [List.getElem?_append_right (by omega), ih (by rw [Nat.succ_mul] at hi; omega)]
      congr 1
      rw [Nat.mod_eq_sub_mod (a := i) (by omega)]

theorem rep_length {zs : List C} {n : Nat} : (rep n zs).length = n * zs.length := by simp [rep]

theorem rep_arr {z : Value} {zs : List C} (h : chkZero z zs = true) (n : Nat) : RepArr g w Pr (rep n zs) ((Array.range (n * zs.length)).map (z.cells[· % z.cells.size]!)) := by
  obtain ⟨h1, h2⟩ := chkZero_ok (g := g) (w := w) (Pr := Pr) h
  refine ⟨by simp [rep_length], fun i c hi => ?_⟩
  have hlt := (List.getElem?_eq_some_iff.mp hi).1
  rw [rep_length] at hlt
  rw [rep_get hlt] at hi
  obtain ⟨u, k1, k2⟩ := h2 _ _ hi
  refine ⟨u, ?_, k2⟩
  have hm : i % z.cells.size < z.cells.size := by
    apply Nat.mod_lt
    rw [h1]
    rcases Nat.eq_zero_or_pos zs.length with h | h
    · rw [h] at hlt; simp at hlt
    · exact h
  rw [← h1] at k1
  simp only [Array.getElem?_map, Array.getElem?_range, hlt, if_true, Option.map_some, Option.some.injEq]
  rw [getElem!_def, k1]

theorem rows_of_arr {k n : Nat} {cs : List C} {rows : List (List D)} {arr : Array Value} (hc : chunk k n cs = some rows) (ha : RepArr g w Pr cs arr) : RowsIn g w k rows arr := by
  intro i row j d hi hj
  obtain ⟨c, c1, c2⟩ := (chunk_get hc).2.2 i row j d hi hj
  obtain ⟨u, k1, _, k3⟩ := ha.2 _ _ c1
  exact ⟨u, k1, data_rep c2 (k3 (.tmp 0, []))⟩

/-- What 'buildSlice' makes. -/
theorem run_bsl {t e : TypeId} {i : TypeInfo} {z : Value} {n : Nat} {ps : Array (Nat × Value)} {cells : Array Value} (hu : P.underlying t = some (.slice e)) (hi : P.info? e = some i) (hz : i.zero = some z)
    (hb : n * i.size ≤ 16777216) (hzs : z.cells.size = i.size) (hf : Instr.fill (fun j => some (j * i.size, i.size)) ((Array.range (n * i.size)).map (z.cells[· % z.cells.size]!)) ps.toList = some cells) :
    (Instr.buildSlice t n ps).run P w = .ok (.slice (some ⟨w.heap.size, 0, none⟩) n n) (w.alloc (.cells cells e)) := by
  by_cases h0 : n * i.size = 0
  · have hr : Array.range (n * i.size) = #[] := by rw [h0]; rfl
    have hr0 : Array.range 0 = #[] := rfl
    rw [hr] at hf
    simp only [List.map_toArray, List.map_nil] at hf
    simp [Instr.buildSlice, run_underlying hu, run_sizeOf w hi, Program.cellsOf, hi, h0, newRow, hr0, hf]
  · simp [Instr.buildSlice, run_underlying hu, run_sizeOf w hi, Program.cellsOf, hi, h0, newRow, zeroValue, typeInfo, hz, hf, Nat.not_lt.mpr hb]
end
end Go.Proofs.Ytjkhkblabhaimaa.Am
