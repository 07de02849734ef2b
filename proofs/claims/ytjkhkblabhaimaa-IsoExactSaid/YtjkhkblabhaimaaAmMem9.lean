/- Slices over objects: made, grown, copied. -/
import Derived.Test.YtjkhkblabhaimaaAmMem8
namespace Go.Proofs.Ytjkhkblabhaimaa.Am
open Go
set_option linter.unusedVariables false
set_option linter.unusedSimpArgs false

section
variable {P : Program} {g g' : G} {w w' : World} {Pr : Nat → Prop} {s s' : St} {a : Act} {F : Oracle} {bd : Bd}

theorem flatten_get {k : Nat} : ∀ {rows : List (List D)}, (∀ r ∈ rows, r.length = k) → rows.flatten.length = rows.length * k ∧ ∀ (m : Nat) (d : D), rows.flatten[m]? = some d → ∃ i row j, rows[i]? = some row ∧ row[j]? = some d ∧ m = i * k + j
  | [], _ => ⟨by simp, fun m d h => by simp at h⟩
  | r :: rs, h => by
    have hr : r.length = k := h r List.mem_cons_self
    obtain ⟨h1, h2⟩ := flatten_get (rows := rs) (fun x hx => h x (List.mem_cons_of_mem _ hx))
    refine ⟨by simp only [List.flatten_cons, List.length_append, h1, hr, List.length_cons, Nat.add_mul]; omega, fun m d hm => ?_⟩
    simp only [List.flatten_cons] at hm
    by_cases hlt : m < r.length
    · rw [List.getElem?_append_left hlt] at hm
      exact ⟨0, r, m, rfl, hm, by omega⟩
    · rw [List.getElem?_append_right (by omega)] at hm
      obtain ⟨i, row, j, e1, e2, e3⟩ := h2 _ d hm
      exact ⟨i + 1, row, j, by simpa using e1, e2, by rw [Nat.add_mul]; omega⟩

theorem down_any {c : C} {u : Value} {p q : Place} (h : RepC g w Pr p c u) : RepC g w Pr q c.down u := RepC.down h

/-- What is read of a slice's elements. -/
theorem read_elems (hI : Inv g w Pr s.σ) (hE : EnvOk g w Pr s.env a) {y : Operand} {y' : Opd} (hy : chkOpd y y' = true) {k n : Nat} {cs : List C} (hr : elems s.σ k (s.rd y') = some (n, cs)) :
    ∃ (bs : Option Addr) (cap : Nat) (us : List Value), a.eval y = .slice bs n cap ∧ us.length = n * k ∧ cs.length = n * k ∧ (∀ u ∈ us, u.oneCell' = true) ∧ RepArr g w Pr cs us.toArray ∧
      ∀ w' : World, w'.heap = w.heap → (Builtin.firstCells k n (.slice bs n cap)).run P w' = .ok us.toArray w' := by
  have h1 := opd_rd hE hy (.tmp 0)
  unfold elems at hr
  split at hr
  · rename_i rows hrd
    split at hr
    case isFalse => cases hr
    rename_i hk
    cases hr
    have hk' : ∀ r ∈ rows, r.length = k := by simpa using hk
    obtain ⟨bs, cap, us, e1, e2, e3, e4, e5⟩ := read_rows (P := P) hI hE hy (k := k) (ys := rows) (by rw [hrd]; rfl) hk'
    obtain ⟨f1, f2⟩ := flatten_get hk'
    refine ⟨bs, cap, us, e1, e2, by rw [List.length_map]; exact f1, e3, ⟨by rw [List.length_map, f1]; simp [e2], fun i c hi => ?_⟩, e5⟩
    simp only [List.getElem?_map, Option.map_eq_some_iff] at hi
    obtain ⟨d, hd, rfl⟩ := hi
    obtain ⟨i', row, j, g1, g2, rfl⟩ := f2 i d hd
    obtain ⟨u, u1, u2⟩ := e4 i' row j d g1 g2
    exact ⟨u, u1, RepD.scalar u2, fun p => u2⟩
  · rename_i hrd
    cases hr
    rw [hrd] at h1
    exact ⟨none, 0, [], h1, by simp, by simp, by simp, ⟨by simp, fun i c hi => by simp at hi⟩, fun w' _ => run_firstCells_none (P := P) w' _ _ _ _⟩
  · rename_i hrd
    cases hr
    rw [hrd] at h1
    obtain ⟨ad, cap, he⟩ := h1
    exact ⟨some ad, cap, [], he, by simp, by simp, by simp, ⟨by simp, fun i c hi => by simp at hi⟩, fun w' _ => by simp [Builtin.firstCells, loadCells, loadCellsFrom]⟩
  · rename_i k' l off len hrd
    rw [hrd] at h1
    split at hr
    case h_2 => cases hr
    rename_i zs hzs
    split at hr
    case isFalse => cases hr
    rename_i hc
    cases hr
    obtain ⟨rfl, hfit⟩ := hc
    obtain ⟨b, q, cap, arr, ty, hl, e1, e2, e3, e4⟩ := h1
    obtain ⟨b', q', arr', ty', h3, h4, h5, h6, h7⟩ := hI.ob _ _ (getCells_eq hzs)
    rw [hl] at h3
    cases h3
    rw [e3] at h5
    cases h5
    have hlen : (((zs.drop off).take (n * k')).map C.down).length = n * k' := by simp; omega
    have hget : ∀ m, m < n * k' → ∃ c u, zs[off + m]? = some c ∧ arr[q + off + m]? = some u ∧ u.oneCell' = true ∧ ∀ p, RepC g w Pr p c.down u := by
      intro m hm
      have hlt : off + m < zs.length := by omega
      obtain ⟨u, u1, u2, u3⟩ := h7 (off + m) zs[off + m] (by simp [hlt])
      exact ⟨_, u, by simp [hlt], by rw [Nat.add_assoc]; exact u1, u2, fun p => RepC.down u3⟩
    refine ⟨_, cap, (List.range (n * k')).map fun m => arr.getD (q + off + m) undef, e1, by simp, hlen, ?_, ⟨by simp [hlen]; omega, fun i c hi => ?_⟩, fun w' hw' => ?_⟩
    · intro u hu
      simp only [List.mem_map, List.mem_range] at hu
      obtain ⟨m, hm, rfl⟩ := hu
      obtain ⟨c, u, _, u1, u2, _⟩ := hget m hm
      simpa [Array.getD_eq_getD_getElem?, u1] using u2
    · have hi0 := (List.getElem?_eq_some_iff.mp hi).1
      rw [hlen] at hi0
      obtain ⟨c', u, c1, u1, u2, u3⟩ := hget i hi0
      simp only [List.getElem?_map, List.getElem?_take, List.getElem?_drop, hi0, if_true, c1, Option.map_some, Option.some.injEq] at hi
      subst hi
      exact ⟨u, by simp [Array.getD_eq_getD_getElem?, u1, hi0], u2, u3⟩
    · refine run_firstCells_some (P := P) w' k' n ⟨b, q + off, none⟩ _ cap _ (by simp) (fun m v hm => ?_)
      simp only [List.getElem?_map, Option.map_eq_some_iff] at hm
      obtain ⟨m', hm', rfl⟩ := hm
      obtain ⟨rfl, hlt⟩ := range_get hm'
      obtain ⟨c, u, _, u1, u2, _⟩ := hget m hlt
      rw [addr_add]
      simp only [World.cell?, hw', e3]
      simp [Array.getD_eq_getD_getElem?, u1]
  · cases hr

theorem Inv.kill {σ : List Ob} (hI : Inv g w Pr σ) (l : Nat) : Inv g w Pr (σ.set l .dead) where
  len := by simpa using hI.len
  ob l' x hx := by
    rw [List.getElem?_set] at hx
    split at hx
    · split at hx
      · cases hx; trivial
      · cases hx
    · exact hI.ob l' x hx
  lt := hI.lt
  pr := hI.pr

/-- A new object of cells, behind a draw. -/
theorem OpOk.newCells {o : Oper} {k n cap : Nat} {cs : List C} {arr : Array Value} {ty : TypeId} {σ : List Ob} {w1 : World} (hw1 : w1 = w ∨ w1 = w.drew) (hr : (execOp a.eval o).run P w = .ok (.value (.slice (some ⟨w.heap.size, 0, none⟩) n cap)) (w1.alloc (.cells arr ty)))
    (hI : Inv g w Pr σ) (hE : EnvOk g w Pr s.env a) (hcs : cs.length ≤ arr.size) (hrep : ∀ (i : Nat) (c : C), cs[i]? = some c → ∃ u, arr[i]? = some u ∧ u.oneCell' = true ∧ ∀ p, RepC g w Pr p c u) (hn : n ≤ cap) (hcap : cap * k ≤ arr.size) :
    OpOk P o a g w Pr { s with σ := σ ++ [.cells cs] } (.c (.b (.arr k σ.length 0 n))) := by
  have hheap : w1.heap = w.heap := by rcases hw1 with rfl | rfl <;> rfl
  have e0 : Ext g w g w1 := by rcases hw1 with rfl | rfl; exact Ext.refl _ _; exact Ext.heap rfl rfl rfl rfl
  have f0 : Fr Pr g w g w1 := Fr.heap hheap
  have hI' : Inv g w1 Pr (St.σ ⟨s.env, σ⟩) := by rcases hw1 with rfl | rfl; exact hI; exact hI.heap rfl rfl rfl rfl
  have hE' : EnvOk g w1 Pr s.env a := hE.ext e0 (fun _ _ => Keep.refl _ _)
  have hrep' : ∀ (i : Nat) (c : C), cs[i]? = some c → ∃ u, arr[i]? = some u ∧ u.oneCell' = true ∧ ∀ p, RepC g w1 Pr p c u := by
    intro i c hi
    obtain ⟨u, u1, u2, u3⟩ := hrep i c hi
    exact ⟨u, u1, u2, fun p => RepC.ext e0 (Keep.refl _ _) (u3 p)⟩
  have hinv := new_cells (s := ⟨s.env, σ⟩) (ty := ty) hI' hcs hrep'
  have hext := newObj_ext (s := ⟨s.env, σ⟩) hI' (.cells arr ty) σ.length
  refine ⟨_, _, g.newObj w1 σ.length, fun _ b hb => by rw [alloc_get (w := w1) b (by rw [hheap]; exact hb), hheap], .inl hr, e0.trans hext, f0.trans (newObj_fr (s := ⟨s.env, σ⟩) hI' _ _), hinv, hE'.ext hext (fun _ _ => newObj_keep (s := ⟨s.env, σ⟩) hI' _ _), fun d _ => ?_⟩
  have hloc := newObj_loc (s := ⟨s.env, σ⟩) hI'
  rw [hheap] at hloc
  exact ⟨w.heap.size, 0, cap, arr, ty, hloc, rfl, hn, by rw [← hheap]; exact alloc_new, by omega⟩

theorem ok_mks_arr (o : Oper) {t e : TypeId} {k bytes : Nat} {x y : Operand} {x' y' : Opd} {zs : List C} {i : TypeInfo} {z : Value} {v : V} (ho : o.op = .makeSlice t x y) (hx : chkOpd x x' = true) (hy : chkOpd y y' = true)
    (hu : P.underlying t = some (.slice e)) (hi : P.info? e = some i) (hz : i.zero = some z) (hc : chkZero z zs = true) (hk : i.size = k) (hby : i.bytes = bytes)
    (hv : stepOp F bd s (.mks .arr k bytes zs x' y') = some (v, s')) (hI : Inv g w Pr s.σ) (hE : EnvOk g w Pr s.env a) : OpOk P o a g w Pr s' v := by
  have h1 := opd_rd hE hx (.tmp 0)
  have h2 := opd_rd hE hy (.tmp 0)
  subst hk
  subst hby
  simp only [stepOp] at hv
  split at hv
  case h_2 => cases hv
  rename_i n c hn hcc
  obtain ⟨k1, e1⟩ := intOf_ok h1 hn
  obtain ⟨k2, e2⟩ := intOf_ok h2 hcc
  split at hv
  case isFalse => cases hv
  rename_i hcond
  obtain ⟨q1, q2, q3, q4, q5⟩ := hcond
  obtain ⟨n, rfl⟩ : ∃ m : Nat, n = m := ⟨n.toNat, by omega⟩
  obtain ⟨c, rfl⟩ : ∃ m : Nat, c = m := ⟨c.toNat, by omega⟩
  simp only [Int.toNat_natCast] at hv
  cases hv
  have hzs : z.cells.size = i.size := by rw [(chkZero_ok (g := g) (w := w) (Pr := Pr) hc).1, q5]
  have hrun := run_mks (P := P) (w := w) (k1 := k1) (k2 := k2) hu hi hz hzs (n := n) (c := c) (by omega) (by omega) (by omega)
  have hz0 := rep_arr (g := g) (w := w) (Pr := Pr) hc c
  rw [q5] at hz0
  have hle : n * i.size ≤ c * i.size := Nat.mul_le_mul_right _ (by omega)
  refine OpOk.newCells (w1 := w) (.inl rfl) (arr := (Array.range (c * i.size)).map (z.cells[· % z.cells.size]!)) (ty := e) (cap := c) ?_ hI hE (by rw [rep_length, q5]; simpa using hle) ?_ (by omega) (by simp)
  · simp only [execOp, ho, e1, e2, Sem.run_bind, hrun, Result.andThen_ok]; rfl
  · intro m cc hm
    have hlt := (List.getElem?_eq_some_iff.mp hm).1
    rw [rep_length, q5] at hlt
    rw [rep_get (by rw [q5]; exact hlt)] at hm
    have hlt2 : m < c * zs.length := by rw [q5]; omega
    exact hz0.2 _ _ ((rep_get hlt2).trans hm)
end
end Go.Proofs.Ytjkhkblabhaimaa.Am
