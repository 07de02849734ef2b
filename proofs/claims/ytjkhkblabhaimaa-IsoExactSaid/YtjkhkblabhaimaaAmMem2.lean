/- Operations that write memory: stores, what is taken out of an object, what is frozen. -/
import Derived.Test.YtjkhkblabhaimaaAmMem
namespace Go.Proofs.Ytjkhkblabhaimaa.Am
set_option linter.unusedSimpArgs false
set_option linter.unusedVariables false
open Go
set_option linter.unusedVariables false

section
variable {P : Program} {g g' : G} {w w' : World} {Pr : Nat → Prop} {s s' : St} {a : Act} {F : Oracle} {bd : Bd}

theorem setRow_get (g : Nat) (cs : Array Value) {ty : TypeId} {fz : Nat × Nat} {old : Array Value} (h : w.heap[g]? = some (.cells old ty fz)) : (w.setRow g cs).heap[g]? = some (.cells cs ty fz) := setRow_heap w g old cs ty fz h
theorem setRow_other (g : Nat) (cs : Array Value) {b : Nat} (h : b ≠ g) : (w.setRow g cs).heap[b]? = w.heap[b]? := by
  simp only [World.setRow, Array.getElem?_modify]
  rw [if_neg (fun e => h e.symm)]

/-- An object's block is written, its size stays. -/
theorem setRow_ext (hI : Inv g w Pr s.σ) {b l : Nat} (hk : g.kind b = .obj l) {old arr : Array Value} {ty : TypeId} (h : w.heap[b]? = some (.cells old ty (0, 0))) (hs : arr.size = old.size) : Ext g w g (w.setRow b arr) where
  st x v hx := by
    obtain ⟨h1, h2, h3⟩ := hx
    have hne : x.block ≠ b := by
      intro e
      rw [e, hk] at h3
      rcases h3 with h3 | ⟨n, h3, _⟩ <;> cases h3
    refine ⟨h1, ?_, h3⟩
    simp only [World.cell?, setRow_other _ _ hne]
    exact h2
  loc l x h := h
  size := by simp [World.setRow]
  shape c arr' ty' fz h' := by
    by_cases hc : c = b
    · subst hc
      rw [h] at h'
      cases h'
      exact ⟨arr, setRow_get _ _ h, hs⟩
    · exact ⟨arr', by rw [setRow_other _ _ hc]; exact h', rfl⟩
  os := rfl
  tape := rfl
  output := rfl

theorem setRow_fr (hI : Inv g w Pr s.σ) {b l : Nat} (hk : g.kind b = .obj l) (arr : Array Value) : Fr Pr g w g (w.setRow b arr) := by
  intro c hc
  have hne : c ≠ b := by rintro rfl; exact (hI.pr _ hc).2.1 l hk
  exact ⟨setRow_other _ _ hne, rfl, rfl⟩

theorem setRow_inv (hI : Inv g w Pr s.σ) {b l : Nat} (hk : g.kind b = .obj l) {old arr : Array Value} {ty : TypeId} (h : w.heap[b]? = some (.cells old ty (0, 0))) (hs : arr.size = old.size)
    {ob : Ob} (ho : RepOb g (w.setRow b arr) Pr l ob) : Inv g (w.setRow b arr) Pr (s.σ.set l ob) where
  len := by simpa using hI.len
  ob l' x hx := by
    rw [List.getElem?_set] at hx
    split at hx
    · subst_vars
      split at hx
      · cases hx; exact ho
      · cases hx
    · rename_i hne
      refine RepOb.frame (setRow_ext hI hk h hs) (fun i => Keep.refl _ _) ?_ (hI.ob l' x hx)
      intro c hc
      have : c ≠ b := by rintro rfl; rw [hk] at hc; cases hc; exact hne rfl
      exact ⟨setRow_other _ _ this, hc⟩
  lt c hc := by simpa [World.setRow] using hI.lt c hc
  pr c hc := by
    obtain ⟨h1, h2, h3⟩ := hI.pr c hc
    exact ⟨by simpa [World.setRow] using h1, h2, h3⟩

theorem putAt_get {zs cs zs' : List C} {off : Nat} (h : putAt zs off cs = some zs') : zs'.length = zs.length ∧ off + cs.length ≤ zs.length ∧
    ∀ (i : Nat) (c : C), zs'[i]? = some c → (off ≤ i ∧ cs[i - off]? = some c) ∨ ((i < off ∨ off + cs.length ≤ i) ∧ zs[i]? = some c) := by
  unfold putAt at h
  split at h
  · rename_i hle
    cases h
    refine ⟨by simp; omega, hle, fun i c hi => ?_⟩
    by_cases h1 : i < off
    · rw [List.append_assoc, List.getElem?_append_left (by simp; omega), List.getElem?_take, if_pos h1] at hi
      exact .inr ⟨.inl h1, hi⟩
    · by_cases h2 : i < off + cs.length
      · rw [List.append_assoc, List.getElem?_append_right (by simp; omega), List.getElem?_append_left (by simp; omega)] at hi
        have : (zs.take off).length = off := by simp; omega
        rw [this] at hi
        exact .inl ⟨by omega, hi⟩
      · rw [List.append_assoc, List.getElem?_append_right (by simp; omega), List.getElem?_append_right (by simp; omega), List.getElem?_drop] at hi
        have e : off + cs.length + (i - (zs.take off).length - cs.length) = i := by
          have : (zs.take off).length = off := by simp; omega
          omega
        rw [e] at hi
        exact .inr ⟨.inr (by omega), hi⟩
  · cases h

theorem getCells_eq {σ : List Ob} {l : Nat} {cs : List C} (h : getCells σ l = some cs) : σ[l]? = some (.cells cs) := by
  unfold getCells at h
  split at h
  · rename_i h'; cases h; exact h'
  · cases h


theorem cells_one {z : C} {cs : List C} (h : (V.c z).cells = some cs) : cs = [z] ∧ z ≠ .b .any := by
  cases z with
  | b y => cases y <;> simp_all [V.cells]
  | osl k rows => exact ⟨by simpa [V.cells] using h.symm, by simp⟩
  | fn f a b => exact ⟨by simpa [V.cells] using h.symm, by simp⟩
  | nilf => exact ⟨by simpa [V.cells] using h.symm, by simp⟩

theorem opd_k (hE : EnvOk g w Pr s.env a) {y : Operand} {v : V} (h : chkOpd y (.k v) = true) : ∃ c, v = .c c ∧ ∀ p, RepC g w Pr p c (a.eval y) := by
  unfold chkOpd at h
  split at h
  · rename_i t n hk; cases hk
  · rename_i u c hk
    cases hk
    have h0 := h
    unfold chkConst at h0
    split at h0
    · exact ⟨_, rfl, fun p => chkConst_ok (g := g) (w := w) (Pr := Pr) (r := .tmp 0) h⟩
    · exact ⟨_, rfl, fun p => chkConst_ok (g := g) (w := w) (Pr := Pr) (r := .tmp 0) h⟩
    · exact ⟨_, rfl, fun p => chkConst_ok (g := g) (w := w) (Pr := Pr) (r := .tmp 0) h⟩
    · exact ⟨_, rfl, fun p => ⟨RepD.nil, by simp, .inl rfl⟩⟩
    · exact ⟨_, rfl, fun p => chkConst_ok (g := g) (w := w) (Pr := Pr) (r := .tmp 0) h⟩
    · exact ⟨_, rfl, fun p => chkConst_ok (g := g) (w := w) (Pr := Pr) (r := .tmp 0) h⟩
    · exact ⟨_, rfl, fun p => chkConst_ok (g := g) (w := w) (Pr := Pr) (r := .tmp 0) h⟩
    · exact ⟨_, rfl, fun p => chkConst_ok (g := g) (w := w) (Pr := Pr) (r := .tmp 0) h⟩
    · exact ⟨_, rfl, fun p => chkConst_ok (g := g) (w := w) (Pr := Pr) (r := .tmp 0) h⟩
    · cases h0
  · rename_i f f' hk
    cases hk
    have h' : f = fnOf f' := eq_of_beq h
    subst h'
    exact ⟨_, rfl, fun p => ⟨#[], #[], rfl, rfl, rfl, by simp, by simp⟩⟩
  · cases h

/-- Where a value's cell lies. -/
def V.pth : V → Nat → List Nat
  | .c _, _ => []
  | _, i => [i]

theorem RepV.cells' {r : Root} {x : V} {v : Value} {cs : List C} (h : RepV g w Pr r x v) (hc : x.cells = some cs) :
    v.cells.size = cs.length ∧ ∀ (i : Nat) (c : C), cs[i]? = some c → ∃ u, v.cells[i]? = some u ∧ u.oneCell' = true ∧ RepC g w Pr (r, x.pth i) c u := by
  cases x with
  | c x =>
    have hne : x ≠ .b .any := by rintro rfl; simp [V.cells] at hc
    have hcs : cs = [x] := by
      cases x with
      | b y => cases y <;> simp_all [V.cells]
      | osl k rows => simpa [V.cells] using hc.symm
      | fn f a b => simpa [V.cells] using hc.symm
      | nilf => simpa [V.cells] using hc.symm
    subst hcs
    have hs := RepC.scalar (p := (r, [])) h hne
    rw [one_cells hs]
    refine ⟨rfl, fun i c hi => ?_⟩
    cases i with
    | zero => simp at hi; subst hi; exact ⟨v, rfl, hs, h⟩
    | succ i => simp at hi
  | agg cs' =>
    simp only [V.cells, Option.some.injEq] at hc
    subst hc
    obtain ⟨arr, rfl, h2, h3⟩ := h
    refine ⟨by simpa [Value.cells] using h2, fun i c hi => ?_⟩
    obtain ⟨u, k1, k2, k3⟩ := h3 i c hi
    exact ⟨u, k1, k2, k3⟩
  | tup vs => simp [V.cells] at hc

theorem run_st {t : TypeId} {i : TypeInfo} {b o : Nat} {v : Value} {arr : Array Value} {ty : TypeId} (hi : P.info? t = some i) (hsz : v.cells.size = i.size) (h : w.heap[b]? = some (.cells arr ty (0, 0)))
    (hb : o + v.cells.size ≤ arr.size) (h1 : ∀ u ∈ v.cells.toList, u.oneCell' = true) :
    (Instr.storeAt t (.pointer (some ⟨b, o, none⟩)) v).run P w = .ok () (w.setRow b (arr.toList.take o ++ v.cells.toList ++ arr.toList.drop (o + v.cells.size)).toArray) := by
  have := run_storeCells_at (P := P) b o ty v.cells.toList 0 arr w h (by simpa using hb) h1
  simp only [Nat.add_zero, Array.length_toList] at this
  simp only [Instr.storeAt, Instr.sureAddr, Sem.run_bind, Sem.run_pure, Result.andThen_ok, storeVar, run_sizeOf w hi, Program.cellsOf, hi, Option.map_some, Option.getD_some, hsz, ne_eq, not_true_eq_false, if_false]
  simp only [hsz] at this
  simpa using this

theorem ok_st (o : Oper) {t : TypeId} {x y : Operand} {x' y' : Opd} {n : Nat} {i : TypeInfo} {v : V} (ho : o.op = .store t x y) (hx : chkOpd x x' = true) (hy : chkOpd y y' = true)
    (hi : P.info? t = some i) (hn : i.size = n) (hd : o.dst = none)
    (hv : stepOp F bd s (.st n x' y') = some (v, s')) (hI : Inv g w Pr s.σ) (hE : EnvOk g w Pr s.env a) : OpOk P o a g w Pr s' v := by
  have h1 := opd_rd hE hx (.tmp 0)
  simp only [stepOp] at hv
  split at hv
  case h_2 => cases hv
  rename_i l off cs hr hcs
  rw [hr] at h1
  obtain ⟨b, q, hl, h2⟩ := h1
  split at hv
  case isFalse => cases hv
  rename_i hlen
  split at hv
  case h_2 => cases hv
  rename_i zs hzs
  split at hv
  case h_2 => cases hv
  rename_i zs' hput
  split at hv
  case isFalse => cases hv
  cases hv
  have hob := getCells_eq hzs
  obtain ⟨p1, p2, p3⟩ := putAt_get hput
  -- the value, at its new place
  have key : ∃ g1, Ext g w g1 w ∧ Fr Pr g w g1 w ∧ Inv g1 w Pr s.σ ∧ EnvOk g1 w Pr (s.took y').env a ∧ (a.eval y).cells.size = cs.length ∧
      ∀ (j : Nat) (c : C), cs[j]? = some c → ∃ u, (a.eval y).cells[j]? = some u ∧ u.oneCell' = true ∧ RepC g1 w Pr (.cell l, [off + j]) c u := by
    cases y' with
    | k cv =>
      obtain ⟨c, rfl, hc⟩ := opd_k hE hy
      obtain ⟨e1, e2⟩ := RepV.cells' (r := .tmp 0) (x := .c c) (hc (.tmp 0, [])) hcs
      refine ⟨g, .refl _ _, .refl _ _ _, hI, hE, e1, fun j c' hj => ?_⟩
      obtain ⟨u, k1, k2, k3⟩ := e2 j c' hj
      refine ⟨u, k1, k2, ?_⟩
      have hcc : cs = [c] := (cells_one hcs).1
      subst hcc
      cases j with
      | zero =>
        simp at hj; subst hj
        have hone : (a.eval y).oneCell' = true := by
          refine RepC.scalar (hc (.tmp 0, [])) ?_
          rintro rfl; simp [St.raw, V.cells] at hcs
        rw [one_cells hone] at k1
        simp at k1; subst k1
        exact hc _
      | succ j => simp at hj
    | t m =>
      have hv := (opd_raw hE hy).1 m rfl
      let φ : Place → Place := fun p => if p.1 = .tmp m then (match p.2 with | [] => (.cell l, [off]) | [j] => (.cell l, [off + j]) | _ => p) else p
      obtain ⟨e1, e2⟩ := RepV.cells' hv hcs
      refine ⟨g.ren Pr φ, Ext.ren φ, Fr.ren φ, Inv.ren φ (fun l i => by simp [φ]) hI, ?_, e1, fun j c hj => ?_⟩
      · intro t
        simp only [St.took]
        rw [env_get_cons]
        split
        · subst_vars
          have h0 := RepV.down (r' := .tmp t) (hE t)
          -- what is read without its right lies anywhere
          have : ∀ {x : V} {u : Value}, RepV g w Pr (.tmp t) x u → RepV (g.ren Pr φ) w Pr (.tmp t) x.down u := by
            intro x u hx
            cases x with
            | c y => exact RepC.down (RepC.ren φ rfl hx)
            | agg ys =>
              obtain ⟨arr, q1, q2, q3⟩ := hx
              refine ⟨arr, q1, by simpa using q2, fun i c hi => ?_⟩
              simp only [List.getElem?_map, Option.map_eq_some_iff] at hi
              obtain ⟨c0, hc0, rfl⟩ := hi
              obtain ⟨u, k1, k2, k3⟩ := q3 i c0 hc0
              exact ⟨u, k1, k2, RepC.down (RepC.ren φ rfl k3)⟩
            | tup ys => trivial
          exact this (hE t)
        · rename_i hne
          exact RepV.ren φ (fun p => by simp only [φ]; rw [if_neg]; intro h; exact hne (by cases h; rfl)) (hE t)
      · obtain ⟨u, k1, k2, k3⟩ := e2 j c hj
        refine ⟨u, k1, k2, RepC.ren φ ?_ k3⟩
        cases hraw : s.raw (.t m) with
        | c z =>
          simp only [hraw] at hcs
          have hcc : cs.length = 1 := by rw [(cells_one hcs).1]; rfl
          have : j = 0 := by have := (List.getElem?_eq_some_iff.mp hj).1; omega
          subst this
          simp [φ, V.pth]
        | agg z => simp [φ, V.pth]
        | tup z => simp [hraw, V.cells] at hcs
  obtain ⟨g1, x1, x2, x3, x4, x5, x6⟩ := key
  obtain ⟨b', q', arr, ty, h3, h4, h5, h6, h7⟩ := x3.ob _ _ hob
  have hl' := x1.loc _ _ hl
  rw [hl'] at h3
  cases h3
  have hcs1 : ∀ u ∈ (a.eval y).cells.toList, u.oneCell' = true := by
    intro u hu
    obtain ⟨j, hj, rfl⟩ := List.mem_iff_getElem.mp hu
    have hj' : j < cs.length := by simp at hj; omega
    obtain ⟨u', k1, k2, _⟩ := x6 j cs[j] (by simp [hj'])
    simp at hj
    simp [hj] at k1
    simpa [k1] using k2
  have hrun := run_st (P := P) (w := w) (b := b) (o := q + off) (v := a.eval y) hi (by omega) h5 (by omega) hcs1
  have hsz : (arr.toList.take (q + off) ++ (a.eval y).cells.toList ++ arr.toList.drop (q + off + (a.eval y).cells.size)).toArray.size = arr.size := by
    simp; omega
  have hext := setRow_ext x3 h4 h5 hsz
  refine ⟨undef, _, g1, fun h => (by rw [ho] at h; cases h), .inr ⟨?_, rfl⟩, x1.trans hext, x2.trans (setRow_fr x3 h4 _), ?_, x4.ext hext (fun _ _ => Keep.refl _ _), fun d hd' => by rw [hd] at hd'; cases hd'⟩
  · simp only [execOp, ho, h2, Sem.run_bind]
    rw [Nat.add_assoc] at hrun ⊢
    rw [hrun]; rfl
  · refine setRow_inv x3 h4 h5 hsz ⟨b, q, _, ty, hl', h4, setRow_get _ _ h5, by rw [hsz]; omega, fun j c hj => ?_⟩
    have harr : ∀ m, (arr.toList.take (q + off) ++ (a.eval y).cells.toList ++ arr.toList.drop (q + off + (a.eval y).cells.size)).toArray[m]? =
        if m < q + off then arr[m]? else if m < q + off + cs.length then (a.eval y).cells[m - (q + off)]? else arr[m]? := by
      intro m
      simp only [List.getElem?_toArray]
      split
      · rw [List.append_assoc, List.getElem?_append_left (by simp; omega), List.getElem?_take, if_pos (by assumption)]; simp
      · split
        · rw [List.append_assoc, List.getElem?_append_right (by simp; omega), List.getElem?_append_left (by simp; omega)]
          have : (arr.toList.take (q + off)).length = q + off := by simp; omega
          rw [this]; simp
        · rw [List.append_assoc, List.getElem?_append_right (by simp; omega), List.getElem?_append_right (by simp; omega), List.getElem?_drop]
          have : (arr.toList.take (q + off)).length = q + off := by simp; omega
          rw [this]
          simp only [Array.getElem?_toList, Array.length_toList]
          congr 1
          omega
    rcases p3 j c hj with ⟨j1, j2⟩ | ⟨j1, j2⟩
    · obtain ⟨u, k1, k2, k3⟩ := x6 _ _ j2
      have hj3 := (List.getElem?_eq_some_iff.mp j2).1
      refine ⟨u, ?_, k2, ?_⟩
      · rw [harr, if_neg (by omega), if_pos (by omega)]
        rw [show q + j - (q + off) = j - off by omega]
        exact k1
      · rw [show off + (j - off) = j by omega] at k3
        exact RepC.ext hext (Keep.refl _ _) k3
    · obtain ⟨u, k1, k2, k3⟩ := h7 _ _ j2
      refine ⟨u, ?_, k2, RepC.ext hext (Keep.refl _ _) k3⟩
      rw [harr]
      split
      · exact k1
      · rw [if_neg (by omega)]; exact k1
end
end Go.Proofs.Ytjkhkblabhaimaa.Am
