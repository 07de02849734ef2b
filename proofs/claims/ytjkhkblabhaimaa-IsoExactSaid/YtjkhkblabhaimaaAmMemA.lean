/- Slices over objects: grown, copied. Least and greatest. -/
import Derived.Test.YtjkhkblabhaimaaAmMem9
import Derived.Stop.SameAnswer
namespace Go.Proofs.Ytjkhkblabhaimaa.Am
open Go
set_option linter.unusedVariables false
set_option linter.unusedSimpArgs false

section
variable {P : Program} {g g' : G} {w w' : World} {Pr : Nat → Prop} {s s' : St} {a : Act} {F : Oracle} {bd : Bd}

theorem partsIn_length : ∀ (ps : List (Nat × Nat × Opd)) (zs cs : List C), partsIn s ps zs = some cs → cs.length = zs.length
  | [], zs, cs, h => by simp [partsIn] at h; subst h; rfl
  | (off, m, x) :: ps, zs, cs, h => by
    simp only [partsIn] at h
    split at h
    case h_2 => cases h
    split at h
    case isFalse => cases h
    split at h
    case h_2 => cases h
    rename_i hz
    rw [partsIn_length ps _ _ h, (putAt_get hz).1]

theorem ok_bsl_arr (o : Oper) {t e : TypeId} {n k : Nat} {ps : Array (Nat × Operand)} {ps' : List (Nat × Opd)} {zs : List C} {i : TypeInfo} {z : Value} {v : V} (ho : o.op = .buildSlice t n ps)
    (hu : P.underlying t = some (.slice e)) (hi : P.info? e = some i) (hz : i.zero = some z) (hc : chkZero z zs = true) (hk : i.size = k) (hzk : zs.length = k) (hb : n * k ≤ 16777216)
    (hps : chkParts (fun j => some (j * k, k)) ps.toList (ps'.map fun p => (p.1 * k, k, p.2)) = true)
    (hv : stepOp F bd s (.bsl .arr k n zs ps') = some (v, s')) (hI : Inv g w Pr s.σ) (hE : EnvOk g w Pr s.env a) : OpOk P o a g w Pr s' v := by
  subst hk
  simp only [stepOp] at hv
  split at hv
  case h_2 => cases hv
  rename_i cs hcs
  cases hv
  have hz0 := rep_arr (g := g) (w := w) (Pr := Pr) hc n
  rw [hzk] at hz0
  obtain ⟨arr, e1, e2⟩ := fill_ok hE hps hcs hz0
  have e1' : Instr.fill (fun j => some (j * i.size, i.size)) ((Array.range (n * i.size)).map (z.cells[· % z.cells.size]!)) (ps.map fun (j, x) => (j, a.eval x)).toList = some arr := by simpa using e1
  have hzs : z.cells.size = i.size := by rw [(chkZero_ok (g := g) (w := w) (Pr := Pr) hc).1, hzk]
  have hrun := run_bsl (P := P) (w := w) hu hi hz hb hzs e1'
  have hcsl : arr.size = cs.length := e2.1
  have hlen : cs.length = n * i.size := by rw [partsIn_length _ _ _ hcs, rep_length, hzk]
  refine OpOk.newCells (w1 := w) (.inl rfl) (arr := arr) (ty := e) (cap := n) ?_ hI hE (by omega) e2.2 (Nat.le_refl _) (by omega)
  simp only [execOp, ho, Sem.run_bind, hrun, Result.andThen_ok]; rfl

/-- The block of an object becomes another object's. -/
def G.pass (g : G) (b o l : Nat) : G := (g.withKind b (.obj l)).withLoc (b, o)

/-- An object's block is written beyond its cells, and is another object's from there on. -/
theorem pass_ok (hI : Inv g w Pr s.σ) (hE : EnvOk g w Pr s.env a) {b q l o : Nat} (hl : g.loc[l]? = some (b, q)) (hk : g.kind b = .obj l) {old arr : Array Value} {ty : TypeId} (h : w.heap[b]? = some (.cells old ty (0, 0))) (hs : arr.size = old.size) {cs : List C} (hfit : o + cs.length ≤ arr.size)
    (hc : ∀ (i : Nat) (c : C), cs[i]? = some c → ∃ u, arr[o + i]? = some u ∧ u.oneCell' = true ∧ ∀ p, RepC g w Pr p c u) :
    Ext g w (g.pass b o s.σ.length) (w.setRow b arr) ∧ Fr Pr g w (g.pass b o s.σ.length) (w.setRow b arr) ∧ Inv (g.pass b o s.σ.length) (w.setRow b arr) Pr (s.σ.set l .dead ++ [.cells cs]) ∧
      EnvOk (g.pass b o s.σ.length) (w.setRow b arr) Pr s.env a ∧ (g.pass b o s.σ.length).loc[s.σ.length]? = some (b, o) := by
  have e0 := setRow_ext hI hk h hs
  have hloc : (g.pass b o s.σ.length).loc[s.σ.length]? = some (b, o) := by simp [G.pass, G.withLoc, G.withKind, ← hI.len]
  have hext : Ext g w (g.pass b o s.σ.length) (w.setRow b arr) := by
    refine ⟨fun x v hx => ?_, fun l x h => loc_old h, e0.size, e0.shape, rfl, rfl, rfl⟩
    have h2 := e0.st x v hx
    obtain ⟨h1, h2, h3⟩ := h2
    have hne : x.block ≠ b := by
      intro e
      rw [e, hk] at h3
      rcases h3 with h3 | ⟨n, h3, _⟩ <;> cases h3
    exact ⟨h1, h2, by simpa [G.pass, G.withKind, G.withLoc, hne] using h3⟩
  have hkeep : ∀ p, Keep g (g.pass b o s.σ.length) p := by
    intro p c n h1 h2
    have hne : c ≠ b := by rintro rfl; rw [hk] at h2; cases h2
    exact ⟨h1, by simpa [G.pass, G.withKind, G.withLoc, hne] using h2⟩
  refine ⟨hext, ?_, ⟨?_, ?_, ?_, ?_⟩, hE.ext hext (fun _ _ => hkeep _), hloc⟩
  · intro c hc'
    have hne : c ≠ b := by rintro rfl; exact (hI.pr _ hc').2.1 l hk
    exact ⟨setRow_other _ _ hne, by simp [G.pass, G.withKind, G.withLoc, hne], rfl⟩
  · simp [G.pass, G.withLoc, G.withKind, hI.len]
  · intro l' x hx
    by_cases hlt : l' < s.σ.length
    · rw [List.getElem?_append_left (by simpa using hlt), List.getElem?_set] at hx
      split at hx
      · split at hx
        · cases hx; trivial
        · cases hx
      · rename_i hne
        refine RepOb.frame hext (fun i => hkeep _) ?_ (hI.ob l' x hx)
        intro c hc'
        have hcb : c ≠ b := by rintro rfl; rw [hk] at hc'; cases hc'; exact hne rfl
        exact ⟨setRow_other _ _ hcb, by simpa [G.pass, G.withKind, G.withLoc, hcb] using hc'⟩
    · rw [List.getElem?_append_right (by simpa using hlt)] at hx
      have : l' = s.σ.length := by
        have := (List.getElem?_eq_some_iff.mp hx).1
        simp at this; omega
      subst this
      simp at hx
      subst hx
      refine ⟨b, o, arr, ty, hloc, by simp [G.pass, G.withKind, G.withLoc], setRow_get _ _ h, hfit, fun i c hi => ?_⟩
      obtain ⟨u, k1, k2, k3⟩ := hc i c hi
      exact ⟨u, k1, k2, RepC.ext hext (hkeep _) (k3 _)⟩
  · intro c hc'
    by_cases hcb : c = b
    · subst hcb
      simpa [World.setRow] using (Array.getElem?_eq_some_iff.1 h).1
    · simpa [World.setRow] using hI.lt c (by simpa [G.pass, G.withKind, G.withLoc, hcb] using hc')
  · intro c hc'
    obtain ⟨h1, h2, h3⟩ := hI.pr c hc'
    have hcb : c ≠ b := by rintro rfl; exact h2 l hk
    exact ⟨by simpa [World.setRow] using h1, by simpa [G.pass, G.withKind, G.withLoc, hcb] using h2, h3⟩

theorem ok_appa (o : Oper) {t t2 e e2 : TypeId} {k bytes : Nat} {x y : Operand} {x' y' : Opd} {i : TypeInfo} {z : Value} {v : V} (ho : o.op = .call { callee := .builtin .append, args := #[x, y], argTypes := #[t, t2] })
    (hx : chkOpd x x' = true) (hy : chkOpd y y' = true) (ht : P.underlying t = some (.slice e)) (ht2 : P.underlying t2 = some (.slice e2)) (hi : P.info? e = some i) (hz : i.zero = some z) (hzs : z.cells.size = i.size)
    (hk : i.size = k) (hby : i.bytes = bytes) (hb0 : i.bytes ≠ 0)
    (hv : stepOp F bd s (.appa k bytes x' y') = some (v, s')) (hI : Inv g w Pr s.σ) (hE : EnvOk g w Pr s.env a) : OpOk P o a g w Pr s' v := by
  subst hk
  subst hby
  simp only [stepOp] at hv
  split at hv
  case h_2 => cases hv
  rename_i n ys hys
  obtain ⟨cc, hb⟩ := run_builtin (P := P) (w := w) (a := a) ho
  have h1 := opd_rd hE hx (.tmp 0)
  obtain ⟨bs2, cap2, us, e1, us1, ys1, us2, us3, us4⟩ := read_elems (P := P) hI hE hy hys
  split at hv
  · -- onto nothing
    rename_i hrd
    rw [hrd] at h1
    have f1 : a.eval x = .slice none 0 0 := h1
    split at hv
    case isFalse => cases hv
    rename_i hc
    split at hv
    · rename_i h0
      subst h0
      cases hv
      have hu0 : us = [] := List.eq_nil_of_length_eq_zero (by simpa using us1)
      subst hu0
      have hrun := run_app_none (P := P) (w := w) (ty := o.type) ht ht2 hi none 0 0 (Nat.le_refl _) (us4 w rfl)
      refine OpOk.pure (u := .slice none 0 0) ?_ hI hE (fun r => rfl)
      rw [hb]
      simp [builtin, f1, e1, hrun]
    · rename_i h0
      cases hv
      have hrun := run_app_grow (P := P) (w := w) (ty := o.type) (z := z) (bs := none) (sLen := 0) (sCap := 0) (old := #[]) ht ht2 hi hz ⟨bs2, cap2, rfl⟩ (by omega) (by omega) (by simpa using hc.1) hb0 (run_firstCells_none (P := P) _ _ _ _ _) (us4 w.drew rfl)
      have hge := grownCap_ge w (0 + n) 0 e
      simp only [Nat.zero_add] at hge hrun
      refine OpOk.newCells (w1 := w.drew) (.inr rfl) (arr := #[] ++ us.toArray ++ Builtin.zeroCells z.cells (grownCap w n 0 e - n)) (ty := e) (cap := grownCap w n 0 e) ?_ hI hE (by simp only [Array.size_append, List.size_toArray, us1, ys1]; omega) ?_ hge ?_
      · rw [hb]; simp [builtin, f1, e1, hrun]
      · intro m c hm
        obtain ⟨u, u1, u2, u3⟩ := us3.2 m c hm
        have := (Array.getElem?_eq_some_iff.mp u1).1
        exact ⟨u, by rw [Array.getElem?_append_left (by simpa using this)]; simpa using u1, u2, u3⟩
      · simp only [Array.size_append, List.size_toArray, size_zeroCells, hzs, us1, List.length_nil, Nat.zero_add, ← Nat.add_mul]
        apply Nat.le_of_eq
        congr 1
        omega
  · -- onto an object
    rename_i k' l off len hrd
    rw [hrd] at h1
    split at hv
    case h_2 => cases hv
    rename_i zs hzs'
    split at hv
    case isFalse => cases hv
    rename_i hc
    obtain ⟨rfl, hlo, hfit, hc1, hc2⟩ := hc
    cases hv
    obtain ⟨b, q, cap, arr, ty, hl, f1, f2, f3, f4⟩ := h1
    obtain ⟨b', q', arr', ty', h3, h4, h5, h6, h7⟩ := hI.ob _ _ (getCells_eq hzs')
    rw [hl] at h3
    cases h3
    rw [f3] at h5
    cases h5
    -- the first argument's own elements
    have hel : elems s.σ i.size (s.rd x') = some (len, ((zs.drop off).take (len * i.size)).map C.down) := by
      rw [hrd]
      simp only [elems, hzs', hfit, and_self, if_true]
    obtain ⟨bs1, cap1, vs, g1, vs1, zs1, vs2, vs3, vs4⟩ := read_elems (P := P) hI hE hx hel
    rw [f1] at g1
    cases g1
    have hlen : (((zs.drop off).take (len * i.size)).map C.down ++ ys).length = (len + n) * i.size := by rw [List.length_append, zs1, ys1, Nat.add_mul]
    have hbuilt : ∀ {r : Result Value}, (Builtin.append_ #[t, t2] o.type #[.slice (some ⟨b, q + off, none⟩) len cap, .slice bs2 n cap2]).run P w = r → (execOp a.eval o).run P w = r.andThen fun v w' => .ok (.value v) w' := by
      intro r hr
      rw [hb]
      simp [builtin, f1, e1, hr]
    by_cases hroom : len + n ≤ cap
    · have hm : len * i.size + n * i.size ≤ cap * i.size := by rw [← Nat.add_mul]; exact Nat.mul_le_mul_right _ hroom
      have hfit2 : q + off + len * i.size + us.length ≤ arr.size := by omega
      have hrun := run_app_room (P := P) (w := w) (ty := o.type) (b := b) (o := q + off) ht ht2 hi hroom f3 (us4 w rfl) us2 hfit2
      have hsz : (arr.toList.take (q + off + len * i.size) ++ us ++ arr.toList.drop (q + off + len * i.size + us.length)).toArray.size = arr.size := by simp; omega
      have hp := pass_ok (o := q + off) (cs := ((zs.drop off).take (len * i.size)).map C.down ++ ys) (a := a) hI hE hl h4 f3 hsz (by rw [hsz, hlen, Nat.add_mul]; omega) ?_
      · obtain ⟨x1, x2, x3, x4, x5⟩ := hp
        refine ⟨_, _, _, fun h => (by rw [ho] at h; cases h), .inl (hbuilt hrun), x1, x2, x3, x4, fun d _ => ?_⟩
        exact ⟨b, q + off, cap, _, ty, x5, by simp, hroom, setRow_get _ _ f3, by rw [hsz]; omega⟩
      · intro m c hm'
        by_cases hlt : m < len * i.size
        · rw [List.getElem?_append_left (by rw [zs1]; exact hlt)] at hm'
          obtain ⟨u, u1, u2, u3⟩ := vs3.2 m c hm'
          simp only [List.getElem?_map, List.getElem?_take, hlt, if_true, List.getElem?_drop, Option.map_eq_some_iff] at hm'
          obtain ⟨c0, hc0, rfl⟩ := hm'
          obtain ⟨u', k1, k2, k3⟩ := h7 _ _ hc0
          refine ⟨u', ?_, k2, fun p => RepC.down k3⟩
          simp only [List.getElem?_toArray]
          rw [List.append_assoc, List.getElem?_append_left (by simp; omega), List.getElem?_take, if_pos (by omega)]
          rw [Nat.add_assoc]
          simpa using k1
        · rw [List.getElem?_append_right (by rw [zs1]; omega), zs1] at hm'
          obtain ⟨u, u1, u2, u3⟩ := us3.2 _ c hm'
          refine ⟨u, ?_, u2, u3⟩
          have h8 := (Array.getElem?_eq_some_iff.mp u1).1
          simp only [List.size_toArray] at h8
          have e1 : (arr.toList.take (q + off + len * i.size)).length = q + off + len * i.size := by simp; omega
          simp only [List.getElem?_toArray]
          rw [List.append_assoc, List.getElem?_append_right (by omega), List.getElem?_append_left (by omega), e1]
          rw [show q + off + m - (q + off + len * i.size) = m - len * i.size by omega]
          simpa using u1
    · have hrun := run_app_grow (P := P) (w := w) (ty := o.type) (z := z) (bs := some ⟨b, q + off, none⟩) (sLen := len) (sCap := cap) ht ht2 hi hz ⟨bs2, cap2, rfl⟩ (by omega) (by omega) hc1 hb0 (vs4 w.drew rfl) (us4 w.drew rfl)
      have hge := grownCap_ge w (len + n) cap e
      have := OpOk.newCells (P := P) (o := o) (a := a) (s := s) (k := i.size) (n := len + n) (cs := ((zs.drop off).take (len * i.size)).map C.down ++ ys) (w1 := w.drew) (.inr rfl) (arr := vs.toArray ++ us.toArray ++ Builtin.zeroCells z.cells (grownCap w (len + n) cap e - (len + n))) (ty := e) (cap := grownCap w (len + n) cap e) (by rw [hbuilt hrun]; rfl) (hI.kill l) hE (by rw [hlen]; simp only [Array.size_append, List.size_toArray, us1, vs1, Nat.add_mul]; omega) ?_ hge ?_
      · rw [List.length_set] at this
        exact this
      · intro m c hm'
        by_cases hlt : m < len * i.size
        · rw [List.getElem?_append_left (by rw [zs1]; exact hlt)] at hm'
          obtain ⟨u, u1, u2, u3⟩ := vs3.2 m c hm'
          have h8 := (Array.getElem?_eq_some_iff.mp u1).1
          refine ⟨u, ?_, u2, u3⟩
          rw [Array.append_assoc, Array.getElem?_append_left h8]; exact u1
        · rw [List.getElem?_append_right (by rw [zs1]; omega), zs1] at hm'
          obtain ⟨u, u1, u2, u3⟩ := us3.2 _ c hm'
          have h8 := (Array.getElem?_eq_some_iff.mp u1).1
          refine ⟨u, ?_, u2, u3⟩
          rw [Array.append_assoc, Array.getElem?_append_right (by simp [vs1]; omega), Array.getElem?_append_left (by simp only [List.size_toArray, vs1] at h8 ⊢; omega)]
          simpa [vs1] using u1
      · simp only [Array.size_append, List.size_toArray, size_zeroCells, hzs, us1, vs1, ← Nat.add_mul]
        apply Nat.le_of_eq
        congr 1
        omega
  · cases hv

theorem loads_ok (b : Addr) : ∀ (l : List Value) (i : Nat) (acc : Array Value), (∀ (j : Nat) (v : Value), l[j]? = some v → (load (b.add (i + j))).run P w = .ok v w) → (loadCellsFrom b i l.length acc).run P w = .ok (acc ++ l.toArray) w
  | [], i, acc, _ => by simp [loadCellsFrom]
  | v :: l, i, acc, h => by
    have h0 := h 0 v rfl
    rw [Nat.add_zero] at h0
    unfold loadCellsFrom
    rw [List.length_cons, Sem.run_bind, h0]
    show (loadCellsFrom b (i + 1) l.length (acc.push v)).run P w = _
    rw [loads_ok b l (i + 1) (acc.push v) (fun j u hj => by have := h (j + 1) u (by simpa using hj); rw [show i + 1 + j = i + (j + 1) by omega]; exact this)]
    simp

/-- Whoever can read all can read the first ones. -/
theorem first_fewer {k n m : Nat} {bs : Option Addr} {cap : Nat} {us : List Value} (h : (Builtin.firstCells k n (.slice bs n cap)).run P w = .ok us.toArray w) (hm : m ≤ n) (hl : us.length = n * k) :
    (Builtin.firstCells k m (.slice bs n cap)).run P w = .ok (us.take (m * k)).toArray w := by
  have hmk : m * k ≤ n * k := Nat.mul_le_mul_right _ hm
  cases bs with
  | none =>
    rw [run_firstCells_none] at h
    cases us with
    | nil => simp [run_firstCells_none]
    | cons u us => simp at h
  | some b =>
    simp only [Builtin.firstCells, loadCells] at h ⊢
    obtain ⟨l, h1, h2, h3⟩ := loadCellsFrom_ok b _ _ _ _ _ h
    have hus : us = l := by simpa using h2
    subst hus
    have := loads_ok (P := P) (w := w) b (us.take (m * k)) 0 #[] (fun j v hj => h3 j v (by rw [List.getElem?_take] at hj; split at hj; exact hj; cases hj))
    rw [show (us.take (m * k)).length = m * k by simp; omega] at this
    simpa using this

theorem ok_cpy (o : Oper) {t t2 e : TypeId} {k : Nat} {x y : Operand} {x' y' : Opd} {i : TypeInfo} {v : V} (ho : o.op = .call { callee := .builtin .copy, args := #[x, y], argTypes := #[t, t2] })
    (hx : chkOpd x x' = true) (hy : chkOpd y y' = true) (ht : P.underlying t = some (.slice e)) (hi : P.info? e = some i) (hk : i.size = k)
    (hv : stepOp F bd s (.cpy k x' y') = some (v, s')) (hI : Inv g w Pr s.σ) (hE : EnvOk g w Pr s.env a) : OpOk P o a g w Pr s' v := by
  subst hk
  simp only [stepOp] at hv
  split at hv
  case h_2 => cases hv
  rename_i n ys hys
  obtain ⟨cc, hb⟩ := run_builtin (P := P) (w := w) (a := a) ho
  have h1 := opd_rd hE hx (.tmp 0)
  obtain ⟨bs2, cap2, us, e1, us1, ys1, us2, us3, us4⟩ := read_elems (P := P) hI hE hy hys
  split at hv
  case h_2 => cases hv
  rename_i k' l off len hrd
  rw [hrd] at h1
  split at hv
  case h_2 => cases hv
  rename_i zs hzs'
  split at hv
  case h_2 => cases hv
  rename_i zs2 hput
  split at hv
  case isFalse => cases hv
  rename_i hc
  obtain ⟨rfl, hw⟩ := hc
  cases hv
  obtain ⟨b, q, cap, arr, ty, hl, f1, f2, f3, f4⟩ := h1
  obtain ⟨b', q', arr', ty', h3, h4, h5, h6, h7⟩ := hI.ob _ _ (getCells_eq hzs')
  rw [hl] at h3
  cases h3
  rw [f3] at h5
  cases h5
  obtain ⟨p1, p2, p3⟩ := putAt_get hput
  have hmn : min n len * i.size ≤ n * i.size := Nat.mul_le_mul_right _ (Nat.min_le_left _ _)
  have htl : (ys.take (min n len * i.size)).length = min n len * i.size := by simp; omega
  have hul : (us.take (min n len * i.size)).length = min n len * i.size := by simp; omega
  rw [htl] at p2 p3
  have hfirst : (Builtin.firstCells i.size (min n len) (.slice bs2 n cap2)).run P w = .ok (us.take (min n len * i.size)).toArray w := first_fewer (us4 w rfl) (Nat.min_le_left _ _) us1
  have hst := run_storeCells_at (P := P) b (q + off) ty (us.take (min n len * i.size)) 0 arr w f3 (by rw [hul]; omega) (fun u hu => us2 u (List.mem_of_mem_take hu))
  simp only [Nat.add_zero, hul] at hst
  have hsz : (arr.toList.take (q + off) ++ us.take (min n len * i.size) ++ arr.toList.drop (q + off + min n len * i.size)).toArray.size = arr.size := by simp; omega
  have hext := setRow_ext hI h4 f3 hsz
  refine ⟨.int .i64 (min n len : Nat), _, g, fun h => (by rw [ho] at h; cases h), .inl ?_, hext, setRow_fr hI h4 _, setRow_inv hI h4 f3 hsz ?_, hE.ext hext (fun _ _ => Keep.refl _ _), fun d _ => RepD.int _ _⟩
  · rw [hb]
    simp [builtin, f1, e1, Builtin.copy_, run_underlying ht, Builtin.lenOf, sizeOf, typeInfo, hi, hfirst, hst, goInt]
  · refine ⟨b, q, _, ty, hl, h4, setRow_get _ _ f3, by rw [hsz, p1]; exact h6, fun m c hm => ?_⟩
    have hq : (arr.toList.take (q + off)).length = q + off := by simp; omega
    rcases p3 m c hm with ⟨r1, r2⟩ | ⟨r1, r2⟩
    · have h8 := (List.getElem?_eq_some_iff.mp r2).1
      rw [htl] at h8
      rw [List.getElem?_take, if_pos h8] at r2
      obtain ⟨u, u1, u2, u3⟩ := us3.2 _ c r2
      refine ⟨u, ?_, u2, RepC.ext hext (Keep.refl _ _) (u3 _)⟩
      simp only [List.getElem?_toArray]
      rw [List.append_assoc, List.getElem?_append_right (by omega), List.getElem?_append_left (by omega), hq, List.getElem?_take, if_pos (by omega)]
      rw [show q + m - (q + off) = m - off by omega]
      simpa using u1
    · obtain ⟨u, k1, k2, k3⟩ := h7 m c r2
      refine ⟨u, ?_, k2, RepC.ext hext (Keep.refl _ _) k3⟩
      simp only [List.getElem?_toArray]
      rcases r1 with r1 | r1
      · rw [List.append_assoc, List.getElem?_append_left (by omega), List.getElem?_take, if_pos (by omega)]
        simpa using k1
      · rw [List.append_assoc, List.getElem?_append_right (by omega), List.getElem?_append_right (by omega), List.getElem?_drop, hq, hul]
        rw [show q + off + min n len * i.size + (q + m - (q + off) - min n len * i.size) = q + m by omega]
        simpa using k1

theorem ok_mm (o : Oper) {mx : Bool} {ts : Array TypeId} {x y : Operand} {x' y' : Opd} {v : V} (ho : o.op = .call { callee := .builtin (bif mx then .max else .min), args := #[x, y], argTypes := ts })
    (hx : chkOpd x x' = true) (hy : chkOpd y y' = true)
    (hv : stepOp F bd s (.mm mx x' y') = some (v, s')) (hI : Inv g w Pr s.σ) (hE : EnvOk g w Pr s.env a) : OpOk P o a g w Pr s' v := by
  have h1 := opd_rd hE hx (.tmp 0)
  have h2 := opd_rd hE hy (.tmp 0)
  obtain ⟨cc, hb⟩ := run_builtin (P := P) (w := w) (a := a) ho
  simp only [stepOp] at hv
  split at hv
  case h_2 => cases hv
  rename_i k p k' q hr1 hr2
  split at hv
  case isFalse => cases hv
  subst_vars
  cases hv
  rw [hr1] at h1
  rw [hr2] at h2
  have e1 := rep_int h1
  have e2 := rep_int h2
  refine OpOk.pure (u := .int k' (bif mx then (if q > p then q else p) else (if q < p then q else p))) ?_ hI hE (fun r => RepD.int _ _)
  rw [hb]
  cases mx <;> simp [builtin, e1, e2, Builtin.max_, Builtin.min_, Builtin.max2, Builtin.min2]
end
end Go.Proofs.Ytjkhkblabhaimaa.Am
