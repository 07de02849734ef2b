/- What is built of parts; new rows. -/
import Derived.Test.YtjkhkblabhaimaaAmMem3
import Derived.Laws.Tables
namespace Go.Proofs.Ytjkhkblabhaimaa.Am
set_option linter.unusedSimpArgs false
set_option linter.unusedVariables false
open Go
set_option linter.unusedVariables false

section
variable {P : Program} {g g' : G} {w w' : World} {Pr : Nat → Prop} {s s' : St} {a : Act} {F : Oracle} {bd : Bd}

theorem rd_down {x : Opd} {cs : List C} (hcs : (s.rd x).cells = some cs) {i : Nat} {c : C} (hi : cs[i]? = some c) : c.down = c := by
  have hs : s.rd x = (s.raw x).down := rfl
  rw [hs] at hcs
  cases hraw : s.raw x with
  | c y =>
    rw [hraw] at hcs
    obtain ⟨rfl, _⟩ := cells_one (z := y.down) hcs
    cases i with
    | zero => simp at hi; subst hi; cases y <;> rfl
    | succ i => simp at hi
  | agg cs0 =>
    rw [hraw] at hcs
    simp only [V.down, V.cells, Option.some.injEq] at hcs
    subst hcs
    simp only [List.getElem?_map, Option.map_eq_some_iff] at hi
    obtain ⟨c0, _, rfl⟩ := hi
    cases c0 <;> rfl
  | tup vs => rw [hraw] at hcs; simp [V.down, V.cells] at hcs

/-- The cells of what is read, wherever they lie. -/
theorem rd_cells (hE : EnvOk g w Pr s.env a) {y : Operand} {x : Opd} (h : chkOpd y x = true) {cs : List C} (hcs : (s.rd x).cells = some cs) :
    (a.eval y).cells.size = cs.length ∧ ∀ (i : Nat) (c : C), cs[i]? = some c → ∃ u, (a.eval y).cells[i]? = some u ∧ u.oneCell' = true ∧ ∀ p, RepC g w Pr p c u := by
  obtain ⟨c1, c2⟩ := RepV.cells' (opd_rd hE h (.tmp 0)) hcs
  refine ⟨c1, fun i c hi => ?_⟩
  obtain ⟨u, k1, k2, k3⟩ := c2 i c hi
  refine ⟨u, k1, k2, fun p => ?_⟩
  rw [← rd_down hcs hi]
  exact RepC.down k3

def RepArr (g : G) (w : World) (Pr : Nat → Prop) (cs : List C) (arr : Array Value) : Prop :=
  arr.size = cs.length ∧ ∀ (i : Nat) (c : C), cs[i]? = some c → ∃ u, arr[i]? = some u ∧ u.oneCell' = true ∧ ∀ p, RepC g w Pr p c u

theorem fold_set : ∀ (l : List Value) (k off : Nat) (arr : Array Value) (m : Nat), ((l.zipIdx k).foldl (fun cs (p : Value × Nat) => cs.setIfInBounds (off + p.2) p.1) arr)[m]? =
    if off + k ≤ m ∧ m < off + k + l.length ∧ m < arr.size then l[m - (off + k)]? else arr[m]?
  | [], k, off, arr, m => by simp; intro h1 h2; omega
  | v :: l, k, off, arr, m => by
    rw [List.zipIdx_cons, List.foldl_cons, fold_set l (k + 1) off]
    simp only [Array.size_setIfInBounds, List.length_cons]
    by_cases h1 : off + k = m
    · subst h1
      rw [if_neg (by omega)]
      by_cases h2 : off + k < arr.size
      · rw [if_pos (by omega)]; simp [h2]
      · rw [if_neg (by omega)]; simp [h2]
    · by_cases h2 : off + (k + 1) ≤ m ∧ m < off + (k + 1) + l.length ∧ m < arr.size
      · rw [if_pos h2, if_pos (by omega)]
        rw [show m - (off + k) = (m - (off + (k + 1))) + 1 by omega]
        simp
      · rw [if_neg h2, if_neg (by omega)]
        rw [Array.getElem?_setIfInBounds_ne h1]

theorem RepArr.put {zs cs zs' : List C} {arr vs : Array Value} {off : Nat} (hp : putAt zs off cs = some zs') (h1 : RepArr g w Pr zs arr) (h2 : RepArr g w Pr cs vs) :
    off + vs.size ≤ arr.size ∧ RepArr g w Pr zs' (vs.zipIdx.foldl (fun cs (p : Value × Nat) => cs.setIfInBounds (off + p.2) p.1) arr) := by
  obtain ⟨p1, p2, p3⟩ := putAt_get hp
  obtain ⟨a1, a2⟩ := h1
  obtain ⟨b1, b2⟩ := h2
  have hget : ∀ m, (vs.zipIdx.foldl (fun cs (p : Value × Nat) => cs.setIfInBounds (off + p.2) p.1) arr)[m]? = if off ≤ m ∧ m < off + vs.size ∧ m < arr.size then vs[m - off]? else arr[m]? := by
    intro m
    rw [← Array.foldl_toList, Array.toList_zipIdx, fold_set]
    simp
  refine ⟨by omega, ?_, fun i c hi => ?_⟩
  · have hsz : ∀ (l : List (Value × Nat)) (arr : Array Value), (l.foldl (fun cs (p : Value × Nat) => cs.setIfInBounds (off + p.2) p.1) arr).size = arr.size := by
      intro l
      induction l with
      | nil => intro arr; rfl
      | cons p l ih => intro arr; rw [List.foldl_cons, ih]; simp
    rw [← Array.foldl_toList, hsz]
    omega
  · rcases p3 i c hi with ⟨j1, j2⟩ | ⟨j1, j2⟩
    · obtain ⟨u, k1, k2⟩ := b2 _ _ j2
      have := (List.getElem?_eq_some_iff.mp j2).1
      exact ⟨u, by rw [hget, if_pos (by omega)]; exact k1, k2⟩
    · obtain ⟨u, k1, k2⟩ := a2 _ _ j2
      exact ⟨u, by rw [hget, if_neg (by omega)]; exact k1, k2⟩

/-- Parts: which places they have. -/
def chkParts (place : Nat → Option (Nat × Nat)) : List (Nat × Operand) → List (Nat × Nat × Opd) → Bool
  | [], [] => true
  | (i, x) :: ps, (off, n, x') :: ps' => place i == some (off, n) && chkOpd x x' && chkParts place ps ps'
  | _, _ => false

theorem fill_ok (hE : EnvOk g w Pr s.env a) {place : Nat → Option (Nat × Nat)} : ∀ {ps : List (Nat × Operand)} {ps' : List (Nat × Nat × Opd)} {zs cs : List C} {arr : Array Value},
    chkParts place ps ps' = true → partsIn s ps' zs = some cs → RepArr g w Pr zs arr → ∃ arr', Instr.fill place arr (ps.map fun p => (p.1, a.eval p.2)) = some arr' ∧ RepArr g w Pr cs arr'
  | [], [], zs, cs, arr, _, h, hr => by simp [partsIn] at h; subst h; exact ⟨arr, rfl, hr⟩
  | [], _ :: _, _, _, _, h, _, _ => by simp [chkParts] at h
  | _ :: _, [], _, _, _, h, _, _ => by simp [chkParts] at h
  | (i, x) :: ps, (off, n, x') :: ps', zs, cs, arr, hc, h, hr => by
    simp only [chkParts, Bool.and_eq_true, beq_iff_eq] at hc
    obtain ⟨⟨c1, c2⟩, c3⟩ := hc
    simp only [partsIn] at h
    split at h
    case h_2 => cases h
    rename_i vs hvs
    split at h
    case isFalse => cases h
    rename_i hn
    split at h
    case h_2 => cases h
    rename_i zs' hz
    have hv := rd_cells hE c2 hvs
    obtain ⟨r1, r2⟩ := RepArr.put hz hr hv
    obtain ⟨arr', e1, e2⟩ := fill_ok hE c3 h r2
    refine ⟨arr', ?_, e2⟩
    simp only [List.map_cons, Instr.fill, c1]
    have h1 : (a.eval x).cells.size = n := by rw [hv.1]; exact hn
    rw [if_neg (by simp [h1]; omega)]
    exact e1

def placesOf (P : Program) (t : TypeId) : Option (List (Nat × Nat)) :=
  match P.underlying t with
  | some (.struct fields) => fields.toList.mapM fun f => (P.info? f.type).map fun i => (f.offset, i.size)
  | _ => none

theorem zero_arr {z : Value} {zs : List C} (h : chkZero z zs = true) : RepArr g w Pr zs z.cells := chkZero_ok h

theorem ok_build (o : Oper) {t : TypeId} {ps : Array (Nat × Operand)} {ps' : List (Nat × Nat × Opd)} {zs : List C} {i : TypeInfo} {z : Value} {places : List (Nat × Nat)} {v : V} (ho : o.op = .build t ps)
    (hi : P.info? t = some i) (hz : i.zero = some z) (hc : chkZero z zs = true) (hp : placesOf P t = some places) (hps : chkParts (places.toArray[·]?) ps.toList ps' = true)
    (hv : stepOp F bd s (.build zs ps') = some (v, s')) (hI : Inv g w Pr s.σ) (hE : EnvOk g w Pr s.env a) : OpOk P o a g w Pr s' v := by
  simp only [stepOp] at hv
  split at hv
  case h_2 => cases hv
  rename_i cs hcs
  cases hv
  obtain ⟨arr, e1, e2, e3⟩ := fill_ok (arr := z.cells) hE hps hcs (zero_arr hc)
  have hb : P.built t (ps.map fun (i, x) => (i, a.eval x)).toList = some arr := by
    unfold placesOf at hp
    split at hp
    · rename_i fields hu
      simp only [Program.built, hi, hu, hz, hp]
      simpa using e1
    · cases hp
  refine OpOk.pure (u := .agg arr) ?_ hI hE (fun r => ⟨arr, rfl, e2, fun j c hj => ?_⟩)
  · simp only [execOp, ho, Sem.run_bind, run_build w t _ arr hb, Result.andThen_ok]; rfl
  · obtain ⟨u, k1, k2, k3⟩ := e3 j c hj
    exact ⟨u, k1, k2, k3 _⟩
end
end Go.Proofs.Ytjkhkblabhaimaa.Am
