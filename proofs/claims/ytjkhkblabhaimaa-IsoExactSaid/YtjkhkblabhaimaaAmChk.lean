/- The abstract code against the model's: which operation stands for which. -/
import Derived.Test.YtjkhkblabhaimaaAmBlind
import Derived.Test.YtjkhkblabhaimaaAmMemA
import Derived.Test.YtjkhkblabhaimaaAmFrz0
namespace Go.Proofs.Ytjkhkblabhaimaa.Am
set_option linter.unusedSimpArgs false
set_option linter.unusedVariables false
open Go
set_option linter.unusedVariables false

def chkOptOpd : Option Operand → Option Opd → Bool
  | none, none => true
  | some x, some y => chkOpd x y
  | _, _ => false

/-- A type's number of cells where it is a struct. -/
def aggOf (P : Program) (t : TypeId) (i : TypeInfo) : Option Nat := if isStr P t then some i.size else none

def fieldIs (P : Program) (t : TypeId) (f off : Nat) : Option TypeId :=
  match P.underlying t with
  | some (.struct fields) => match fields[f]? with
    | some fld => if fld.offset = off then some fld.type else none
    | none => none
  | _ => none

def sliceElem (P : Program) (t : TypeId) : Option (TypeId × TypeInfo) :=
  match P.underlying t with
  | some (.slice e) => match P.info? e with
    | some i => some (e, i)
    | none => none
  | _ => none

def opOf : BinOp → Option Bool
  | .eql => some false
  | .neq => some true
  | _ => none

def chkOp (P : Program) (o : Oper) : AOp → Bool
  | .mov _ x => match o.op with
    | .move y | .assign y => chkOpd y x
    | _ => false
  | .pick c x y => match o.op with
    | .pick c' x' y' => chkOpd c' c && chkOpd x' x && chkOpd y' y
    | _ => false
  | .alloc zs => match o.op with
    | .alloc t => match P.info? t with
      | some i => match i.zero with
        | some z => chkZero z zs
        | none => false
      | none => false
    | _ => false
  | .box x => match o.op with
    | .box _ y => chkOpd y x
    | _ => false
  | .build zs ps => match o.op with
    | .build t ps' => match P.info? t, placesOf P t with
      | some i, some places => match i.zero with
        | some z => chkZero z zs && chkParts (places.toArray[·]?) ps'.toList ps
        | none => false
      | _, _ => false
    | _ => false
  | .bsl .own k n zs ps => match o.op with
    | .buildSlice t n' ps' => match sliceElem P t with
      | some (e, i) => match i.zero with
        | some z => chkZero z zs && i.size == k && zs.length == k && n == n' && decide (n * k ≤ 16777216) && chkParts (fun j => some (j * k, k)) ps'.toList (ps.map fun p => (p.1 * k, k, p.2))
        | none => false
      | none => false
    | _ => false
  | .bsl .arr k n zs ps => match o.op with
    | .buildSlice t n' ps' => match sliceElem P t with
      | some (e, i) => match i.zero with
        | some z => chkZero z zs && i.size == k && zs.length == k && n == n' && decide (n * k ≤ 16777216) && chkParts (fun j => some (j * k, k)) ps'.toList (ps.map fun p => (p.1 * k, k, p.2))
        | none => false
      | none => false
    | _ => false
  | .bsl _ _ _ _ _ => false
  | .ld .cp n x => match o.op with
    | .load t y => match P.info? t with
      | some i => chkOpd y x && (P.underlying t).isSome && n == aggOf P t i
      | none => false
    | _ => false
  | .ld .own none x => match o.op with
    | .load t y => chkOpd y x && (P.underlying t).isSome && !isStr P t
    | _ => false
  | .ld .frz none x => match o.op with
    | .load t y => chkOpd y x && (P.underlying t).isSome && !isStr P t
    | _ => false
  | .ld _ _ _ => false
  | .st n a x => match o.op with
    | .store t a' x' => match P.info? t with
      | some i => chkOpd a' a && chkOpd x' x && i.size == n && o.dst.isNone
      | none => false
    | _ => false
  | .bin op x y => match o.op with
    | .binOp op' _ x' y' _ => decide (op = op') && chkOpd x' x && chkOpd y' y
    | _ => false
  | .eq neg kd ks x y => match o.op with
    | .binOp op t x' y' _ => opOf op == some neg && chkOpd x' x && chkOpd y' y && eqKind P t ks kd
    | _ => false
  | .un op x => match o.op with
    | .unOp op' _ x' => decide (op = op') && chkOpd x' x
    | _ => false
  | .conv k x => match o.op with
    | .convert src dst x' => chkOpd x' x && (P.underlying src).isSome && (match P.underlying dst with | some (.int k') => decide (k = k') | _ => false)
    | _ => false
  | .fa off x => match o.op with
    | .fieldAddr t x' f => chkOpd x' x && (match fieldIs P t f off with
      | some ft => match P.info? ft with
        | some i => i.size != 0
        | none => false
      | none => false)
    | _ => false
  | .fld off n x => match o.op with
    | .field t x' f => chkOpd x' x && (match fieldIs P t f off with
      | some ft => match P.info? ft with
        | some i => (P.underlying ft).isSome && n == aggOf P ft i
        | none => false
      | none => false)
    | _ => false
  | .ia k x i => match o.op with
    | .indexAddr t x' i' => chkOpd x' x && chkOpd i' i && (match sliceElem P t with
      | some (_, ti) => ti.size == k
      | none => false)
    | _ => false
  | .ixs x i => match o.op with
    | .index t x' i' => chkOpd x' x && chkOpd i' i && (match P.underlying t with | some .string => true | _ => false)
    | _ => false
  | .slc .cp k x lo hi => match o.op with
    | .slice t x' lo' hi' none => chkOpd x' x && chkOptOpd lo' lo && chkOptOpd hi' hi && (match sliceElem P t with
      | some (_, ti) => ti.size == k
      | none => false)
    | _ => false
  | .slc .own k x lo none => match o.op with
    | .slice t x' lo' none none => chkOpd x' x && chkOptOpd lo' lo && (match sliceElem P t with
      | some (_, ti) => ti.size == k
      | none => false)
    | _ => false
  | .slc _ _ _ _ _ => false
  | .slcs x lo hi => match o.op with
    | .slice t x' lo' hi' none => chkOpd x' x && chkOptOpd lo' lo && chkOptOpd hi' hi && (match P.underlying t with | some .string => true | _ => false)
    | _ => false
  | .mks .own k bytes zs n c => match o.op with
    | .makeSlice t n' c' => match sliceElem P t with
      | some (e, i) => match i.zero with
        | some z => chkZero z zs && i.size == k && i.bytes == bytes && chkOpd n' n && chkOpd c' c
        | none => false
      | none => false
    | _ => false
  | .mks .arr k bytes zs n c => match o.op with
    | .makeSlice t n' c' => match sliceElem P t with
      | some (e, i) => match i.zero with
        | some z => chkZero z zs && i.size == k && i.bytes == bytes && chkOpd n' n && chkOpd c' c
        | none => false
      | none => false
    | _ => false
  | .mks _ _ _ _ _ _ => false
  | .ext ix x => match o.op with
    | .extract x' ix' => chkOpd x' x && ix == ix'
    | _ => false
  | .len kd x => match o.op with
    | .call { callee := .builtin .len, args := xs, argTypes := ts } => match xs.toList, ts.toList with
      | [x'], [t] => chkOpd x' x && (match kd, P.underlying t with
        | 0, some (.slice _) => true
        | 1, some .string => true
        | 2, some (.map _ _) => true
        | _, _ => false)
      | _, _ => false
    | _ => false
  | .app k bytes x y => match o.op with
    | .call { callee := .builtin .append, args := xs, argTypes := ts } => match xs.toList, ts.toList with
      | [x', y'], [t, t2] => chkOpd x' x && chkOpd y' y && (match sliceElem P t, P.underlying t2 with
        | some (_, i), some (.slice _) => match i.zero with
          | some z => z.cells.size == i.size && i.size == k && i.bytes == bytes && i.bytes != 0
          | none => false
        | _, _ => false)
      | _, _ => false
    | _ => false
  | .appa k bytes x y => match o.op with
    | .call { callee := .builtin .append, args := xs, argTypes := ts } => match xs.toList, ts.toList with
      | [x', y'], [t, t2] => chkOpd x' x && chkOpd y' y && (match sliceElem P t, P.underlying t2 with
        | some (_, i), some (.slice _) => match i.zero with
          | some z => z.cells.size == i.size && i.size == k && i.bytes == bytes && i.bytes != 0
          | none => false
        | _, _ => false)
      | _, _ => false
    | _ => false
  | .cpy k x y => match o.op with
    | .call { callee := .builtin .copy, args := xs, argTypes := ts } => match xs.toList, ts.toList with
      | [x', y'], [t, t2] => chkOpd x' x && chkOpd y' y && (match sliceElem P t with
        | some (_, i) => i.size == k
        | none => false)
      | _, _ => false
    | _ => false
  | .mm mx x y => match o.op with
    | .call { callee := .builtin b, args := xs, .. } => match xs.toList with
      | [x', y'] => chkOpd x' x && chkOpd y' y && decide (b = bif mx then .max else .min)
      | _ => false
    | _ => false
  | .call f ys => match o.op with
    | .call { callee := .value (.func f'), args := xs, .. } => fnOf f == f' && chkOpds xs.toList ys && entered P (fnOf f)
    | _ => false
  | .callp f ys => match o.op with
    | .call { callee := .value (.func f'), args := xs, .. } => fnOf f == f' && chkOpds xs.toList ys && entered P (fnOf f)
    | _ => false
  | .callb f ys => match o.op with
    | .call { callee := .value (.func f'), args := xs, .. } => fnOf f == f' && chkOpds xs.toList ys && entered P (fnOf f)
    | _ => false
  | .bad => true
  | .callv x ys => match o.op with
    | .call { callee := .value x', args := xs, .. } => chkOpd x' x && chkOpds xs.toList ys
    | _ => false
  | .mkf f fst cap => match o.op with
    | .makeFunc (.func f') fst' cap' => fnOf f == f' && chkOpds fst'.toList fst && chkOpds cap'.toList cap
    | _ => false
  | .mkm => match o.op with
    | .makeMap _ none => true
    | _ => false
  | .lkp _ _ _ _ _ => false
  | .upd _ _ _ _ => false

section
variable {P : Program} {g g' : G} {w w' : World} {Pr : Nat → Prop} {s s' : St} {a : Act} {F : Oracle} {bd : Bd}

theorem chkOptOpd_ok {x : Option Operand} {y : Option Opd} (h : chkOptOpd x y = true) : (x = none ∧ y = none) ∨ ∃ u v, x = some u ∧ y = some v ∧ chkOpd u v = true := by
  unfold chkOptOpd at h
  split at h
  · exact .inl ⟨rfl, rfl⟩
  · exact .inr ⟨_, _, rfl, rfl, h⟩
  · cases h

theorem fieldIs_ok {t : TypeId} {f off : Nat} {ft : TypeId} (h : fieldIs P t f off = some ft) : ∃ (fields : Array Field) (fld : Field), P.underlying t = some (.struct fields) ∧ fields[f]? = some fld ∧ fld.offset = off ∧ fld.type = ft := by
  unfold fieldIs at h
  split at h
  · rename_i fields hu
    split at h
    · rename_i fld hf
      split at h
      · rename_i ho; cases h; exact ⟨fields, fld, hu, hf, ho, rfl⟩
      · cases h
    · cases h
  · cases h

theorem sliceElem_ok {t e : TypeId} {i : TypeInfo} (h : sliceElem P t = some (e, i)) : P.underlying t = some (.slice e) ∧ P.info? e = some i := by
  unfold sliceElem at h
  split at h
  · rename_i e' hu
    split at h
    · rename_i i' hi; cases h; exact ⟨hu, hi⟩
    · cases h
  · cases h

theorem chkOpds_get : ∀ {xs : List Operand} {ys : List Opd}, chkOpds xs ys = true → xs.length = ys.length ∧ ∀ (i : Nat) (x : Operand) (y : Opd), xs[i]? = some x → ys[i]? = some y → chkOpd x y = true
  | [], [], _ => ⟨rfl, by simp⟩
  | [], _ :: _, h => by simp [chkOpds] at h
  | _ :: _, [], h => by simp [chkOpds] at h
  | x :: xs, y :: ys, h => by
    simp only [chkOpds, Bool.and_eq_true] at h
    obtain ⟨h1, h2⟩ := chkOpds_get h.2
    refine ⟨by simp [h1], fun i u v hi hj => ?_⟩
    cases i with
    | zero => simp at hi hj; subst hi; subst hj; exact h.1
    | succ i => exact h2 i u v (by simpa using hi) (by simpa using hj)

theorem op_ok (hS : Sound P F) (hen : ∀ f args σ lo tr r, F f args σ lo tr = some r → entered P (fnOf f) = true) {o : Oper} {ao : AOp} {v : V} (hc : chkOp P o ao = true)
    (hv : stepOp F bd s ao = some (v, s')) (hI : Inv g w Pr s.σ) (hE : EnvOk g w Pr s.env a) (Q : Exit → Act → World → Prop) : o.wp P a w (Post o a g w Pr s' v) Q := by
  cases ao with
  | mov m x =>
    cases m with
    | cp =>
      simp only [chkOp] at hc
      simp only [stepOp] at hv
      cases hv
      split at hc
      · rename_i y ho; exact (ok_mov_cp o (.inl ho) hc hI hE).wp Q
      · rename_i y ho; exact (ok_mov_cp o (.inr ho) hc hI hE).wp Q
      · cases hc
    | own =>
      simp only [chkOp] at hc
      simp only [stepOp] at hv
      cases hv
      split at hc
      · rename_i y ho; exact (ok_mov_own o (.inl ho) hc hI hE).wp Q
      · rename_i y ho; exact (ok_mov_own o (.inr ho) hc hI hE).wp Q
      · cases hc
    | frz =>
      simp only [chkOp] at hc
      split at hc
      · rename_i y ho; exact (ok_mov_frz o (.inl ho) hc hv hI hE).wp Q
      · rename_i y ho; exact (ok_mov_frz o (.inr ho) hc hv hI hE).wp Q
      · cases hc
    | arr =>
      simp only [chkOp] at hc
      split at hc
      · rename_i y ho; exact (ok_mov_arr o (.inl ho) hc hv hI hE).wp Q
      · rename_i y ho; exact (ok_mov_arr o (.inr ho) hc hv hI hE).wp Q
      · cases hc
  | pick c x y =>
    simp only [chkOp] at hc
    split at hc
    · rename_i c' x' y' ho
      simp only [Bool.and_eq_true] at hc
      simp only [stepOp] at hv
      split at hv
      · rename_i t ht
        cases hv
        exact (ok_pick o ho hc.1.1 hc.1.2 hc.2 ht hI hE).wp Q
      · cases hv
    · cases hc
  | alloc zs =>
    simp only [chkOp] at hc
    split at hc
    case h_2 => cases hc
    rename_i t ho
    split at hc
    case h_2 => cases hc
    rename_i i hi
    split at hc
    case h_2 => cases hc
    rename_i z hz
    exact (ok_alloc o ho hi hz hc hv hI hE).wp Q
  | box x =>
    simp only [chkOp] at hc
    split at hc
    case h_2 => cases hc
    rename_i t y ho
    exact (ok_box o ho hc hv hI hE).wp Q
  | build zs ps =>
    simp only [chkOp] at hc
    split at hc
    case h_2 => cases hc
    rename_i t ps' ho
    split at hc
    case h_2 => cases hc
    rename_i i places hi hp
    split at hc
    case h_2 => cases hc
    rename_i z hz
    simp only [Bool.and_eq_true] at hc
    exact (ok_build o ho hi hz hc.1 hp hc.2 hv hI hE).wp Q
  | bsl m k n zs ps =>
    cases m with
    | own =>
      simp only [chkOp] at hc
      split at hc
      case h_2 => cases hc
      rename_i t n' ps' ho
      split at hc
      case h_2 => cases hc
      rename_i e i hel
      split at hc
      case h_2 => cases hc
      rename_i z hz
      simp only [Bool.and_eq_true, beq_iff_eq, decide_eq_true_eq] at hc
      obtain ⟨⟨⟨⟨⟨h1, h2⟩, h3⟩, h4⟩, h5⟩, h6⟩ := hc
      subst h4
      obtain ⟨e1, e2⟩ := sliceElem_ok hel
      exact (ok_bsl_own o ho e1 e2 hz h1 h2 h3 h5 h6 hv hI hE).wp Q
    | cp => simp [chkOp] at hc
    | frz => simp [chkOp] at hc
    | arr =>
      simp only [chkOp] at hc
      split at hc
      case h_2 => cases hc
      rename_i t n' ps' ho
      split at hc
      case h_2 => cases hc
      rename_i e i hel
      split at hc
      case h_2 => cases hc
      rename_i z hz
      simp only [Bool.and_eq_true, beq_iff_eq, decide_eq_true_eq] at hc
      obtain ⟨⟨⟨⟨⟨h1, h2⟩, h3⟩, h4⟩, h5⟩, h6⟩ := hc
      subst h4
      obtain ⟨e1, e2⟩ := sliceElem_ok hel
      exact (ok_bsl_arr o ho e1 e2 hz h1 h2 h3 h5 h6 hv hI hE).wp Q
  | ld m n x =>
    cases m with
    | cp =>
      simp only [chkOp] at hc
      split at hc
      case h_2 => cases hc
      rename_i t y ho
      split at hc
      case h_2 => cases hc
      rename_i i hi
      simp only [Bool.and_eq_true, beq_iff_eq] at hc
      exact (ok_ld_cp o ho hc.1.1 hc.1.2 hi hc.2 hv hI hE).wp Q
    | own =>
      cases n with
      | none =>
        simp only [chkOp] at hc
        split at hc
        case h_2 => cases hc
        rename_i t y ho
        simp only [Bool.and_eq_true, Bool.not_eq_true'] at hc
        exact (ok_ld_own o ho hc.1.1 hc.1.2 hc.2 hv hI hE).wp Q
      | some n => simp [chkOp] at hc
    | frz =>
      cases n with
      | none =>
        simp only [chkOp] at hc
        split at hc
        case h_2 => cases hc
        rename_i t y ho
        simp only [Bool.and_eq_true, Bool.not_eq_true'] at hc
        exact (ok_ld_frz o ho hc.1.1 hc.1.2 hc.2 hv hI hE).wp Q
      | some n => simp [chkOp] at hc
    | arr => simp [chkOp] at hc
  | st n x y =>
    simp only [chkOp] at hc
    split at hc
    case h_2 => cases hc
    rename_i t x' y' ho
    split at hc
    case h_2 => cases hc
    rename_i i hi
    simp only [Bool.and_eq_true, beq_iff_eq, Option.isNone_iff_eq_none] at hc
    exact (ok_st o ho hc.1.1.1 hc.1.1.2 hi hc.1.2 hc.2 hv hI hE).wp Q
  | bin op x y =>
    simp only [chkOp] at hc
    split at hc
    case h_2 => cases hc
    rename_i op' t x' y' t' ho
    simp only [Bool.and_eq_true, decide_eq_true_eq] at hc
    obtain ⟨⟨rfl, h1⟩, h2⟩ := hc
    exact (ok_bin o ho h1 h2 hv hI hE).wp Q
  | eq neg kd ks x y =>
    simp only [chkOp] at hc
    split at hc
    case h_2 => cases hc
    rename_i op t x' y' t' ho
    simp only [Bool.and_eq_true, beq_iff_eq] at hc
    obtain ⟨⟨⟨h1, h2⟩, h3⟩, h4⟩ := hc
    have hop : op = (bif neg then .neq else .eql) := by
      cases op <;> simp [opOf] at h1 <;> subst h1 <;> rfl
    rw [hop] at ho
    exact (ok_eq o ho h2 h3 h4 hv hI hE).wp Q
  | un op x =>
    simp only [chkOp] at hc
    split at hc
    case h_2 => cases hc
    rename_i op' t x' ho
    simp only [Bool.and_eq_true, decide_eq_true_eq] at hc
    obtain ⟨rfl, h1⟩ := hc
    simp only [stepOp] at hv
    split at hv
    · rename_i d hd; cases hv; exact (ok_un o ho h1 hd hI hE).wp Q
    · cases hv
  | conv k x =>
    simp only [chkOp] at hc
    split at hc
    case h_2 => cases hc
    rename_i src dst x' ho
    simp only [Bool.and_eq_true] at hc
    obtain ⟨⟨h1, h2⟩, h3⟩ := hc
    split at h3
    · rename_i k' hd
      have : k = k' := of_decide_eq_true h3
      subst this
      exact (ok_conv o ho h1 h2 hd hv hI hE).wp Q
    · cases h3
  | fa off x =>
    simp only [chkOp] at hc
    split at hc
    case h_2 => cases hc
    rename_i t x' f ho
    simp only [Bool.and_eq_true] at hc
    obtain ⟨h1, h2⟩ := hc
    split at h2
    case h_2 => cases h2
    rename_i ft hft
    split at h2
    case h_2 => cases h2
    rename_i i hi
    obtain ⟨fields, fld, f1, f2, f3, rfl⟩ := fieldIs_ok hft
    exact (ok_fa o ho h1 f1 f2 hi (by simpa using h2) f3 hv hI hE).wp Q
  | fld off n x =>
    simp only [chkOp] at hc
    split at hc
    case h_2 => cases hc
    rename_i t x' f ho
    simp only [Bool.and_eq_true] at hc
    obtain ⟨h1, h2⟩ := hc
    split at h2
    case h_2 => cases h2
    rename_i ft hft
    split at h2
    case h_2 => cases h2
    rename_i i hi
    simp only [Bool.and_eq_true, beq_iff_eq] at h2
    obtain ⟨fields, fld, f1, f2, f3, rfl⟩ := fieldIs_ok hft
    exact (ok_fld o ho h1 f1 f2 hi f3 h2.1 h2.2 hv hI hE).wp Q
  | ia k x i =>
    simp only [chkOp] at hc
    split at hc
    case h_2 => cases hc
    rename_i t x' i' ho
    simp only [Bool.and_eq_true] at hc
    obtain ⟨⟨h1, h2⟩, h3⟩ := hc
    split at h3
    case h_2 => cases h3
    rename_i e ti hel
    obtain ⟨e1, e2⟩ := sliceElem_ok hel
    exact (ok_ia o ho h1 h2 e1 e2 (by simpa using h3) hv hI hE).wp Q
  | ixs x i =>
    simp only [chkOp] at hc
    split at hc
    case h_2 => cases hc
    rename_i t x' i' ho
    simp only [Bool.and_eq_true] at hc
    obtain ⟨⟨h1, h2⟩, h3⟩ := hc
    split at h3
    · rename_i hu; exact (ok_ixs o ho h1 h2 hu hv hI hE).wp Q
    · cases h3
  | slc m k x lo hi =>
    cases m with
    | cp =>
      simp only [chkOp] at hc
      split at hc
      case h_2 => cases hc
      rename_i t x' lo' hi' ho
      simp only [Bool.and_eq_true] at hc
      obtain ⟨⟨⟨h1, h2⟩, h3⟩, h4⟩ := hc
      split at h4
      case h_2 => cases h4
      rename_i e ti hel
      obtain ⟨e1, e2⟩ := sliceElem_ok hel
      exact (ok_slc_cp o ho h1 (chkOptOpd_ok h2) (chkOptOpd_ok h3) e1 e2 (by simpa using h4) hv hI hE).wp Q
    | own =>
      cases hi with
      | none =>
        simp only [chkOp] at hc
        split at hc
        case h_2 => cases hc
        rename_i t x' lo' ho
        simp only [Bool.and_eq_true] at hc
        obtain ⟨⟨h1, h2⟩, h4⟩ := hc
        split at h4
        case h_2 => cases h4
        rename_i e ti hel
        obtain ⟨e1, e2⟩ := sliceElem_ok hel
        exact (ok_slc_own o ho h1 (chkOptOpd_ok h2) e1 e2 (by simpa using h4) hv hI hE).wp Q
      | some h => simp [chkOp] at hc
    | frz => simp [chkOp] at hc
    | arr => simp [chkOp] at hc
  | slcs x lo hi =>
    simp only [chkOp] at hc
    split at hc
    case h_2 => cases hc
    rename_i t x' lo' hi' ho
    simp only [Bool.and_eq_true] at hc
    obtain ⟨⟨⟨h1, h2⟩, h3⟩, h4⟩ := hc
    split at h4
    · rename_i hu; exact (ok_slcs o ho h1 (chkOptOpd_ok h2) (chkOptOpd_ok h3) hu hv hI hE).wp Q
    · cases h4
  | mks m k bytes zs n c =>
    cases m with
    | own =>
      simp only [chkOp] at hc
      split at hc
      case h_2 => cases hc
      rename_i t n' c' ho
      split at hc
      case h_2 => cases hc
      rename_i e i hel
      split at hc
      case h_2 => cases hc
      rename_i z hz
      simp only [Bool.and_eq_true, beq_iff_eq] at hc
      obtain ⟨⟨⟨⟨h1, h2⟩, h3⟩, h4⟩, h5⟩ := hc
      obtain ⟨e1, e2⟩ := sliceElem_ok hel
      exact (ok_mks_own o ho h4 h5 e1 e2 hz h1 h2 h3 hv hI hE).wp Q
    | cp => simp [chkOp] at hc
    | frz => simp [chkOp] at hc
    | arr =>
      simp only [chkOp] at hc
      split at hc
      case h_2 => cases hc
      rename_i t n' c' ho
      split at hc
      case h_2 => cases hc
      rename_i e i hel
      split at hc
      case h_2 => cases hc
      rename_i z hz
      simp only [Bool.and_eq_true, beq_iff_eq] at hc
      obtain ⟨⟨⟨⟨h1, h2⟩, h3⟩, h4⟩, h5⟩ := hc
      obtain ⟨e1, e2⟩ := sliceElem_ok hel
      exact (ok_mks_arr o ho h4 h5 e1 e2 hz h1 h2 h3 hv hI hE).wp Q
  | ext ix x =>
    simp only [chkOp] at hc
    split at hc
    case h_2 => cases hc
    rename_i x' ix' ho
    simp only [Bool.and_eq_true, beq_iff_eq] at hc
    obtain ⟨h1, rfl⟩ := hc
    exact (ok_ext o ho h1 hv hI hE).wp Q
  | len kd x =>
    simp only [chkOp] at hc
    split at hc
    case h_2 => cases hc
    rename_i xs ts ho
    split at hc
    case h_2 => cases hc
    rename_i x' t hxs hts
    obtain rfl : xs = #[x'] := by cases xs; simp_all
    obtain rfl : ts = #[t] := by cases ts; simp_all
    simp only [Bool.and_eq_true] at hc
    obtain ⟨h1, h2⟩ := hc
    split at h2
    · rename_i e hu; exact (ok_len0 o ho h1 hu hv hI hE).wp Q
    · rename_i hu; exact (ok_len1 o ho h1 hu hv hI hE).wp Q
    · rename_i k e hu; exact (ok_len2 o ho h1 hu hv hI hE).wp Q
    · cases h2
  | app k bytes x y =>
    simp only [chkOp] at hc
    split at hc
    case h_2 => cases hc
    rename_i xs ts ho
    split at hc
    case h_2 => cases hc
    rename_i x' y' t t2 hxs hts
    obtain rfl : xs = #[x', y'] := by cases xs; simp_all
    obtain rfl : ts = #[t, t2] := by cases ts; simp_all
    simp only [Bool.and_eq_true] at hc
    obtain ⟨⟨h1, h2⟩, h3⟩ := hc
    split at h3
    case h_2 => cases h3
    rename_i e i e2 hel hu2
    split at h3
    case h_2 => cases h3
    rename_i z hz
    simp only [Bool.and_eq_true, beq_iff_eq, bne_iff_ne, ne_eq] at h3
    obtain ⟨⟨⟨q1, q2⟩, q3⟩, q4⟩ := h3
    obtain ⟨e1, e2⟩ := sliceElem_ok hel
    exact (ok_app o ho h1 h2 e1 hu2 e2 hz q1 q2 q3 q4 hv hI hE).wp Q
  | appa k bytes x y =>
    simp only [chkOp] at hc
    split at hc
    case h_2 => cases hc
    rename_i xs ts ho
    split at hc
    case h_2 => cases hc
    rename_i x' y' t t2 hxs hts
    obtain rfl : xs = #[x', y'] := by cases xs; simp_all
    obtain rfl : ts = #[t, t2] := by cases ts; simp_all
    simp only [Bool.and_eq_true] at hc
    obtain ⟨⟨h1, h2⟩, h3⟩ := hc
    split at h3
    case h_2 => cases h3
    rename_i e i e2 hel hu2
    split at h3
    case h_2 => cases h3
    rename_i z hz
    simp only [Bool.and_eq_true, beq_iff_eq, bne_iff_ne, ne_eq] at h3
    obtain ⟨⟨⟨q1, q2⟩, q3⟩, q4⟩ := h3
    obtain ⟨e1, e2⟩ := sliceElem_ok hel
    exact (ok_appa o ho h1 h2 e1 hu2 e2 hz q1 q2 q3 q4 hv hI hE).wp Q
  | cpy k x y =>
    simp only [chkOp] at hc
    split at hc
    case h_2 => cases hc
    rename_i xs ts ho
    split at hc
    case h_2 => cases hc
    rename_i x' y' t t2 hxs hts
    obtain rfl : xs = #[x', y'] := by cases xs; simp_all
    obtain rfl : ts = #[t, t2] := by cases ts; simp_all
    simp only [Bool.and_eq_true] at hc
    obtain ⟨⟨h1, h2⟩, h3⟩ := hc
    split at h3
    case h_2 => cases h3
    rename_i e i hel
    simp only [beq_iff_eq] at h3
    obtain ⟨e1, e2⟩ := sliceElem_ok hel
    exact (ok_cpy o ho h1 h2 e1 e2 h3 hv hI hE).wp Q
  | mm mx x y =>
    simp only [chkOp] at hc
    split at hc
    case h_2 => cases hc
    rename_i b xs ts ho
    split at hc
    case h_2 => cases hc
    rename_i x' y' hxs
    obtain rfl : xs = #[x', y'] := by cases xs; simp_all
    simp only [Bool.and_eq_true, decide_eq_true_eq] at hc
    obtain ⟨⟨h1, h2⟩, rfl⟩ := hc
    exact (ok_mm o ho h1 h2 hv hI hE).wp Q
  | call f ys =>
    simp only [chkOp] at hc
    split at hc
    case h_2 => cases hc
    rename_i f' xs ts ho
    simp only [Bool.and_eq_true, beq_iff_eq] at hc
    obtain ⟨⟨rfl, h1⟩, h2⟩ := hc
    exact ok_call o (hS.1 f) ho h1 h2 hv hI hE Q
  | callp f ys =>
    simp only [chkOp] at hc
    split at hc
    case h_2 => cases hc
    rename_i f' xs ts ho
    simp only [Bool.and_eq_true, beq_iff_eq] at hc
    obtain ⟨⟨rfl, h1⟩, h2⟩ := hc
    simp only [stepOp] at hv
    split at hv
    case h_2 => cases hv
    rename_i v1 σ1 hF
    split at hv
    case isFalse => cases hv
    cases hv
    refine ok_call (bd := ⟨max bd.lo s.σ.length, max bd.tr s.σ.length⟩) o (hS.1 f) ho h1 h2 ?_ hI hE Q
    simp only [stepOp, hF]
  | callb f ys =>
    simp only [chkOp] at hc
    split at hc
    case h_2 => cases hc
    rename_i f' xs ts ho
    simp only [Bool.and_eq_true, beq_iff_eq] at hc
    obtain ⟨⟨rfl, h1⟩, h2⟩ := hc
    exact Oper.wp_mono (fun _ _ h => h.1) (ok_callb o (hS.1 f) ho h1 h2 hv hI hE Q)
  | bad => simp [stepOp] at hv
  | callv x ys =>
    simp only [chkOp] at hc
    split at hc
    case h_2 => cases hc
    rename_i x' xs ts ho
    simp only [Bool.and_eq_true] at hc
    exact ok_callv o hS hen ho hc.1 hc.2 hv hI hE Q
  | mkf f fst cap =>
    simp only [chkOp] at hc
    split at hc
    case h_2 => cases hc
    rename_i f' fst' cap' ho
    simp only [Bool.and_eq_true, beq_iff_eq] at hc
    obtain ⟨⟨rfl, h1⟩, h2⟩ := hc
    obtain ⟨a1, a2⟩ := chkOpds_get h1
    obtain ⟨b1, b2⟩ := chkOpds_get h2
    exact (ok_mkf o ho (by simpa using a1) (fun i x x' hi hj => a2 i x x' (by simpa using hi) hj) (by simpa using b1) (fun i x x' hi hj => b2 i x x' (by simpa using hi) hj) hv hI hE).wp Q
  | mkm =>
    simp only [chkOp] at hc
    split at hc
    case h_2 => cases hc
    rename_i t ho
    exact (ok_mkm o ho hv hI hE).wp Q
  | lkp => simp [chkOp] at hc
  | upd => simp [chkOp] at hc
end
end Go.Proofs.Ytjkhkblabhaimaa.Am
