/- Comparisons. -/
import Derived.Test.YtjkhkblabhaimaaAmOps4
namespace Go.Proofs.Ytjkhkblabhaimaa.Am
set_option linter.unusedSimpArgs false
set_option linter.unusedVariables false
open Go
set_option linter.unusedVariables false

section
variable {P : Program} {g g' : G} {w w' : World} {Pr : Nat → Prop} {s s' : St} {a : Act} {F : Oracle} {bd : Bd}

theorem run_eqGuard {op : BinOp} {t : TypeId} {x y : Operand} {u v : Value} (hu : ∀ c, u ≠ .agg c) (hn : u ≠ .nilIface) : (eqGuard op t x y u v).run P w = .ok () w := by
  unfold eqGuard
  cases op <;> simp
  all_goals (cases u <;> first | rfl | (exact absurd rfl (hu _)) | (exact absurd rfl hn))

theorem ok_bin (o : Oper) {op : BinOp} {t t' : TypeId} {x y : Operand} {x' y' : Opd} {v : V} (ho : o.op = .binOp op t x y t') (hx : chkOpd x x' = true) (hy : chkOpd y y' = true)
    (hv : stepOp F bd s (.bin op x' y') = some (v, s')) (hI : Inv g w Pr s.σ) (hE : EnvOk g w Pr s.env a) : OpOk P o a g w Pr s' v := by
  have h1 := opd_rd hE hx (.tmp 0)
  have h2 := opd_rd hE hy (.tmp 0)
  simp only [stepOp] at hv
  split at hv
  · rename_i d hd
    cases hv
    generalize s.rd x' = xv at *
    generalize s.rd y' = yv at *
    unfold binV at hd
    split at hd
    · rename_i k p k' q
      have e1 := rep_int h1
      have e2 := rep_int h2
      cases hsh : isShift op
      case true =>
        rw [hsh] at hd
        simp only [cond_true] at hd
        obtain ⟨u, r1, r2⟩ := run_shift (P := P) (w := w) (g := g) (t := t) (k' := k') hd
        refine OpOk.pure (u := u) ?_ hI hE (fun r => r2)
        simp only [execOp, ho, e1, e2, Sem.run_bind, run_eqGuard (u := Value.int _ p) (by simp) (by simp), Result.andThen_ok, r1]; rfl
      rw [hsh] at hd
      simp only [cond_false] at hd
      split at hd
      · subst_vars
        obtain ⟨u, r1, r2⟩ := run_arith (P := P) (w := w) (g := g) (t := t) hd
        refine OpOk.pure (u := u) ?_ hI hE (fun r => r2)
        simp only [execOp, ho, e1, e2, Sem.run_bind, run_eqGuard (u := Value.int _ p) (by simp) (by simp), Result.andThen_ok, r1]; rfl
      · cases hd
    · rename_i p q
      have e1 := rep_str h1
      have e2 := rep_str h2
      obtain ⟨u, r1, r2⟩ := run_strs (P := P) (w := w) (g := g) (t := t) hd
      refine OpOk.pure (u := u) ?_ hI hE (fun r => r2)
      simp only [execOp, ho, e1, e2, Sem.run_bind, run_eqGuard (u := Value.string p) (by simp) (by simp), Result.andThen_ok, r1]; rfl
    · cases hd
  · cases hv

def flatFs (P : Program) (F : TypeId → Option (List Nat)) : List Field → Nat → Option (List Nat)
  | [], _ => some []
  | f :: fs, off => if f.name ≠ "_" ∧ f.offset = off then match F f.type with
      | some ks => if ks.length = P.cellsOf f.type then match flatFs P F fs (off + ks.length) with
          | some ks' => some (ks ++ ks')
          | none => none
        else none
      | none => none
    else none

/-- The kinds of the cells of a type whose '==' is that of its cells. -/
def flatTy (P : Program) : Nat → TypeId → Option (List Nat)
  | 0, _ => none
  | n + 1, t => if (P.info? t).isSome then match P.underlying t with
      | some .bool => some [0]
      | some (.int _) => some [1]
      | some .string => some [2]
      | some (.struct fs) => if P.stoodInHeld t then none else flatFs P (flatTy P n) fs.toList 0
      | _ => none
    else none

theorem sames_cons {k : Nat} {ks : List Nat} {c d : C} {cs ds : List C} {r : Bool} (h : sames (k :: ks) (c :: cs) (d :: ds) = some r) :
    ∃ x y p q, c = .b (.d x) ∧ d = .b (.d y) ∧ D.same k x y = some p ∧ sames ks cs ds = some q ∧ r = (p && q) := by
  unfold sames at h
  split at h
  · simp_all
  · rename_i k' ks' x xs y ys h0 h1 h2
    cases h0; cases h1; cases h2
    split at h
    · rename_i p q hp hq
      cases h
      exact ⟨_, _, p, q, rfl, rfl, hp, hq, rfl⟩
    · cases h
  · cases h

theorem sames_len : ∀ {ks : List Nat} {cs ds : List C} {r : Bool}, sames ks cs ds = some r → cs.length = ks.length ∧ ds.length = ks.length
  | [], [], [], _, _ => ⟨rfl, rfl⟩
  | [], [], _ :: _, _, h => by simp [sames] at h
  | [], _ :: _, _, _, h => by simp [sames] at h
  | _ :: _, [], _, _, h => by simp [sames] at h
  | _ :: _, _ :: _, [], _, h => by simp [sames] at h
  | k :: ks, c :: cs, d :: ds, r, h => by
    obtain ⟨x, y, p, q, _, _, _, hq, _⟩ := sames_cons h
    have := sames_len hq
    simp [this]

theorem sames_split : ∀ {ks ks' : List Nat} {cs ds : List C} {r : Bool}, sames (ks ++ ks') cs ds = some r →
    ∃ p q, sames ks (cs.take ks.length) (ds.take ks.length) = some p ∧ sames ks' (cs.drop ks.length) (ds.drop ks.length) = some q ∧ r = (p && q)
  | [], ks', cs, ds, r, h => ⟨true, r, by simp [sames], by simpa using h, by simp⟩
  | k :: ks, ks', [], ds, r, h => by simp [sames] at h
  | k :: ks, ks', c :: cs, [], r, h => by simp [sames] at h
  | k :: ks, ks', c :: cs, d :: ds, r, h => by
    obtain ⟨x, y, p, q, rfl, rfl, hp, hq, rfl⟩ := sames_cons h
    obtain ⟨p', q', e1, e2, rfl⟩ := sames_split (ks := ks) hq
    exact ⟨p && p', q', by simp [sames, hp, e1], by simpa using e2, by rw [Bool.and_assoc]⟩

/-- The cells of an array, from a place on, are those of the list. -/
def Vals (g : G) (w : World) (cs : List C) (arr : Array Value) (off : Nat) : Prop := ∀ (i : Nat) (x : D), cs[i]? = some (.b (.d x)) → ∃ u, arr[off + i]? = some u ∧ RepD (g.st w) x u

/-- A type's value among an array's cells. -/
def partOf (P : Program) (t : TypeId) (arr : Array Value) (off : Nat) : Value := if isStr P t then .agg (arr.extract off (off + P.cellsOf t)) else arr.getD off undef

theorem run_same {d : Nat} {t : TypeId} {k : Nat} {x y : D} {u v : Value} {p : Bool} (h : D.same k x y = some p) (hu : RepD (g.st w) x u) (hv : RepD (g.st w) y v)
    (h0 : k = 0 → P.underlying t = some .bool) (h1 : k = 1 → ∃ k, P.underlying t = some (.int k)) (h2 : k = 2 → P.underlying t = some .string) : (Op.equalIn (d + 1) t u v).run P w = .ok p w := by
  unfold D.same at h
  split at h
  · cases hu; cases hv; cases h; exact run_equalIn_bool' w d t _ _ (h0 rfl)
  · cases hu; cases hv
    split at h
    · subst_vars; cases h
      obtain ⟨k, hk⟩ := h1 rfl
      exact run_equalIn_int w d t _ k _ _ hk
    · cases h
  · cases hu; cases hv; cases h; exact run_equalIn_string w d t _ _ (h2 rfl)
  · cases h

theorem vals_take {cs : List C} {arr : Array Value} {off n : Nat} (h : Vals g w cs arr off) : Vals g w (cs.take n) arr off := by
  intro i x hi
  rw [List.getElem?_take] at hi
  split at hi
  · exact h i x hi
  · cases hi
theorem vals_drop {cs : List C} {arr : Array Value} {off n : Nat} (h : Vals g w cs arr off) : Vals g w (cs.drop n) arr (off + n) := by
  intro i x hi
  rw [List.getElem?_drop] at hi
  obtain ⟨u, h1, h2⟩ := h _ x hi
  exact ⟨u, by rw [Nat.add_assoc]; exact h1, h2⟩
theorem vals_extract {cs : List C} {arr : Array Value} {off n : Nat} (h : Vals g w cs arr off) (hn : cs.length ≤ n) : Vals g w cs (arr.extract off (off + n)) 0 := by
  intro i x hi
  obtain ⟨u, h1, h2⟩ := h _ x hi
  have hlt := (List.getElem?_eq_some_iff.mp hi).1
  have hlt2 := (Array.getElem?_eq_some_iff.mp h1).1
  refine ⟨u, ?_, h2⟩
  rw [Array.getElem?_extract, if_pos (by omega)]
  simpa using h1

theorem run_part {t : TypeId} {i : TypeInfo} {arr : Array Value} {off : Nat} (hd : (P.underlying t).isSome = true) (hi : P.info? t = some i) (h : isStr P t = false → off < arr.size) :
    (part t arr off).run P w = .ok (partOf P t arr off) w := by
  cases hs : isStr P t
  · have := h hs
    simp [part, run_isAgg hd, hs, partOf, this, Array.getD_eq_getD_getElem?]
  · simp [part, run_isAgg hd, hs, partOf, run_sizeOf w hi]

theorem flat_scalar {n : Nat} {t : TypeId} {ks : List Nat} (h : flatTy P n t = some ks) (hs : isStr P t = false) : ∃ k, ks = [k] ∧ (k = 0 → P.underlying t = some .bool) ∧ (k = 1 → ∃ k, P.underlying t = some (.int k)) ∧ (k = 2 → P.underlying t = some .string) := by
  cases n with
  | zero => simp [flatTy] at h
  | succ n =>
    simp only [flatTy] at h
    split at h
    · split at h
      · rename_i hu; cases h; exact ⟨0, rfl, fun _ => hu, by simp, by simp⟩
      · rename_i k hu; cases h; exact ⟨1, rfl, by simp, fun _ => ⟨k, hu⟩, by simp⟩
      · rename_i hu; cases h; exact ⟨2, rfl, by simp, by simp, fun _ => hu⟩
      · rename_i fs hu; simp [isStr, hu] at hs
      · cases h
    · cases h

theorem flat_info {n : Nat} {t : TypeId} {ks : List Nat} (h : flatTy P n t = some ks) : ∃ i, P.info? t = some i ∧ (P.underlying t).isSome = true := by
  cases n with
  | zero => simp [flatTy] at h
  | succ n =>
    simp only [flatTy] at h
    split at h
    · rename_i hi
      obtain ⟨i, hi⟩ := Option.isSome_iff_exists.mp hi
      refine ⟨i, hi, ?_⟩
      cases hu : P.underlying t with
      | none => simp [hu] at h
      | some d => rfl
    · cases h

theorem run_flat : ∀ (n : Nat) (t : TypeId) (ks : List Nat), flatTy P n t = some ks → ∀ d, n ≤ d → ∀ (cs ds : List C) (xs ys : Array Value) (r : Bool) (ox oy : Nat), sames ks cs ds = some r →
    Vals g w cs xs ox → Vals g w ds ys oy → (isStr P t = true → ks.length = P.cellsOf t) → (Op.equalIn d t (partOf P t xs ox) (partOf P t ys oy)).run P w = .ok r w
  | 0, _, _, h, _, _ => by simp [flatTy] at h
  | n + 1, t, ks, h, d, hd => by
    intro cs ds xs ys r ox oy hr hx hy hsz
    obtain ⟨d, rfl⟩ : ∃ e, d = e + 1 := ⟨d - 1, by omega⟩
    cases hs : isStr P t
    · obtain ⟨k, rfl, h0, h1, h2⟩ := flat_scalar h hs
      obtain ⟨l1, l2⟩ := sames_len hr
      obtain ⟨c, rfl⟩ := List.length_eq_one_iff.mp l1
      obtain ⟨c', rfl⟩ := List.length_eq_one_iff.mp l2
      obtain ⟨x, y, p, q, rfl, rfl, hp, hq, rfl⟩ := sames_cons hr
      simp only [sames, Option.some.injEq] at hq
      subst hq
      obtain ⟨u, e1, e2⟩ := hx 0 x rfl
      obtain ⟨v, e3, e4⟩ := hy 0 y rfl
      have e5 : xs.getD ox undef = u := by simp at e1; simp [Array.getD_eq_getD_getElem?, e1]
      have e6 : ys.getD oy undef = v := by simp at e3; simp [Array.getD_eq_getD_getElem?, e3]
      simp only [partOf, hs, Bool.false_eq_true, if_false, e5, e6, Bool.and_true]
      exact run_same hp e2 e4 h0 h1 h2
    · have hsz' := hsz hs
      simp only [partOf, hs, if_true]
      simp only [flatTy] at h
      split at h
      case isFalse => cases h
      rename_i hinf
      split at h
      · rename_i hu; simp [isStr, hu] at hs
      · rename_i hu; simp [isStr, hu] at hs
      · rename_i hu; simp [isStr, hu] at hs
      · rename_i fs hu
        split at h
        · cases h
        · rename_i hst
          have hf : P.fieldsOf t = fs := by simp [Program.fieldsOf, hu]
          rw [run_equalIn_struct (P := P) w d t _ _ (by rw [hf]; exact hu) (by simpa using hst), hf]
          obtain ⟨l1, l2⟩ := sames_len hr
          have hx' := vals_extract (n := P.cellsOf t) hx (by omega)
          have hy' := vals_extract (n := P.cellsOf t) hy (by omega)
          generalize xs.extract ox (ox + P.cellsOf t) = xs' at hx'
          generalize ys.extract oy (oy + P.cellsOf t) = ys' at hy'
          clear hx hy hsz hsz' l1 l2 hs hst hf hu hinf
          generalize fs.toList = fl at h
          generalize 0 = off at h hx' hy'
          induction fl generalizing ks cs ds r off with
          | nil =>
            simp only [flatFs, Option.some.injEq] at h
            subst h
            have := sames_len hr
            obtain ⟨rfl, rfl⟩ : cs = [] ∧ ds = [] := ⟨List.length_eq_zero_iff.mp this.1, List.length_eq_zero_iff.mp this.2⟩
            simp only [sames, Option.some.injEq] at hr
            subst hr
            simp [Op.eqFields]
          | cons f fl ih =>
            simp only [flatFs] at h
            split at h
            case isFalse => cases h
            rename_i hn
            obtain ⟨hn, rfl⟩ := hn
            split at h
            case h_2 => cases h
            rename_i k1 hk1
            split at h
            case isFalse => cases h
            rename_i hlen
            split at h
            case h_2 => cases h
            rename_i k2 hk2
            cases h
            obtain ⟨p, q, s1, s2, rfl⟩ := sames_split hr
            obtain ⟨i, hi, hd'⟩ := flat_info hk1
            have key : ∀ (zs : List C) (arr : Array Value) (hz : Vals g w zs arr f.offset) (hl : ∀ x, zs[0]? = some x → ∃ y, x = .b (.d y)), zs.length = (k1 ++ k2).length → isStr P f.type = false → f.offset < arr.size := by
              intro zs arr hz hl hlz hss
              obtain ⟨k, rfl, _⟩ := flat_scalar hk1 hss
              cases zs with
              | nil => simp at hlz
              | cons z zs =>
                obtain ⟨y, rfl⟩ := hl z rfl
                obtain ⟨u, e1, _⟩ := hz 0 y rfl
                exact (Array.getElem?_eq_some_iff.mp e1).1
            have hlens := sames_len hr
            have hfst : ∀ (x : C), (cs[0]? = some x ∨ ds[0]? = some x) → isStr P f.type = false → ∃ y, x = .b (.d y) := by
              intro x hx hss
              obtain ⟨k, rfl, _⟩ := flat_scalar hk1 hss
              cases cs with
              | nil => simp at hlens
              | cons c cs =>
                cases ds with
                | nil => simp at hlens
                | cons d ds =>
                  obtain ⟨x', y', _, _, rfl, rfl, _⟩ := sames_cons hr
                  rcases hx with hx | hx
                  · simp at hx; exact ⟨_, hx.symm⟩
                  · simp at hx; exact ⟨_, hx.symm⟩
            have p1 := run_part (P := P) (w := w) (arr := xs') (off := f.offset) hd' hi (fun hss => key cs xs' hx' (fun x hx => hfst x (.inl hx) hss) hlens.1 hss)
            have p2 := run_part (P := P) (w := w) (arr := ys') (off := f.offset) hd' hi (fun hss => key ds ys' hy' (fun x hx => hfst x (.inr hx) hss) hlens.2 hss)
            have p3 := run_flat n f.type k1 hk1 d (by omega) _ _ xs' ys' p f.offset f.offset s1 (vals_take hx') (vals_take hy') (fun _ => hlen)
            simp only [Op.eqFields, if_pos hn, Sem.run_bind, p1, p2, p3, Result.andThen_ok]
            cases p
            · simp
            · have := ih k2 _ _ q s2 _ hk2 (vals_drop hx') (vals_drop hy')
              simpa using this
      · cases h
end
end Go.Proofs.Ytjkhkblabhaimaa.Am
