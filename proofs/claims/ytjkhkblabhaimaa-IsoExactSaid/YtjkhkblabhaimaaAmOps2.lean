/- Operations that leave the model's memory alone: comparisons, addresses, parts. -/
import Derived.Test.YtjkhkblabhaimaaAmOps
import Derived.Laws.StructEq
import Derived.Laws.CopyRow
import Derived.Laws.Cells
import Derived.ChangeKeysEq
import Derived.Laws.NewFold
namespace Go.Proofs.Ytjkhkblabhaimaa.Am
set_option linter.unusedSimpArgs false
set_option linter.unusedVariables false
open Go

section
variable {P : Program} {g g' : G} {w w' : World} {Pr : Nat → Prop} {s s' : St} {a : Act} {F : Oracle} {bd : Bd}

theorem run_arith {op : BinOp} {t : TypeId} {k : IntKind} {x y : Int} {d : D} (h : arith op k x y = some d) :
    ∃ u, (binOp op t (.int k x) (.int k y)).run P w = .ok u w ∧ RepD (g.st w) d u := by
  cases op <;> simp only [arith, Option.some.injEq, reduceCtorEq] at h
  case add => subst h; exact ⟨_, by simp [binOp, Op.intArith], RepD.int _ _⟩
  case sub => subst h; exact ⟨_, by simp [binOp, Op.intArith], RepD.int _ _⟩
  case mul => subst h; exact ⟨_, by simp [binOp, Op.intArith], RepD.int _ _⟩
  case quo =>
    split at h
    · cases h
    · rename_i hy; cases h; exact ⟨_, by simp [binOp, Op.intDiv, hy], RepD.int _ _⟩
  case rem =>
    split at h
    · cases h
    · rename_i hy; cases h; exact ⟨_, by simp [binOp, Op.intDiv, hy], RepD.int _ _⟩
  case eql => subst h; exact ⟨_, by simp [binOp, Op.intCmp], RepD.bool _⟩
  case neq => subst h; exact ⟨_, by simp [binOp, Op.intCmp], RepD.bool _⟩
  case lss => subst h; exact ⟨_, by simp [binOp, Op.intCmp], RepD.bool _⟩
  case leq => subst h; exact ⟨_, by simp [binOp, Op.intCmp], RepD.bool _⟩
  case gtr => subst h; exact ⟨_, by simp [binOp, Op.intCmp], RepD.bool _⟩
  case geq => subst h; exact ⟨_, by simp [binOp, Op.intCmp], RepD.bool _⟩
  case and => subst h; exact ⟨_, by simp [binOp, Op.intBits], RepD.int _ _⟩
  case or => subst h; exact ⟨_, by simp [binOp, Op.intBits], RepD.int _ _⟩

theorem run_shift {op : BinOp} {t : TypeId} {k k' : IntKind} {x y : Int} {d : D} (h : shifted op k x y = some d) :
    ∃ u, (binOp op t (.int k x) (.int k' y)).run P w = .ok u w ∧ RepD (g.st w) d u := by
  cases op <;> simp only [shifted, Option.some.injEq, reduceCtorEq] at h
  case shl =>
    split at h
    · cases h
    · rename_i hy; cases h; exact ⟨_, by simp [binOp, Op.shift, hy], RepD.int _ _⟩
  case shr =>
    split at h
    · cases h
    · rename_i hy; cases h; exact ⟨_, by simp [binOp, Op.shift, hy], RepD.int _ _⟩

theorem run_strs {op : BinOp} {t : TypeId} {x y : ByteArray} {d : D} (h : strs op x y = some d) :
    ∃ u, (binOp op t (.string x) (.string y)).run P w = .ok u w ∧ RepD (g.st w) d u := by
  cases op <;> simp only [strs, Option.some.injEq, reduceCtorEq] at h
  case add =>
    split at h
    · cases h
    · rename_i hy; cases h; exact ⟨_, by simp only [binOp, Op.stringOp]; rw [if_neg hy]; rfl, RepD.str _⟩
  case eql => subst h; exact ⟨_, rfl, RepD.bool _⟩
  case neq => subst h; exact ⟨_, rfl, RepD.bool _⟩

theorem addr_add (b o n : Nat) : (⟨b, o, none⟩ : Addr).add n = ⟨b, o + n, none⟩ := by unfold Addr.add; split <;> simp_all
theorem addr_add' {x : Addr} (h : x.spot = none) (n : Nat) : x.add n = ⟨x.block, x.off + n, none⟩ := by obtain ⟨b, o, q⟩ := x; cases h; exact addr_add b o n

/-- The value of a part: a struct's cells, or the one cell. -/
def partV (agg : Bool) (cs : Array Value) : Value := if agg then .agg cs else cs.getD 0 undef

def isStr (P : Program) (t : TypeId) : Bool := match P.underlying t with | some (.struct _) | some (.array _ _) => true | _ => false

theorem run_isAgg {t : TypeId} (h : (P.underlying t).isSome = true) : (isAgg t).run P w = .ok (isStr P t) w := by
  obtain ⟨d, hd⟩ := Option.isSome_iff_exists.mp h
  simp only [isAgg, Sem.run_bind, run_underlying hd, Result.andThen_ok, isStr, hd]
  cases d <;> rfl

theorem run_fa {t : TypeId} {fields : Array Field} {f : Nat} {fld : Field} {i : TypeInfo} {b o : Nat} (hu : P.underlying t = some (.struct fields)) (hf : fields[f]? = some fld)
    (hi : P.info? fld.type = some i) (hs : i.size ≠ 0) : (Instr.fieldAt t (.pointer (some ⟨b, o, none⟩)) f).run P w = .ok (.pointer (some ⟨b, o + fld.offset, none⟩)) w := by
  simp [Instr.fieldAt, run_underlying hu, hf, Instr.sureAddr, fieldPlace, run_sizeOf w hi, Program.cellsOf, hi, hs, addr_add]

theorem ok_fa (o : Oper) {t : TypeId} {x : Operand} {x' : Opd} {f off : Nat} {fields : Array Field} {fld : Field} {i : TypeInfo} {v : V} (ho : o.op = .fieldAddr t x f) (hx : chkOpd x x' = true)
    (hu : P.underlying t = some (.struct fields)) (hf : fields[f]? = some fld) (hi : P.info? fld.type = some i) (hs : i.size ≠ 0) (hoff : fld.offset = off)
    (hv : stepOp F bd s (.fa off x') = some (v, s')) (hI : Inv g w Pr s.σ) (hE : EnvOk g w Pr s.env a) : OpOk P o a g w Pr s' v := by
  have h1 := opd_rd hE hx (.tmp 0)
  simp only [stepOp] at hv
  subst hoff
  split at hv
  · rename_i l p hr
    rw [hr] at h1
    obtain ⟨b, q, hl, h2⟩ := h1
    cases hv
    refine OpOk.pure (u := .pointer (some ⟨b, q + p + fld.offset, none⟩)) ?_ hI hE (fun r => ⟨b, q, hl, by rw [Nat.add_assoc]⟩)
    simp only [execOp, ho, h2, Sem.run_bind, run_fa hu hf hi hs]; rfl
  · rename_i row p hr
    rw [hr] at h1
    obtain ⟨b, q, vs, h2, h3⟩ := h1
    cases hv
    refine OpOk.pure (u := .pointer (some ⟨b, q + p + fld.offset, none⟩)) ?_ hI hE (fun r => ⟨b, q, vs, by rw [Nat.add_assoc], h3⟩)
    simp only [execOp, ho, h2, Sem.run_bind, run_fa hu hf hi hs]; rfl
  · cases hv

theorem ok_conv (o : Oper) {src dst : TypeId} {x : Operand} {x' : Opd} {k : IntKind} {v : V} (ho : o.op = .convert src dst x) (hx : chkOpd x x' = true)
    (hs : (P.underlying src).isSome = true) (hd : P.underlying dst = some (.int k)) (hv : stepOp F bd s (.conv k x') = some (v, s')) (hI : Inv g w Pr s.σ) (hE : EnvOk g w Pr s.env a) : OpOk P o a g w Pr s' v := by
  have h1 := opd_rd hE hx (.tmp 0)
  simp only [stepOp] at hv
  split at hv
  · rename_i k' n hr
    rw [hr] at h1
    have h2 := rep_int h1
    cases hv
    refine OpOk.pure (u := .int k (k.wrap n)) ?_ hI hE (fun r => RepD.int _ _)
    have hk : P.intKind dst = k := by simp [Program.intKind, hd]
    have := run_convert_int (P := P) w src dst k' n hs (by rw [hk]; exact hd)
    rw [hk] at this
    simp only [execOp, ho, h2, Sem.run_bind, this]; rfl
  · cases hv

theorem rows_get {rows : List (List D)} {u : Value} (h : RepD (g.st w) (.sl rows) u) {i : Nat} {row : List D} (hi : rows[i]? = some row) :
    ∃ a cap k, u = .slice (some a) rows.length cap ∧ a.spot = none ∧ rows.length ≤ cap ∧ row.length = k ∧ ∃ vs : Nat → Value, ∀ j d, row[j]? = some d → g.st w ⟨a.block, a.off + i * k + j, none⟩ (vs j) ∧ RepD (g.st w) d (vs j) := by
  cases h with
  | nil => simp at hi
  | sl rows a k cap vs h1 h2 h3 h4 h5 =>
    refine ⟨a, cap, k, rfl, h1 (by rintro rfl; simp at hi), h2, h3 _ (List.mem_of_getElem? hi), vs i, fun j d hj => ⟨h4 i row j d hi hj, h5 i row j d hi hj⟩⟩

theorem run_ia {t e : TypeId} {i : TypeInfo} {b o len cap n : Nat} {kk : IntKind} (hu : P.underlying t = some (.slice e)) (hi : P.info? e = some i) (hn : n < len) :
    (Instr.indexAt t (.slice (some ⟨b, o, none⟩) len cap) (.int kk n)).run P w = .ok (.pointer (some ⟨b, o + n * i.size, none⟩)) w := by
  simp [Instr.indexAt, asIntOf, run_underlying hu, run_sizeOf w hi, Program.cellsOf, hi, hn, addr_add]

theorem ok_ia (o : Oper) {t e : TypeId} {x y : Operand} {x' y' : Opd} {k : Nat} {i : TypeInfo} {v : V} (ho : o.op = .indexAddr t x y) (hx : chkOpd x x' = true) (hy : chkOpd y y' = true)
    (hu : P.underlying t = some (.slice e)) (hi : P.info? e = some i) (hk : i.size = k)
    (hv : stepOp F bd s (.ia k x' y') = some (v, s')) (hI : Inv g w Pr s.σ) (hE : EnvOk g w Pr s.env a) : OpOk P o a g w Pr s' v := by
  have h1 := opd_rd hE hx (.tmp 0)
  have h2 := opd_rd hE hy (.tmp 0)
  subst hk
  simp only [stepOp] at hv
  split at hv
  · rename_i n hn
    obtain ⟨kk, h3⟩ := intOf_ok h2 hn
    split at hv
    · rename_i h0
      obtain ⟨m, rfl⟩ : ∃ m : Nat, n = m := ⟨n.toNat, by omega⟩
      simp only [Int.toNat_natCast] at hv
      split at hv
      · rename_i rows hr
        rw [hr] at h1
        split at hv
        · rename_i row hrow
          split at hv
          · rename_i hlen
            cases hv
            obtain ⟨⟨ab, ao, sp⟩, cap, k', h4, h5, h6, h7, vs, h8⟩ := rows_get h1 hrow
            cases h5
            have hlt : m < rows.length := (List.getElem?_eq_some_iff.mp hrow).1
            refine OpOk.pure (u := .pointer (some ⟨ab, ao + m * i.size, none⟩)) ?_ hI hE (fun r => ?_)
            · simp only [execOp, ho, h4, h3, Sem.run_bind, run_ia hu hi hlt]; rfl
            · refine ⟨ab, ao + m * i.size, vs, rfl, fun j d hj => ?_⟩
              have := h8 j d hj
              rw [← h7, hlen] at this
              exact this
          · cases hv
        · cases hv
      · rename_i k' l off len hr
        rw [hr] at h1
        split at hv
        · rename_i hc
          obtain ⟨rfl, hlt⟩ := hc
          cases hv
          obtain ⟨b, q, cap, arr, ty, h4, h5, h6, h7, h8⟩ := h1
          have hlt' : m < len := by omega
          refine OpOk.pure (u := .pointer (some ⟨b, q + off + m * i.size, none⟩)) ?_ hI hE (fun r => ⟨b, q, h4, by rw [Nat.add_assoc]⟩)
          simp only [execOp, ho, h5, h3, Sem.run_bind, run_ia hu hi hlt']; rfl
        · cases hv
      · cases hv
    · cases hv
  · cases hv

theorem ok_ixs (o : Oper) {t : TypeId} {x y : Operand} {x' y' : Opd} {v : V} (ho : o.op = .index t x y) (hx : chkOpd x x' = true) (hy : chkOpd y y' = true)
    (hu : P.underlying t = some .string)
    (hv : stepOp F bd s (.ixs x' y') = some (v, s')) (hI : Inv g w Pr s.σ) (hE : EnvOk g w Pr s.env a) : OpOk P o a g w Pr s' v := by
  have h1 := opd_rd hE hx (.tmp 0)
  have h2 := opd_rd hE hy (.tmp 0)
  simp only [stepOp] at hv
  split at hv
  · rename_i str n hr hn
    rw [hr] at h1
    have h3 := rep_str h1
    obtain ⟨kk, h4⟩ := intOf_ok h2 hn
    split at hv
    · rename_i h0
      split at hv
      · rename_i b hb
        cases hv
        refine OpOk.pure (u := .int .u8 b.toNat) ?_ hI hE (fun r => RepD.int _ _)
        simp [execOp, ho, h3, h4, Instr.index, asIntOf, run_underlying hu, h0, hb]
      · cases hv
    · cases hv
  · cases hv

theorem ok_fld (o : Oper) {t : TypeId} {x : Operand} {x' : Opd} {f off : Nat} {n : Option Nat} {fields : Array Field} {fld : Field} {i : TypeInfo} {v : V} (ho : o.op = .field t x f) (hx : chkOpd x x' = true)
    (hu : P.underlying t = some (.struct fields)) (hf : fields[f]? = some fld) (hi : P.info? fld.type = some i) (hoff : fld.offset = off) (hd : (P.underlying fld.type).isSome = true)
    (hn : n = if isStr P fld.type then some i.size else none)
    (hv : stepOp F bd s (.fld off n x') = some (v, s')) (hI : Inv g w Pr s.σ) (hE : EnvOk g w Pr s.env a) : OpOk P o a g w Pr s' v := by
  have h1 := opd_rd hE hx (.tmp 0)
  subst hoff
  simp only [stepOp] at hv
  split at hv
  · rename_i cs hr
    rw [hr] at h1
    obtain ⟨arr, h2, h3, h4⟩ := h1
    have hdown : ∀ (j : Nat) c, cs[j]? = some c → ∃ u : Value, arr[j]? = some u ∧ u.oneCell' = true ∧ ∀ p, RepC g w Pr p c u := by
      intro j c hj
      obtain ⟨u, k1, k2, k3⟩ := h4 j c hj
      refine ⟨u, k1, k2, fun p => ?_⟩
      have : c.down = c := by
        have hs : s.rd x' = (s.raw x').down := rfl
        rw [hs] at hr
        cases hraw : s.raw x' with
        | c y => rw [hraw] at hr; cases y <;> cases hr
        | agg cs0 =>
          rw [hraw] at hr
          simp only [V.down, V.agg.injEq] at hr
          subst hr
          simp only [List.getElem?_map, Option.map_eq_some_iff] at hj
          obtain ⟨c0, _, rfl⟩ := hj
          cases c0 <;> rfl
        | tup vs => rw [hraw] at hr; cases hr
      rw [← this]
      exact RepC.down k3
    split at hv
    · split at hv
      · rename_i c hc
        cases hv
        obtain ⟨u, k1, k2, k3⟩ := hdown _ _ hc
        have hs : isStr P fld.type = false := by
          cases hb : isStr P fld.type
          · rfl
          · rw [hb] at hn; cases hn
        refine OpOk.pure (u := u) ?_ hI hE (fun r => k3 _)
        simp [execOp, ho, h2, Instr.field, run_underlying hu, hf, asAgg, part, run_isAgg hd, hs, k1]
      · cases hv
    · rename_i m
      split at hv
      · rename_i hle
        cases hv
        have hs : isStr P fld.type = true ∧ m = i.size := by
          cases hb : isStr P fld.type <;> rw [hb] at hn
          · cases hn
          · exact ⟨rfl, by injection hn⟩
        obtain ⟨hs, rfl⟩ := hs
        refine OpOk.pure (u := .agg (arr.extract fld.offset (fld.offset + i.size))) ?_ hI hE (fun r => ?_)
        · simp [execOp, ho, h2, Instr.field, run_underlying hu, hf, asAgg, part, run_isAgg hd, hs, run_sizeOf w hi, Program.cellsOf, hi]
        · refine ⟨_, rfl, by simp; omega, fun j c hj => ?_⟩
          rw [List.getElem?_take] at hj
          split at hj
          · rename_i hjm
            rw [List.getElem?_drop] at hj
            obtain ⟨u, k1, k2, k3⟩ := hdown _ _ hj
            refine ⟨u, ?_, k2, k3 _⟩
            rw [Array.getElem?_extract, if_pos (by have := (Array.getElem?_eq_some_iff.mp k1).1; omega)]
            exact k1
          · cases hj
      · cases hv
  · cases hv

theorem ok_mkf (o : Oper) {f : Nat} {xs ys : Array Operand} {xs' ys' : List Opd} {v : V} (ho : o.op = .makeFunc (.func (fnOf f)) xs ys)
    (hx : xs.size = xs'.length) (hx' : ∀ (i : Nat) (x : Operand) (x' : Opd), xs[i]? = some x → xs'[i]? = some x' → chkOpd x x' = true)
    (hy : ys.size = ys'.length) (hy' : ∀ (i : Nat) (x : Operand) (x' : Opd), ys[i]? = some x → ys'[i]? = some x' → chkOpd x x' = true)
    (hv : stepOp F bd s (.mkf f xs' ys') = some (v, s')) (hI : Inv g w Pr s.σ) (hE : EnvOk g w Pr s.env a) : OpOk P o a g w Pr s' v := by
  have key : ∀ (l : List Opd) (bs : List B), bsOf l s = some bs → bs.length = l.length ∧ ∀ (i : Nat) (b : B), bs[i]? = some b → ∃ x', l[i]? = some x' ∧ b ≠ .any ∧ s.rd x' = .c (.b b) := by
    intro l
    induction l with
    | nil => intro bs h; simp [bsOf] at h; subst h; simp
    | cons x l ih =>
      intro bs h
      simp only [bsOf] at h
      split at h
      · cases h
      · rename_i y zs hne hy hz
        cases h
        obtain ⟨h1, h2⟩ := ih _ hz
        refine ⟨by simp [h1], fun i b hi => ?_⟩
        cases i with
        | zero => simp at hi; subst hi; exact ⟨x, rfl, by rintro rfl; exact hne rfl, hy⟩
        | succ i => simpa using h2 i b (by simpa using hi)
      · cases h
  simp only [stepOp] at hv
  split at hv
  · rename_i as bs ha hb
    cases hv
    obtain ⟨a1, a2⟩ := key _ _ ha
    obtain ⟨b1, b2⟩ := key _ _ hb
    refine OpOk.pure (u := .func (.func (fnOf f)) (xs.map a.eval) (ys.map a.eval)) ?_ hI hE (fun r => ?_)
    · simp [execOp, ho, Instr.makeFunc]
    · refine ⟨_, _, rfl, by simp [hx, a1], by simp [hy, b1], fun i b hi => ?_, fun i b hi => ?_⟩
      · obtain ⟨x', e1, e2, e3⟩ := a2 i b hi
        have hlt : i < xs.size := by rw [hx]; exact (List.getElem?_eq_some_iff.mp e1).1
        refine ⟨a.eval xs[i], by simp [hlt], e2, ?_⟩
        have := opd_rd hE (hx' i xs[i] x' (by simp [hlt]) e1) (.tmp 0)
        rw [e3] at this
        exact this
      · obtain ⟨x', e1, e2, e3⟩ := b2 i b hi
        have hlt : i < ys.size := by rw [hy]; exact (List.getElem?_eq_some_iff.mp e1).1
        refine ⟨a.eval ys[i], by simp [hlt], e2, ?_⟩
        have := opd_rd hE (hy' i ys[i] x' (by simp [hlt]) e1) (.tmp 0)
        rw [e3] at this
        exact this
  · cases hv
end
end Go.Proofs.Ytjkhkblabhaimaa.Am
