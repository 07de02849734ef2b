/- Literals of rows, make, append, the rest of a growing row. -/
import Derived.Test.YtjkhkblabhaimaaAmMem5
namespace Go.Proofs.Ytjkhkblabhaimaa.Am
set_option linter.unusedSimpArgs false
set_option linter.unusedVariables false
open Go
set_option linter.unusedVariables false

section
variable {P : Program} {g g' : G} {w w' : World} {Pr : Nat → Prop} {s s' : St} {a : Act} {F : Oracle} {bd : Bd}

theorem RepD.slice {rows : List (List D)} {bs : Option Addr} {cap k l h : Nat} (hr : RepD (g.st w) (.sl rows) (.slice bs rows.length cap)) (hk : ∀ r ∈ rows, r.length = k) (h1 : l ≤ h) (h2 : h ≤ rows.length) :
    RepD (g.st w) (.sl ((rows.take h).drop l)) (.slice (if cap = l then bs else bs.map (·.add (l * k))) (h - l) (cap - l)) := by
  have hlen : ((rows.take h).drop l).length = h - l := by simp; omega
  generalize hx : Value.slice bs rows.length cap = u at hr
  cases hr with
  | nil =>
    cases hx
    have hlh : l = 0 ∧ h = 0 := by simp at h2; omega
    obtain ⟨rfl, rfl⟩ := hlh
    exact RepD.nil
  | sl _ ad k0 cap' vs q1 q2 q3 q4 q5 =>
    cases hx
    have hk0 : rows ≠ [] → k0 = k := by
      intro hne
      obtain ⟨r0, hr0⟩ := List.exists_mem_of_ne_nil _ hne
      rw [← q3 _ hr0, hk _ hr0]
    by_cases hcl : cap = l
    · rw [if_pos hcl, ← hlen]
      have hem : (rows.take h).drop l = [] := by apply List.drop_eq_nil_of_le; simp; omega
      rw [hem]
      exact RepD.sl [] ad 0 _ (fun _ _ => undef) (by simp) (by simp) (by simp) (by simp) (by simp)
    · rw [if_neg hcl, ← hlen]
      have hsub : ∀ (r' : Nat) row, ((rows.take h).drop l)[r']? = some row → rows[r' + l]? = some row := by
        intro r' row hr'
        rw [List.getElem?_drop, List.getElem?_take] at hr'
        split at hr'
        · rw [Nat.add_comm]; exact hr'
        · cases hr'
      refine RepD.sl _ (ad.add (l * k)) k _ (fun a b => vs (a + l) b) ?_ (by rw [hlen]; omega) (fun r hr => hk _ (List.mem_of_mem_take (List.mem_of_mem_drop hr))) ?_ ?_
      · intro hne
        have : rows ≠ [] := by rintro rfl; simp at hne
        rw [addr_add' (q1 this)]
      · intro r' row j d hr' hj
        have hr2 := hsub _ _ hr'
        have hne : rows ≠ [] := by rintro rfl; simp at hr2
        have := q4 _ _ _ _ hr2 hj
        rw [hk0 hne] at this
        rw [addr_add' (q1 hne)]
        have e2 : ad.off + (r' + l) * k + j = ad.off + l * k + r' * k + j := by rw [Nat.add_mul]; omega
        rw [e2] at this
        exact this
      · intro r' row j d hr' hj
        exact q5 _ _ _ _ (hsub _ _ hr') hj

theorem raw_osl_rd {x : Opd} {k : Nat} {rows : List (List D)} (h : s.raw x = .c (.osl k rows)) : s.rd x = .c (.b (.d (.sl rows))) := by
  simp [St.rd, h, V.down, C.down]

theorem ok_slc_own (o : Oper) {t e : TypeId} {x : Operand} {x' : Opd} {lo : Option Operand} {lo' : Option Opd} {k : Nat} {i : TypeInfo} {v : V} (ho : o.op = .slice t x lo none none) (hx : chkOpd x x' = true)
    (hlo : (lo = none ∧ lo' = none) ∨ ∃ x x', lo = some x ∧ lo' = some x' ∧ chkOpd x x' = true)
    (hu : P.underlying t = some (.slice e)) (hi0 : P.info? e = some i) (hk : i.size = k)
    (hv : stepOp F bd s (.slc .own k x' lo' none) = some (v, s')) (hI : Inv g w Pr s.σ) (hE : EnvOk g w Pr s.env a) : OpOk P o a g w Pr s' v := by
  subst hk
  simp only [stepOp] at hv
  split at hv
  case h_2 => cases hv
  rename_i l el
  split at hv
  case isFalse => cases hv
  rename_i h0
  obtain ⟨l, rfl⟩ : ∃ m : Nat, l = m := ⟨l.toNat, by omega⟩
  split at hv
  case h_2 => cases hv
  rename_i k' rows hnone hraw
  split at hv
  case isFalse => cases hv
  rename_i hc
  obtain ⟨rfl, hc⟩ := hc
  simp only [Option.some.injEq, Prod.mk.injEq] at hv
  obtain ⟨rfl, rfl⟩ := hv
  obtain ⟨g', x1, x2, x3, x4, x5⟩ := take_ok hI hE hx (o.dst.getD 0)
  rw [hraw] at x5
  obtain ⟨r1, r2, r3⟩ := x5
  have hshape : ∃ bs cap, a.eval x = .slice bs rows.length cap ∧ rows.length ≤ cap := by
    generalize a.eval x = u at r1
    cases r1 with
    | nil => exact ⟨none, 0, rfl, by simp⟩
    | sl _ ad k cap vs q1 q2 => exact ⟨some ad, cap, rfl, q2⟩
  obtain ⟨bs, cap, he, hcap⟩ := hshape
  have hb := run_bounds (P := P) (isSlice := true) (hi := none) (hi' := none) (len := rows.length) (cap := cap) hE hlo (.inl ⟨rfl, rfl⟩) el rfl h0 (by omega) (by omega) hcap
  simp only [Int.toNat_natCast] at hb
  have hrun := run_slice (bs := bs) hu hi0 hb
  rw [he] at r1 r3
  have hrep := RepD.slice (l := l) (h := rows.length) r1 r2 (by omega) (Nat.le_refl _)
  simp only [List.take_length] at hrep
  refine ⟨.slice (if cap = l then bs else bs.map (·.add (l * i.size))) (rows.length - l) (cap - l), w, g', fun _ _ _ => rfl, .inl ?_, x1, x2, ?_, x4, fun d hd => ?_⟩
  · simp only [execOp, ho, he, Option.map_none, Sem.run_bind]
    simp only [Option.map_none] at hrun
    rw [hrun]; rfl
  · cases x' <;> exact x3
  · rw [hd] at r3
    rw [repV_c]
    simp only [Int.toNat_natCast]
    have hlen : (rows.drop l).length = rows.length - l := by simp
    refine ⟨hrep, fun r hr => r2 r (List.mem_of_mem_drop hr), ?_⟩
    rcases r3 with h3 | ⟨ad, cap', h3, h4⟩
    · obtain ⟨rfl, e5, rfl⟩ : bs = none ∧ rows.length = 0 ∧ cap = 0 := by simpa using h3
      have : l = 0 := by omega
      subst this
      exact .inl (by simp [List.length_eq_zero_iff.mp e5])
    · obtain ⟨rfl, rfl⟩ : bs = some ad ∧ cap = cap' := by simpa using h3
      right
      by_cases hcl : cap = l
      · rw [if_pos hcl, hlen]
        exact ⟨ad, cap - l, rfl, .inl (by omega)⟩
      · rw [if_neg hcl, hlen]
        refine ⟨ad.add (l * i.size), cap - l, rfl, ?_⟩
        rcases h4 with h4 | ⟨q1, q2, q3, q4, q5, arr, ty, q6, q7⟩
        · exact .inl (by omega)
        · right
          rw [addr_add' q1]
          have em : (rows.length - l) * i.size + l * i.size = rows.length * i.size := by rw [← Nat.add_mul]; congr 1; omega
          have em2 : (cap - l) * i.size + l * i.size = cap * i.size := by rw [← Nat.add_mul]; congr 1; omega
          refine ⟨rfl, by omega, ?_, q4, q5, arr, ty, q6, ?_⟩
          · show g'.kind ad.block = _
            rw [q3]
            congr 1
            show ad.off + rows.length * i.size = ad.off + l * i.size + (rows.length - l) * i.size
            omega
          · show ad.off + l * i.size + (cap - l) * i.size ≤ arr.size
            omega

theorem ok_bsl_own (o : Oper) {t e : TypeId} {n k : Nat} {ps : Array (Nat × Operand)} {ps' : List (Nat × Opd)} {zs : List C} {i : TypeInfo} {z : Value} {v : V} (ho : o.op = .buildSlice t n ps)
    (hu : P.underlying t = some (.slice e)) (hi : P.info? e = some i) (hz : i.zero = some z) (hc : chkZero z zs = true) (hk : i.size = k) (hzk : zs.length = k) (hb : n * k ≤ 16777216)
    (hps : chkParts (fun j => some (j * k, k)) ps.toList (ps'.map fun p => (p.1 * k, k, p.2)) = true)
    (hv : stepOp F bd s (.bsl .own k n zs ps') = some (v, s')) (hI : Inv g w Pr s.σ) (hE : EnvOk g w Pr s.env a) : OpOk P o a g w Pr s' v := by
  subst hk
  simp only [stepOp] at hv
  split at hv
  case h_2 => cases hv
  rename_i cs hcs
  split at hv
  case h_2 => cases hv
  rename_i rows hrows
  cases hv
  have hz0 := rep_arr (g := g) (w := w) (Pr := Pr) hc n
  rw [hzk] at hz0
  obtain ⟨arr, e1, e2⟩ := fill_ok hE hps hcs hz0
  have e1' : Instr.fill (fun j => some (j * i.size, i.size)) ((Array.range (n * i.size)).map (z.cells[· % z.cells.size]!)) (ps.map fun (j, x) => (j, a.eval x)).toList = some arr := by simpa using e1
  have hzs : z.cells.size = i.size := by rw [(chkZero_ok (g := g) (w := w) (Pr := Pr) hc).1, hzk]
  have hrun := run_bsl (P := P) (w := w) hu hi hz hb hzs e1'
  obtain ⟨r1, r2, r3⟩ := chunk_get hrows
  have hcsl : arr.size = cs.length := e2.1
  have hlen : cs.length = n * i.size := by
    have : ∀ (ps : List (Nat × Nat × Opd)) (zs cs : List C), partsIn s ps zs = some cs → cs.length = zs.length := by
      intro ps
      induction ps with
      | nil => intro zs cs h; simp [partsIn] at h; subst h; rfl
      | cons p ps ih =>
        intro zs cs h
        obtain ⟨off, m, x⟩ := p
        simp only [partsIn] at h
        split at h
        case h_2 => cases h
        split at h
        case isFalse => cases h
        split at h
        case h_2 => cases h
        rename_i hz
        rw [ih _ _ h, (putAt_get hz).1]
    rw [this _ _ _ hcs, rep_length, hzk]
  refine OpOk.newRow (arr := arr) (ty := e) (cap := n) hI hE ?_ r2 (rows_of_arr hrows e2) (by omega) (by omega)
  simp only [execOp, ho, Sem.run_bind, hrun, Result.andThen_ok, r1]; rfl

theorem wrap_i64 {n : Int} (h0 : 0 ≤ n) (h1 : n ≤ 140737488355328) : IntKind.i64.wrap n = n := by
  simp [IntKind.wrap, IntKind.bits, IntKind.signed]
  omega

theorem run_mks {t e : TypeId} {i : TypeInfo} {z : Value} {n c : Nat} {k1 k2 : IntKind} (hu : P.underlying t = some (.slice e)) (hi : P.info? e = some i) (hz : i.zero = some z) (hzs : z.cells.size = i.size)
    (h1 : n ≤ c) (h2 : (c : Int) * i.bytes ≤ 140737488355328) (h3 : c ≤ 140737488355328) :
    (Instr.makeSlice t (.int k1 n) (.int k2 c)).run P w = .ok (.slice (some ⟨w.heap.size, 0, none⟩) n c) (w.alloc (.cells ((Array.range (c * i.size)).map (z.cells[· % z.cells.size]!)) e)) := by
  have e1 : IntKind.i64.wrap (n : Int) = n := wrap_i64 (by omega) (by omega)
  have e2 : IntKind.i64.wrap (c : Int) = c := wrap_i64 (by omega) (by omega)
  have e3 : ¬ ((281474976710656 : Int) < i.bytes * c) := by rw [Int.mul_comm]; omega
  by_cases h0 : c * i.size = 0
  · have hr0 : Array.range 0 = #[] := rfl
    simp [Instr.makeSlice, run_underlying hu, asInt, asIntOf, typeInfo, hi, e1, e2, e3, run_sizeOf w hi, Program.cellsOf, h0, newRow, hr0]
    omega
  · simp [Instr.makeSlice, run_underlying hu, asInt, asIntOf, typeInfo, hi, e1, e2, e3, run_sizeOf w hi, Program.cellsOf, h0, newRow, zeroValue, hz]
    omega

theorem ok_mks_own (o : Oper) {t e : TypeId} {k bytes : Nat} {x y : Operand} {x' y' : Opd} {zs : List C} {i : TypeInfo} {z : Value} {v : V} (ho : o.op = .makeSlice t x y) (hx : chkOpd x x' = true) (hy : chkOpd y y' = true)
    (hu : P.underlying t = some (.slice e)) (hi : P.info? e = some i) (hz : i.zero = some z) (hc : chkZero z zs = true) (hk : i.size = k) (hby : i.bytes = bytes)
    (hv : stepOp F bd s (.mks .own k bytes zs x' y') = some (v, s')) (hI : Inv g w Pr s.σ) (hE : EnvOk g w Pr s.env a) : OpOk P o a g w Pr s' v := by
  have h1 := opd_rd hE hx (.tmp 0)
  have h2 := opd_rd hE hy (.tmp 0)
  subst hk
  subst hby
  simp only [stepOp] at hv
  split at hv
  case h_2 => cases hv
  rename_i n c hn hcc
  obtain ⟨k1, e1⟩ := intOf_ok h1 hn
  obtain ⟨k2, e2⟩ := intOf_ok h2 hcc
  split at hv
  case isFalse => cases hv
  rename_i hcond
  obtain ⟨q1, q2, q3, q4, q5⟩ := hcond
  obtain ⟨n, rfl⟩ : ∃ m : Nat, n = m := ⟨n.toNat, by omega⟩
  obtain ⟨c, rfl⟩ : ∃ m : Nat, c = m := ⟨c.toNat, by omega⟩
  simp only [Int.toNat_natCast] at hv
  split at hv
  case h_2 => cases hv
  rename_i rows hrows
  cases hv
  have hzs : z.cells.size = i.size := by rw [(chkZero_ok (g := g) (w := w) (Pr := Pr) hc).1, q5]
  have hrun := run_mks (P := P) (w := w) (k1 := k1) (k2 := k2) hu hi hz hzs (n := n) (c := c) (by omega) (by omega) (by omega)
  obtain ⟨r1, r2, r3⟩ := chunk_get hrows
  have hz0 := rep_arr (g := g) (w := w) (Pr := Pr) hc c
  rw [q5] at hz0
  refine OpOk.newRow (arr := (Array.range (c * i.size)).map (z.cells[· % z.cells.size]!)) (ty := e) (cap := c) hI hE ?_ r2 ?_ (by omega) (by simp)
  · simp only [execOp, ho, e1, e2, Sem.run_bind, hrun, Result.andThen_ok, r1]; rfl
  · intro i' row j d hi' hj
    obtain ⟨cc, c1, c2⟩ := r3 i' row j d hi' hj
    have hlt := (List.getElem?_eq_some_iff.mp c1).1
    rw [rep_length, q5] at hlt
    rw [rep_get (by rw [q5]; exact hlt)] at c1
    have hlt2 : i' * i.size + j < c * zs.length := by rw [q5]; exact Nat.lt_of_lt_of_le hlt (Nat.mul_le_mul_right _ (by omega))
    obtain ⟨u, u1, _, u3⟩ := hz0.2 _ _ ((rep_get hlt2).trans c1)
    exact ⟨u, u1, data_rep c2 (u3 (.tmp 0, []))⟩
end
end Go.Proofs.Ytjkhkblabhaimaa.Am
