/- Operations that leave the model's memory alone: slices of slices, components, lengths, loads. -/
import Derived.Test.YtjkhkblabhaimaaAmOps2
namespace Go.Proofs.Ytjkhkblabhaimaa.Am
set_option linter.unusedSimpArgs false
set_option linter.unusedVariables false
open Go

section
variable {P : Program} {g g' : G} {w w' : World} {Pr : Nat → Prop} {s s' : St} {a : Act} {F : Oracle} {bd : Bd}

theorem run_builtin {o : Oper} {b : Builtin} {args : Array Operand} {ts : Array TypeId} (ho : o.op = .call { callee := .builtin b, args := args, argTypes := ts }) :
    ∃ cs, (execOp a.eval o).run P w = (builtin b ts o.type cs (args.map a.eval)).run P w := by
  simp only [execOp, ho, resolve, invoke, Sem.run_bind, Sem.run_pure, Result.andThen_ok]
  exact ⟨_, rfl⟩

theorem sl_shape {rows : List (List D)} {u : Value} (h : RepD (g.st w) (.sl rows) u) : ∃ bs c, u = .slice bs rows.length c := by
  cases h with
  | nil => exact ⟨none, 0, rfl⟩
  | sl _ ad k cap vs => exact ⟨some ad, cap, rfl⟩

theorem ok_len0 (o : Oper) {t e : TypeId} {x : Operand} {x' : Opd} {v : V} (ho : o.op = .call { callee := .builtin .len, args := #[x], argTypes := #[t] }) (hx : chkOpd x x' = true)
    (hu : P.underlying t = some (.slice e))
    (hv : stepOp F bd s (.len 0 x') = some (v, s')) (hI : Inv g w Pr s.σ) (hE : EnvOk g w Pr s.env a) : OpOk P o a g w Pr s' v := by
  have h1 := opd_rd hE hx (.tmp 0)
  obtain ⟨cc, hb⟩ := run_builtin (P := P) (w := w) (a := a) ho
  simp only [stepOp] at hv
  split at hv
  · rename_i rows hq hr
    rw [hr] at h1
    cases hv
    obtain ⟨bs, c, he⟩ := sl_shape h1
    exact OpOk.pure (u := .int .i64 rows.length) (by rw [hb]; simp [builtin, Builtin.len_, he, run_underlying hu, goInt]) hI hE (fun r => RepD.int _ _)
  · rename_i k' l off n hq hr
    rw [hr] at h1
    cases hv
    obtain ⟨b, q, cap, arr, ty, h4, h5, h6, h7, h8⟩ := h1
    exact OpOk.pure (u := .int .i64 n) (by rw [hb]; simp [builtin, Builtin.len_, h5, run_underlying hu, goInt]) hI hE (fun r => RepD.int _ _)
  · rename_i hq hr
    rw [hr] at h1
    cases hv
    have he : a.eval x = .slice none 0 0 := h1
    exact OpOk.pure (u := .int .i64 0) (by rw [hb]; simp [builtin, Builtin.len_, he, run_underlying hu, goInt]) hI hE (fun r => RepD.int _ _)
  · rename_i hq hr
    rw [hr] at h1
    cases hv
    obtain ⟨ad, cap, he⟩ := h1
    exact OpOk.pure (u := .int .i64 0) (by rw [hb]; simp [builtin, Builtin.len_, he, run_underlying hu, goInt]) hI hE (fun r => RepD.int _ _)
  all_goals simp_all

theorem ok_len1 (o : Oper) {t : TypeId} {x : Operand} {x' : Opd} {v : V} (ho : o.op = .call { callee := .builtin .len, args := #[x], argTypes := #[t] }) (hx : chkOpd x x' = true)
    (hu : P.underlying t = some .string)
    (hv : stepOp F bd s (.len 1 x') = some (v, s')) (hI : Inv g w Pr s.σ) (hE : EnvOk g w Pr s.env a) : OpOk P o a g w Pr s' v := by
  have h1 := opd_rd hE hx (.tmp 0)
  obtain ⟨cc, hb⟩ := run_builtin (P := P) (w := w) (a := a) ho
  simp only [stepOp] at hv
  split at hv
  · simp_all
  · simp_all
  · simp_all
  · simp_all
  · rename_i t' hq hr
    rw [hr] at h1
    cases hv
    have he := rep_str h1
    exact OpOk.pure (u := .int .i64 t'.size) (by rw [hb]; simp [builtin, Builtin.len_, he, run_underlying hu, goInt]) hI hE (fun r => RepD.int _ _)
  all_goals simp_all

theorem ok_len2 (o : Oper) {t k e : TypeId} {x : Operand} {x' : Opd} {v : V} (ho : o.op = .call { callee := .builtin .len, args := #[x], argTypes := #[t] }) (hx : chkOpd x x' = true)
    (hu : P.underlying t = some (.map k e))
    (hv : stepOp F bd s (.len 2 x') = some (v, s')) (hI : Inv g w Pr s.σ) (hE : EnvOk g w Pr s.env a) : OpOk P o a g w Pr s' v := by
  have h1 := opd_rd hE hx (.tmp 0)
  obtain ⟨cc, hb⟩ := run_builtin (P := P) (w := w) (a := a) ho
  simp only [stepOp] at hv
  split at hv
  · simp_all
  · simp_all
  · simp_all
  · simp_all
  · simp_all
  · rename_i l hq hr
    rw [hr] at h1
    split at hv
    · rename_i es hl
      cases hv
      obtain ⟨b, q, h2, h3⟩ := h1
      obtain ⟨b', q', mes, clock, h4, h5, h6, h7, h8⟩ := hI.ob _ _ hl
      rw [h2] at h4
      cases h4
      refine OpOk.pure (u := .int .i64 es.length) ?_ hI hE (fun r => RepD.int _ _)
      rw [hb]
      simp [builtin, Builtin.len_, h3, run_underlying hu, goInt, getObj, Sem.run, h6, h7]
    · cases hv
  · rename_i hq hr
    rw [hr] at h1
    cases hv
    have he : a.eval x = .map none := h1
    exact OpOk.pure (u := .int .i64 0) (by rw [hb]; simp [builtin, Builtin.len_, he, run_underlying hu, goInt]) hI hE (fun r => RepD.int _ _)
  · simp_all

theorem run_bound {i : Int} {k : IntKind} {y : Nat} {c : BoundsCode} (h0 : 0 ≤ i) (h1 : i ≤ y) : (Instr.sliceBound (.int k i) y c).run P w = .ok i.toNat w := by
  simp [Instr.sliceBound, asIntOf, h0, h1]

/-- The bounds of a slice expression. -/
theorem run_bounds {isSlice : Bool} {len cap : Nat} {lo hi : Option Operand} {lo' hi' : Option Opd} {l h : Int} (hE : EnvOk g w Pr s.env a)
    (hlo : (lo = none ∧ lo' = none) ∨ ∃ x x', lo = some x ∧ lo' = some x' ∧ chkOpd x x' = true) (hhi : (hi = none ∧ hi' = none) ∨ ∃ x x', hi = some x ∧ hi' = some x' ∧ chkOpd x x' = true)
    (el : optInt s lo' 0 = some l) (eh : optInt s hi' len = some h) (h0 : 0 ≤ l) (h1 : l ≤ h) (h2 : h ≤ cap) (hlc : len ≤ cap) :
    (Instr.sliceBounds isSlice len cap (lo.map a.eval) (hi.map a.eval) none).run P w = .ok (l.toNat, h.toNat, cap) w := by
  have hb : ∀ (x : Operand) (x' : Opd) (n : Int) (y : Nat) (c : BoundsCode), chkOpd x x' = true → intOf (s.rd x') = some n → 0 ≤ n → n ≤ y → (Instr.sliceBound (a.eval x) y c).run P w = .ok n.toNat w := by
    intro x x' n y c hx hn h0 h1
    obtain ⟨k, hk⟩ := intOf_ok (opd_rd hE hx (.tmp 0)) hn
    rw [hk]
    exact run_bound h0 h1
  unfold Instr.sliceBounds
  rcases hhi with ⟨rfl, rfl⟩ | ⟨x, x', rfl, rfl, hx⟩ <;> rcases hlo with ⟨rfl, rfl⟩ | ⟨z, z', rfl, rfl, hz⟩ <;> simp only [optInt, Option.some.injEq] at el eh
  · subst el; subst eh; simp
  · subst eh
    have := hb z z' l len .sliceB hz el h0 h1
    simp [this]
  · subst el
    have := hb x x' h cap (if isSlice = true then .sliceAcap else .sliceAlen) hx eh h1 h2
    simp [this]
  · have e1 := hb x x' h cap (if isSlice = true then .sliceAcap else .sliceAlen) hx eh (by omega) h2
    have e2 := hb z z' l h.toNat .sliceB hz el h0 (by omega)
    simp [e1, e2]

theorem ok_slcs (o : Oper) {t : TypeId} {x : Operand} {x' : Opd} {lo hi : Option Operand} {lo' hi' : Option Opd} {v : V} (ho : o.op = .slice t x lo hi none) (hx : chkOpd x x' = true)
    (hlo : (lo = none ∧ lo' = none) ∨ ∃ x x', lo = some x ∧ lo' = some x' ∧ chkOpd x x' = true) (hhi : (hi = none ∧ hi' = none) ∨ ∃ x x', hi = some x ∧ hi' = some x' ∧ chkOpd x x' = true)
    (hu : P.underlying t = some .string)
    (hv : stepOp F bd s (.slcs x' lo' hi') = some (v, s')) (hI : Inv g w Pr s.σ) (hE : EnvOk g w Pr s.env a) : OpOk P o a g w Pr s' v := by
  have h1 := opd_rd hE hx (.tmp 0)
  simp only [stepOp] at hv
  split at hv
  · rename_i str hr
    rw [hr] at h1
    have he := rep_str h1
    split at hv
    · rename_i l h el eh
      split at hv
      · rename_i hc
        cases hv
        have := run_bounds (P := P) (isSlice := false) hE hlo hhi el eh hc.1 hc.2.1 hc.2.2 (Nat.le_refl _)
        refine OpOk.pure (u := .string (str.extract l.toNat h.toNat)) ?_ hI hE (fun r => RepD.str _)
        simp [execOp, ho, Instr.sliceAt, Instr.slice, he, run_underlying hu, this]
      · cases hv
    · cases hv
  · cases hv

theorem run_slice {t e : TypeId} {i : TypeInfo} {bs : Option Addr} {len cap : Nat} {lo hi : Option Value} {l h : Nat} (hu : P.underlying t = some (.slice e)) (hi' : P.info? e = some i)
    (hb : (Instr.sliceBounds true len cap lo hi none).run P w = .ok (l, h, cap) w) :
    (Instr.sliceAt t (.slice bs len cap) lo hi none).run P w = .ok (.slice (if cap = l then bs else bs.map (·.add (l * i.size))) (h - l) (cap - l)) w := by
  simp [Instr.sliceAt, Instr.slice, run_underlying hu, hb, run_sizeOf w hi', Program.cellsOf, hi']

theorem ok_slc_cp (o : Oper) {t e : TypeId} {x : Operand} {x' : Opd} {lo hi : Option Operand} {lo' hi' : Option Opd} {k : Nat} {i : TypeInfo} {v : V} (ho : o.op = .slice t x lo hi none) (hx : chkOpd x x' = true)
    (hlo : (lo = none ∧ lo' = none) ∨ ∃ x x', lo = some x ∧ lo' = some x' ∧ chkOpd x x' = true) (hhi : (hi = none ∧ hi' = none) ∨ ∃ x x', hi = some x ∧ hi' = some x' ∧ chkOpd x x' = true)
    (hu : P.underlying t = some (.slice e)) (hi0 : P.info? e = some i) (hk : i.size = k)
    (hv : stepOp F bd s (.slc .cp k x' lo' hi') = some (v, s')) (hI : Inv g w Pr s.σ) (hE : EnvOk g w Pr s.env a) : OpOk P o a g w Pr s' v := by
  have h1 := opd_rd hE hx (.tmp 0)
  subst hk
  simp only [stepOp] at hv
  split at hv
  · rename_i l el
    split at hv
    · rename_i h0
      obtain ⟨l, rfl⟩ : ∃ m : Nat, l = m := ⟨l.toNat, by omega⟩
      split at hv
      · rename_i rows hr
        rw [hr] at h1
        split at hv
        · rename_i h eh
          split at hv
          · rename_i hc
            obtain ⟨hc1, hc2, hc3⟩ := hc
            obtain ⟨h, rfl⟩ : ∃ m : Nat, h = m := ⟨h.toNat, by omega⟩
            cases hv
            have h1' : RepD (g.st w) (.sl rows) (a.eval x) := h1
            have hk : ∀ r ∈ rows, r.length = i.size := by simpa using hc3
            simp only [Int.toNat_natCast]
            generalize hux : a.eval x = u at h1'
            have hrun : ∀ (bs : Option Addr) (cap : Nat), u = .slice bs rows.length cap → rows.length ≤ cap →
                (execOp a.eval o).run P w = .ok (.value (.slice (if cap = l then bs else bs.map (·.add (l * i.size))) (h - l) (cap - l))) w := by
              intro bs cap hb hcap
              have := run_bounds (P := P) (isSlice := true) hE hlo hhi el eh h0 hc1 (by omega) hcap
              simp only [Int.toNat_natCast] at this
              have := run_slice (bs := bs) hu hi0 this
              simp only [execOp, ho, hux, hb, Option.map_none, Sem.run_bind, this]; rfl
            have hlen : ((rows.take h).drop l).length = h - l := by simp; omega
            cases h1' with
            | nil =>
              have hlh : l = 0 ∧ h = 0 := by simp at hc2; omega
              obtain ⟨rfl, rfl⟩ := hlh
              exact OpOk.pure (u := .slice none 0 0) (by have := hrun none 0 rfl (by simp); simpa using this) hI hE (fun r => RepD.nil)
            | sl _ ad k0 cap vs q1 q2 q3 q4 q5 =>
              refine OpOk.pure (hrun (some ad) cap rfl q2) hI hE (fun r => ?_)
              show RepD (g.st w) (.sl ((rows.take h).drop l)) _
              have hk0 : rows ≠ [] → k0 = i.size := by
                intro hne
                obtain ⟨r0, hr0⟩ := List.exists_mem_of_ne_nil _ hne
                rw [← q3 _ hr0, hk _ hr0]
              by_cases hcl : cap = l
              · rw [if_pos hcl, ← hlen]
                have hem : (rows.take h).drop l = [] := by apply List.drop_eq_nil_of_le; simp; omega
                rw [hem]
                exact RepD.sl [] ad 0 _ (fun _ _ => undef) (by simp) (by simp) (by simp) (by simp) (by simp)
              · rw [if_neg hcl, ← hlen]
                have hsub : ∀ (r' : Nat) row, ((rows.take h).drop l)[r']? = some row → rows[r' + l]? = some row := by
                  intro r' row hr'
                  rw [List.getElem?_drop, List.getElem?_take] at hr'
                  split at hr'
                  · rw [Nat.add_comm]; exact hr'
                  · cases hr'
                refine RepD.sl _ (ad.add (l * i.size)) i.size _ (fun a b => vs (a + l) b) ?_ (by rw [hlen]; omega) (fun r hr => hk _ (List.mem_of_mem_take (List.mem_of_mem_drop hr))) ?_ ?_
                · intro hne
                  have : rows ≠ [] := by rintro rfl; simp at hne
                  rw [addr_add' (q1 this)]
                · intro r' row j d hr' hj
                  have hr2 := hsub _ _ hr'
                  have hne : rows ≠ [] := by rintro rfl; simp at hr2
                  have := q4 _ _ _ _ hr2 hj
                  rw [hk0 hne] at this
                  rw [addr_add' (q1 hne)]
                  have e2 : ad.off + (r' + l) * i.size + j = ad.off + l * i.size + r' * i.size + j := by rw [Nat.add_mul]; omega
                  rw [e2] at this
                  exact this
                · intro r' row j d hr' hj
                  exact q5 _ _ _ _ (hsub _ _ hr') hj
          · cases hv
        · cases hv
      · rename_i k' r off len hr
        rw [hr] at h1
        split at hv
        · rename_i h eh
          split at hv
          · rename_i hc
            obtain ⟨rfl, hc1, hc2, hc3⟩ := hc
            obtain ⟨h, rfl⟩ : ∃ m : Nat, h = m := ⟨h.toNat, by omega⟩
            cases hv
            obtain ⟨b, q, cap, arr, ty, h4, h5, h6, h7, h8⟩ := h1
            have := run_bounds (P := P) (isSlice := true) hE hlo hhi el eh h0 hc1 (by omega) h6
            simp only [Int.toNat_natCast] at this
            have := run_slice (bs := some ⟨b, q + off, none⟩) hu hi0 this
            have hcl : ¬ cap = l := by omega
            refine OpOk.pure (u := .slice (some ⟨b, q + (off + l * i.size), none⟩) (h - l) (cap - l)) ?_ hI hE (fun rr => ?_)
            · simp only [execOp, ho, h5, Option.map_none, Sem.run_bind, this]
              simp [hcl, addr_add, Nat.add_assoc]
            · refine ⟨b, q, cap - l, arr, ty, h4, ?_, by omega, h7, ?_⟩
              · simp only [Int.toNat_natCast]
                congr 1
                omega
              · simp only [Int.toNat_natCast]
                have : (cap - l) * i.size + l * i.size = cap * i.size := by rw [← Nat.add_mul]; congr 1; omega
                omega
          · cases hv
        · cases hv
      · cases hv
    · cases hv
  · cases hv
end
end Go.Proofs.Ytjkhkblabhaimaa.Am
