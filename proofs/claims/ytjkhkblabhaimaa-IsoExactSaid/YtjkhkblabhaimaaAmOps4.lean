/- Loads, components, comparisons. -/
import Derived.Test.YtjkhkblabhaimaaAmOps3
namespace Go.Proofs.Ytjkhkblabhaimaa.Am
set_option linter.unusedSimpArgs false
set_option linter.unusedVariables false
open Go
set_option linter.unusedVariables false

theorem range_get {n j j' : Nat} (h : (List.range n)[j]? = some j') : j = j' ∧ j' < n := by
  have hlt := (List.getElem?_eq_some_iff.mp h).1
  simp at hlt
  simp [hlt] at h
  subst h
  exact ⟨rfl, hlt⟩

section
variable {P : Program} {g g' : G} {w w' : World} {Pr : Nat → Prop} {s s' : St} {a : Act} {F : Oracle} {bd : Bd}

theorem cell_of {b : Nat} {arr : Array Value} {ty : TypeId} {fz : Nat × Nat} (h : w.heap[b]? = some (.cells arr ty fz)) (i : Nat) : w.cell? ⟨b, i, none⟩ = arr[i]? := by simp [World.cell?, h]

theorem run_ld1 {t : TypeId} {b o : Nat} {u : Value} (hd : (P.underlying t).isSome = true) (hs : isStr P t = false) (hc : w.cell? ⟨b, o, none⟩ = some u) :
    (Instr.loadAt t (.pointer (some ⟨b, o, none⟩))).run P w = .ok u w := by
  simp [Instr.loadAt, Instr.sureAddr, loadVar, run_isAgg hd, hs, hc]

theorem run_ldN {t : TypeId} {b o : Nat} {i : TypeInfo} (hd : (P.underlying t).isSome = true) (hs : isStr P t = true) (hi : P.info? t = some i) (us : List Value) (hu : us.length = i.size)
    (hc : ∀ j u, us[j]? = some u → w.cell? ⟨b, o + j, none⟩ = some u) :
    (Instr.loadAt t (.pointer (some ⟨b, o, none⟩))).run P w = .ok (.agg us.toArray) w := by
  have h1 := run_loadCells_list (P := P) w ⟨b, o, none⟩ us (fun j v hj => by rw [addr_add]; exact hc j v hj)
  rw [hu] at h1
  simp [Instr.loadAt, Instr.sureAddr, loadVar, run_isAgg hd, hs, run_sizeOf w hi, Program.cellsOf, hi, h1]

/-- The values of a part of what lies in memory. -/
theorem take_list {R : Nat → C → Value → Prop} {arr : Array Value} {cs : List C} {o : Nat} (h : ∀ i c, cs[i]? = some c → ∃ u, arr[o + i]? = some u ∧ R i c u) {off n : Nat} (hn : off + n ≤ cs.length) :
    ∃ us : List Value, us.length = n ∧ (∀ j u, us[j]? = some u → arr[o + off + j]? = some u) ∧ ∀ j c, ((cs.drop off).take n)[j]? = some c → ∃ u, us[j]? = some u ∧ R (off + j) c u := by
  refine ⟨(List.range n).map fun j => arr.getD (o + off + j) undef, by simp, fun j u hj => ?_, fun j c hj => ?_⟩
  · simp only [List.getElem?_map, Option.map_eq_some_iff] at hj
    obtain ⟨j', hj', rfl⟩ := hj
    obtain ⟨rfl, hlt⟩ := range_get hj'
    have hc : cs[off + j]? = some cs[off + j] := by simp
    obtain ⟨u, k1, _⟩ := h _ _ hc
    rw [← Nat.add_assoc] at k1
    simp [Array.getD_eq_getD_getElem?, k1]
  · rw [List.getElem?_take] at hj
    split at hj
    · rename_i hlt
      rw [List.getElem?_drop] at hj
      obtain ⟨u, k1, k2⟩ := h _ _ hj
      rw [← Nat.add_assoc] at k1
      exact ⟨u, by simp [hlt, Array.getD_eq_getD_getElem?, k1], k2⟩
    · cases hj

theorem ok_ld_cp (o : Oper) {t : TypeId} {x : Operand} {x' : Opd} {n : Option Nat} {i : TypeInfo} {v : V} (ho : o.op = .load t x) (hx : chkOpd x x' = true)
    (hd : (P.underlying t).isSome = true) (hi : P.info? t = some i) (hn : n = if isStr P t then some i.size else none)
    (hv : stepOp F bd s (.ld .cp n x') = some (v, s')) (hI : Inv g w Pr s.σ) (hE : EnvOk g w Pr s.env a) : OpOk P o a g w Pr s' v := by
  have h1 := opd_rd hE hx (.tmp 0)
  simp only [stepOp] at hv
  split at hv
  · rename_i l off hr
    rw [hr] at h1
    obtain ⟨b, q, hl, h2⟩ := h1
    split at hv
    · rename_i cs hcs
      have hcs' : s.σ[l]? = some (.cells cs) := by
        unfold getCells at hcs
        split at hcs
        · rename_i h; cases hcs; exact h
        · cases hcs
      obtain ⟨b', q', arr, ty, h3, h4, h5, h6, h7⟩ := hI.ob _ _ hcs'
      rw [hl] at h3
      cases h3
      split at hv
      · split at hv
        · rename_i c hc
          simp only [Option.some.injEq, Prod.mk.injEq] at hv
          obtain ⟨rfl, rfl⟩ := hv
          obtain ⟨u, k1, k2, k3⟩ := h7 _ _ hc
          have hs : isStr P t = false := by
            cases hb : isStr P t
            · rfl
            · rw [hb] at hn; cases hn
          refine OpOk.pure (u := u) ?_ hI hE (fun r => RepC.down k3)
          simp only [execOp, ho, h2, Sem.run_bind, run_ld1 hd hs ((cell_of h5 _).trans k1)]; rfl
        · cases hv
      · rename_i m
        split at hv
        · rename_i hc
          cases hv
          have hs : isStr P t = true ∧ m = i.size := by
            cases hb : isStr P t <;> rw [hb] at hn
            · cases hn
            · exact ⟨rfl, by injection hn⟩
          obtain ⟨hs, rfl⟩ := hs
          obtain ⟨us, u1, u2, u3⟩ := take_list (R := fun i c u => u.oneCell' = true ∧ RepC g w Pr (.cell l, [i]) c u) h7 hc
          refine OpOk.pure (u := .agg us.toArray) ?_ hI hE (fun r => ?_)
          · simp only [execOp, ho, h2, Sem.run_bind, run_ldN hd hs hi us u1 (fun j u hj => (cell_of h5 _).trans (u2 j u hj))]; rfl
          · refine ⟨us.toArray, rfl, by simp [u1]; omega, fun j c hj => ?_⟩
            simp only [List.getElem?_map, Option.map_eq_some_iff] at hj
            obtain ⟨c0, hc0, rfl⟩ := hj
            obtain ⟨u, k1, k2, k3⟩ := u3 _ _ hc0
            exact ⟨u, by simpa using k1, k2, RepC.down k3⟩
        · cases hv
    · cases hv
  · rename_i row off hr
    rw [hr] at h1
    obtain ⟨b, q, vs, h2, h3⟩ := h1
    split at hv
    · split at hv
      · rename_i d hd'
        cases hv
        have hs : isStr P t = false := by
          cases hb : isStr P t
          · rfl
          · rw [hb] at hn; cases hn
        obtain ⟨k1, k2⟩ := h3 _ _ hd'
        refine OpOk.pure (u := vs off) ?_ hI hE (fun r => k2)
        simp only [execOp, ho, h2, Sem.run_bind, run_ld1 hd hs k1.2.1]; rfl
      · cases hv
    · rename_i m
      split at hv
      · rename_i hc
        cases hv
        have hs : isStr P t = true ∧ m = i.size := by
          cases hb : isStr P t <;> rw [hb] at hn
          · cases hn
          · exact ⟨rfl, by injection hn⟩
        obtain ⟨hs, rfl⟩ := hs
        have hrow : ∀ j, j < i.size → row[off + j]? = some (row[off + j]?.getD default) := fun j hj => by simp [List.getElem?_eq_getElem (show off + j < row.length by omega)]
        refine OpOk.pure (u := .agg ((List.range i.size).map fun j => vs (off + j)).toArray) ?_ hI hE (fun r => ?_)
        · have := run_ldN (P := P) (w := w) (b := b) (o := q + off) hd hs hi ((List.range i.size).map fun j => vs (off + j)) (by simp) (fun j u hj => by
            simp only [List.getElem?_map, Option.map_eq_some_iff] at hj
            obtain ⟨j', hj', rfl⟩ := hj
            obtain ⟨rfl, hlt⟩ := range_get hj'
            rw [Nat.add_assoc]
            exact (h3 _ _ (hrow _ hlt)).1.2.1)
          simp only [execOp, ho, h2, Sem.run_bind, this]; rfl
        · refine ⟨_, rfl, by simp; omega, fun j c hj => ?_⟩
          simp only [List.getElem?_map, Option.map_eq_some_iff] at hj
          obtain ⟨d, hd0, rfl⟩ := hj
          rw [List.getElem?_take] at hd0
          split at hd0
          · rename_i hlt
            rw [List.getElem?_drop] at hd0
            obtain ⟨k1, k2⟩ := h3 _ _ hd0
            exact ⟨vs (off + j), by simp [hlt], RepD.scalar k2, k2⟩
          · cases hd0
      · cases hv
  · cases hv

theorem ok_ext (o : Oper) {x : Operand} {x' : Opd} {ix : Nat} {v : V} (ho : o.op = .extract x ix) (hx : chkOpd x x' = true)
    (hv : stepOp F bd s (.ext ix x') = some (v, s')) (hI : Inv g w Pr s.σ) (hE : EnvOk g w Pr s.env a) : OpOk P o a g w Pr s' v := by
  simp only [stepOp] at hv
  split at hv
  · rename_i vs hr
    split at hv
    · rename_i v0 hv0
      cases x' with
      | k c => cases hv
      | t n =>
        simp only [Option.some.injEq, Prod.mk.injEq] at hv
        obtain ⟨rfl, rfl⟩ := hv
        have h1 := (opd_raw hE hx).1 n rfl
        rw [hr] at h1
        obtain ⟨arr, h2, h3⟩ := h1
        obtain ⟨u, h4, h5⟩ := h3 _ _ hv0
        let φ : Place → Place := fun p => if p.1 = .tmp n ∧ p.2.head? = some ix then (.tmp (o.dst.getD 0), p.2.drop 1) else p
        have hdn : ∀ m : Nat, m ≠ n → ∀ p, φ (.tmp m, p) = (.tmp m, p) := fun m hm p => by simp only [φ]; rw [if_neg]; rintro ⟨e, _⟩; exact hm (by cases e; rfl)
        refine ⟨u, w, g.ren Pr φ, fun _ _ _ => rfl, .inl ?_, Ext.ren φ, Fr.ren φ, Inv.ren φ (fun l i => by simp [φ]) hI, ?_, fun d hd => ?_⟩
        · simp [execOp, ho, h2, Instr.extract, h4]
        · intro t
          rw [env_get_cons]
          split
          · subst_vars
            have hx2 : ∀ m, chkOpd x (.t m) = true → a.eval x = a.tmps.getD m undef := by
              intro m hm
              cases x <;> simp [chkOpd] at hm
              subst hm; rfl
            rw [← hx2 _ hx, h2]
            refine ⟨arr, rfl, fun j y hj => ?_⟩
            rw [List.getElem?_set] at hj
            split at hj
            · subst_vars
              split at hj
              · cases hj
                exact ⟨u, h4, RepV1.down (RepV1.ren φ (r' := .tmp (o.dst.getD 0)) (path' := []) (fun p => by simp [φ]) h5)⟩
              · cases hj
            · rename_i hne
              obtain ⟨u', e1, e2⟩ := h3 _ _ hj
              exact ⟨u', e1, RepV1.ren φ (fun p => by simp only [φ]; rw [if_neg]; rintro ⟨_, e⟩; simp at e; exact hne e.symm) e2⟩
          · rename_i hne
            exact RepV.ren φ (hdn t (fun e => hne e.symm)) (hE t)
        · have h6 : RepV1 (g.ren Pr φ) w Pr (.tmp d) [] v0 u := RepV1.ren φ (fun p => by simp [φ, hd]) h5
          cases v0 with
          | c y => exact h6
          | agg y => exact h6
          | tup y => exact h6.elim
    · cases hv
  · cases hv
end
end Go.Proofs.Ytjkhkblabhaimaa.Am
