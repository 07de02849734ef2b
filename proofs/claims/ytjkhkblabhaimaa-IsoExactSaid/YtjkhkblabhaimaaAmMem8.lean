/- Append, whole. -/
import Derived.Test.YtjkhkblabhaimaaAmMem7
namespace Go.Proofs.Ytjkhkblabhaimaa.Am
set_option linter.unusedSimpArgs false
set_option linter.unusedVariables false
open Go
set_option linter.unusedVariables false

section
variable {P : Program} {g g' : G} {w w' : World} {Pr : Nat → Prop} {s s' : St} {a : Act} {F : Oracle} {bd : Bd}

theorem ok_app (o : Oper) {t t2 e e2 : TypeId} {k bytes : Nat} {x y : Operand} {x' y' : Opd} {i : TypeInfo} {z : Value} {v : V} (ho : o.op = .call { callee := .builtin .append, args := #[x, y], argTypes := #[t, t2] })
    (hx : chkOpd x x' = true) (hy : chkOpd y y' = true) (ht : P.underlying t = some (.slice e)) (ht2 : P.underlying t2 = some (.slice e2)) (hi : P.info? e = some i) (hz : i.zero = some z) (hzs : z.cells.size = i.size)
    (hk : i.size = k) (hby : i.bytes = bytes) (hb0 : i.bytes ≠ 0)
    (hv : stepOp F bd s (.app k bytes x' y') = some (v, s')) (hI : Inv g w Pr s.σ) (hE : EnvOk g w Pr s.env a) : OpOk P o a g w Pr s' v := by
  subst hk
  subst hby
  simp only [stepOp] at hv
  split at hv
  case h_2 => cases hv
  rename_i ys hys
  split at hv
  case isFalse => cases hv
  rename_i hyk
  have hky : ∀ r ∈ ys, r.length = i.size := by simpa using hyk
  split at hv
  case h_2 => cases hv
  rename_i k' rows hraw
  split at hv
  case isFalse => cases hv
  rename_i hc
  obtain ⟨rfl, hc1, hc2⟩ := hc
  simp only [Option.some.injEq, Prod.mk.injEq] at hv
  obtain ⟨rfl, rfl⟩ := hv
  obtain ⟨cc, hb⟩ := run_builtin (P := P) (w := w) (a := a) ho
  -- the first argument
  have hrep : ∃ p, RepC g w Pr p (.osl i.size rows) (a.eval x) ∧ (∀ m, x' = .t m → p = (.tmp m, [])) := by
    obtain ⟨o1, o2⟩ := opd_raw hE hx
    cases x' with
    | t m => refine ⟨(.tmp m, []), ?_, fun m' h => by cases h; rfl⟩; have := o1 m rfl; rw [hraw] at this; exact this
    | k c => refine ⟨(.tmp 0, []), ?_, fun m' h => by cases h⟩; have := o2 c rfl (.tmp 0); rw [hraw] at this; exact this
  obtain ⟨p, ⟨r1, r2, r3⟩, hp⟩ := hrep
  obtain ⟨bs2, cap2, us, e1, us1, us2, us3, us4⟩ := read_rows (P := P) hI hE hy hys hky
  have hrx : rowsOf s.σ (s.rd x') = some rows := by rw [raw_osl_rd hraw]; rfl
  obtain ⟨bs1, cap1, vs, f1, vs1, vs2, vs3, vs4⟩ := read_rows (P := P) hI hE hx hrx r2
  have hcap1 : rows.length ≤ cap1 := by
    rw [f1] at r1
    generalize hq : Value.slice bs1 rows.length cap1 = q at r1
    cases r1 with
    | nil => cases hq; simp
    | sl _ ad k cap vs q1 q2 => cases hq; exact q2
  have hbuilt : ∀ {r : Result Value}, (Builtin.append_ #[t, t2] o.type #[.slice bs1 rows.length cap1, .slice bs2 ys.length cap2]).run P w = r → (execOp a.eval o).run P w = r.andThen fun v w' => .ok (.value v) w' := by
    intro r hr
    rw [hb]
    simp [builtin, f1, e1, hr]
  have htook : (s.took x').σ = s.σ := by cases x' <;> rfl
  have henvT : ∀ {g'' : G} {w'' : World}, EnvOk g'' w'' Pr s.env a → EnvOk g'' w'' Pr (s.took x').env a := by
    intro g'' w'' h
    cases x' with
    | k c => exact h
    | t m =>
      intro t
      simp only [St.took]
      rw [env_get_cons]
      split
      · subst_vars; exact RepV.down (h t)
      · exact h t
  by_cases hroom : rows.length + ys.length ≤ cap1
  · by_cases h0 : ys = []
    · subst h0
      have hu0 : us = [] := List.eq_nil_of_length_eq_zero (by simpa using us1)
      subst hu0
      have hrun := run_app_none (P := P) (w := w) (ty := o.type) ht ht2 hi bs1 rows.length cap1 hcap1 (us4 w rfl)
      obtain ⟨g', x1, x2, x3, x4, x5⟩ := take_ok hI hE hx (o.dst.getD 0)
      refine ⟨_, w, g', fun _ _ _ => rfl, .inl (hbuilt hrun), x1, x2, by rw [htook]; exact x3, x4, fun d hd => ?_⟩
      rw [hraw, f1, hd] at x5
      simpa using x5
    · -- room in its own block
      have hown : ∃ ad m, bs1 = some ad ∧ x' = .t m ∧ ad.spot = none ∧ g.kind ad.block = .grow (ad.off + rows.length * i.size) ∧ g.own ad.block = some (.tmp m, []) ∧ ¬ Pr ad.block ∧
          ∃ arr ty, w.heap[ad.block]? = some (.cells arr ty (0, 0)) ∧ ad.off + cap1 * i.size ≤ arr.size := by
        have hpos : 0 < ys.length := List.length_pos_iff.mpr h0
        rw [f1] at r3
        rcases r3 with h3 | ⟨ad, cap', h3, h4⟩
        · exfalso
          obtain ⟨_, q1, q2⟩ : bs1 = none ∧ rows.length = 0 ∧ cap1 = 0 := by simpa using h3
          omega
        · obtain ⟨rfl, rfl⟩ : bs1 = some ad ∧ cap1 = cap' := by simpa using h3
          rcases h4 with h4 | ⟨q1, q2, q3, q4, q5, q6⟩
          · omega
          · cases x' with
            | t m => exact ⟨ad, m, rfl, rfl, q1, q3, by rw [q4, hp m rfl], q5, q6⟩
            | k c =>
              exfalso
              obtain ⟨cv, rfl, hcv⟩ := opd_k hE hx
              simp only [St.raw, V.c.injEq] at hraw
              subst hraw
              have h1 := (hcv (.tmp 1, []))
              have h2 := (hcv (.tmp 2, []))
              rw [f1] at h1 h2
              obtain ⟨_, _, h1⟩ := h1
              obtain ⟨_, _, h2⟩ := h2
              rcases h1 with h1 | ⟨ad1, c1, h1, h1'⟩
              · cases h1
              · cases h1
                rcases h1' with h1' | ⟨_, _, _, z4, _⟩
                · omega
                · rcases h2 with h2 | ⟨ad2, c2, h2, h2'⟩
                  · cases h2
                  · cases h2
                    rcases h2' with h2' | ⟨_, _, _, z5, _⟩
                    · omega
                    · rw [z4] at z5; simp at z5
      obtain ⟨ad, m, rfl, rfl, q1, q3, q4, q5, arr, ty, q6, q7⟩ := hown
      rw [f1] at r1
      have := app_room (a := a) hI hE q1 r1 r2 hky q3 q4 q5 q6 q7 hroom us1 us3 (o.dst.getD 0)
      obtain ⟨g', x1, x2, x3, x4, x5⟩ := this
      obtain ⟨ab, ao, sp⟩ := ad
      cases q1
      have hfit : ao + rows.length * i.size + us.length ≤ arr.size := by
        have hm : rows.length * i.size + ys.length * i.size ≤ cap1 * i.size := by rw [← Nat.add_mul]; exact Nat.mul_le_mul_right _ hroom
        simp only at q7
        omega
      have hrun := run_app_room (P := P) (w := w) (ty := o.type) ht ht2 hi hroom q6 (us4 w rfl) us2 hfit
      refine ⟨_, _, g', fun h => (by rw [ho] at h; cases h), .inl (hbuilt hrun), x1, x2, x3, x4, fun d hd => ?_⟩
      rw [hd] at x5
      exact x5
  · -- a new block
    have hrun := run_app_grow (P := P) (w := w) (ty := o.type) (z := z) (bs := bs1) (sLen := rows.length) (sCap := cap1) ht ht2 hi hz ⟨bs2, cap2, rfl⟩ (by omega) (by omega) hc1 hb0 (vs4 w.drew rfl) (us4 w.drew rfl)
    have hge := grownCap_ge w (rows.length + ys.length) cap1 e
    have hl : (rows ++ ys).length = rows.length + ys.length := List.length_append
    refine OpOk.newRowDrew (s := s.took x') (rows := rows ++ ys) (arr := vs.toArray ++ us.toArray ++ Builtin.zeroCells z.cells (grownCap w (rows.length + ys.length) cap1 e - (rows.length + ys.length))) (ty := e) (cap := grownCap w (rows.length + ys.length) cap1 e) (by rw [htook]; exact hI) (henvT hE) ?_ ?_ (rows_app vs3 us3 (by simpa using vs1)) (by omega) ?_
    · rw [hl]; exact hbuilt hrun
    · intro r hr
      rcases List.mem_append.mp hr with h | h
      · exact r2 r h
      · exact hky r h
    · simp only [Array.size_append, List.size_toArray, size_zeroCells, hzs, vs1, us1, ← Nat.add_mul]
      apply Nat.le_of_eq
      congr 1
      omega
end
end Go.Proofs.Ytjkhkblabhaimaa.Am
