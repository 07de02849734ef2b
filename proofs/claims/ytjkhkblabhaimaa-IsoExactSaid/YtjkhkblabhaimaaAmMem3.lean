/- What is taken out of an object, what is frozen, what is built of parts. -/
import Derived.Test.YtjkhkblabhaimaaAmMem2
namespace Go.Proofs.Ytjkhkblabhaimaa.Am
set_option linter.unusedSimpArgs false
set_option linter.unusedVariables false
open Go
set_option linter.unusedVariables false

section
variable {P : Program} {g g' : G} {w w' : World} {Pr : Nat → Prop} {s s' : St} {a : Act} {F : Oracle} {bd : Bd}

theorem ok_ld_own (o : Oper) {t : TypeId} {x : Operand} {x' : Opd} {v : V} (ho : o.op = .load t x) (hx : chkOpd x x' = true)
    (hd : (P.underlying t).isSome = true) (hs : isStr P t = false)
    (hv : stepOp F bd s (.ld .own none x') = some (v, s')) (hI : Inv g w Pr s.σ) (hE : EnvOk g w Pr s.env a) : OpOk P o a g w Pr s' v := by
  have h1 := opd_rd hE hx (.tmp 0)
  simp only [stepOp] at hv
  split at hv
  · rename_i l off hr
    rw [hr] at h1
    obtain ⟨b, q, hl, h2⟩ := h1
    split at hv
    case h_2 => cases hv
    rename_i cs hcs
    have hcs' := getCells_eq hcs
    obtain ⟨b', q', arr, ty, h3, h4, h5, h6, h7⟩ := hI.ob _ _ hcs'
    rw [hl] at h3
    cases h3
    split at hv
    case h_2 => cases hv
    rename_i c hc
    split at hv
    case isFalse => cases hv
    simp only [Option.some.injEq, Prod.mk.injEq] at hv
    obtain ⟨rfl, rfl⟩ := hv
    obtain ⟨u, k1, k2, k3⟩ := h7 _ _ hc
    let φ : Place → Place := fun p => if p = (.cell l, [off]) then (.tmp (o.dst.getD 0), []) else p
    have hφ : ∀ p, p ≠ (.cell l, [off]) → φ p = p := fun p hp => by simp only [φ]; rw [if_neg hp]
    refine ⟨u, w, g.ren Pr φ, fun _ _ _ => rfl, .inl ?_, Ext.ren φ, Fr.ren φ, ?_, ?_, fun d hd' => ?_⟩
    · simp only [execOp, ho, h2, Sem.run_bind, run_ld1 hd hs ((cell_of h5 _).trans k1)]; rfl
    · refine ⟨by simpa [G.ren] using hI.len, fun l' ob hob => ?_, hI.lt, fun c hc => ?_⟩
      · rw [List.getElem?_set] at hob
        split at hob
        · subst_vars
          split at hob
          · cases hob
            refine ⟨b, q, arr, ty, hl, h4, h5, by simpa using h6, fun i c' hi => ?_⟩
            rw [List.getElem?_set] at hi
            split at hi
            · subst_vars
              split at hi
              · cases hi
                exact ⟨u, k1, k2, RepC.down (RepC.ren φ rfl k3)⟩
              · cases hi
            · rename_i hne
              obtain ⟨u', e1, e2, e3⟩ := h7 _ _ hi
              exact ⟨u', e1, e2, RepC.ren φ (hφ _ (by intro e; simp at e; exact hne e.symm)) e3⟩
          · cases hob
        · rename_i hne
          exact RepOb.ren φ (fun i => hφ _ (by intro e; simp at e; exact hne e.1.symm)) (hI.ob _ _ hob)
      · obtain ⟨p1, p2, p3⟩ := hI.pr c hc
        exact ⟨p1, p2, by simpa [G.ren, hc] using p3⟩
    · intro t
      exact RepV.ren φ (fun p => hφ _ (by simp)) (hE t)
    · exact RepC.ren φ (by simp [φ, hd']) k3
  · cases hv

theorem data_rep {c : C} {d : D} {u : Value} {p : Place} (h : c.data = some d) (hc : RepC g w Pr p c u) : RepD (g.st w) d u := by
  cases c with
  | b x => cases x <;> simp [C.data] at h; subst h; exact hc
  | osl k rows => simp [C.data] at h; subst h; exact hc.1
  | fn f p q => simp [C.data] at h
  | nilf => simp [C.data] at h

theorem datas_get : ∀ {cs : List C} {ds : List D}, datas cs = some ds → ds.length = cs.length ∧ ∀ (j : Nat) (d : D), ds[j]? = some d → ∃ c, cs[j]? = some c ∧ c.data = some d
  | [], ds, h => by simp [datas] at h; subst h; simp
  | c :: cs, ds, h => by
    simp only [datas] at h
    split at h
    · rename_i x xs hx hxs
      cases h
      obtain ⟨h1, h2⟩ := datas_get hxs
      refine ⟨by simp [h1], fun j d hj => ?_⟩
      cases j with
      | zero => simp at hj; subst hj; exact ⟨c, rfl, hx⟩
      | succ j => simpa using h2 j d (by simpa using hj)
    · cases h

theorem chunk_get : ∀ {k n : Nat} {cs : List C} {rows : List (List D)}, chunk k n cs = some rows → rows.length = n ∧ (∀ r ∈ rows, r.length = k) ∧
    ∀ (i : Nat) (row : List D) (j : Nat) (d : D), rows[i]? = some row → row[j]? = some d → ∃ c, cs[i * k + j]? = some c ∧ c.data = some d
  | k, 0, cs, rows, h => by simp [chunk] at h; subst h; simp
  | k, n + 1, cs, rows, h => by
    simp only [chunk] at h
    split at h
    · rename_i r rs hr hrs
      split at h
      · rename_i hk
        cases h
        obtain ⟨h1, h2, h3⟩ := chunk_get hrs
        obtain ⟨d1, d2⟩ := datas_get hr
        refine ⟨by simp [h1], by simpa [hk] using h2, fun i row j d hi hj => ?_⟩
        cases i with
        | zero =>
          simp at hi; subst hi
          obtain ⟨c, c1, c2⟩ := d2 j d hj
          rw [List.getElem?_take] at c1
          split at c1
          · exact ⟨c, by simpa using c1, c2⟩
          · cases c1
        | succ i =>
          obtain ⟨c, c1, c2⟩ := h3 i row j d (by simpa using hi) hj
          rw [List.getElem?_drop] at c1
          exact ⟨c, by rw [Nat.succ_mul, Nat.add_right_comm, Nat.add_comm]; exact c1, c2⟩
      · cases h
    · cases h

theorem frz_ext (hI : Inv g w Pr s.σ) {b l : Nat} (hk : g.kind b = .obj l) (k' : Bk) : Ext g w (g.withKind b k') w where
  st x v hx := by
    obtain ⟨h1, h2, h3⟩ := hx
    have hne : x.block ≠ b := by
      intro e
      rw [e, hk] at h3
      rcases h3 with h3 | ⟨n, h3, _⟩ <;> cases h3
    exact ⟨h1, h2, by simpa [G.withKind, hne] using h3⟩
  loc l x h := h
  size := Nat.le_refl _
  shape c arr' ty' fz h' := ⟨arr', h', rfl⟩
  os := rfl
  tape := rfl
  output := rfl

theorem ok_mov_frz (o : Oper) {y : Operand} {x : Opd} {v : V} (ho : o.op = .move y ∨ o.op = .assign y) (h : chkOpd y x = true)
    (hv : stepOp F bd s (.mov .frz x) = some (v, s')) (hI : Inv g w Pr s.σ) (hE : EnvOk g w Pr s.env a) : OpOk P o a g w Pr s' v := by
  have h1 := opd_rd hE h (.tmp 0)
  have hr0 : (execOp a.eval o).run P w = .ok (.value (a.eval y)) w := by rcases ho with ho | ho <;> simp only [execOp, ho] <;> rfl
  simp only [stepOp] at hv
  split at hv
  case h_4 => cases hv
  case h_2 =>
    rename_i rows hr
    rw [hr] at h1
    cases hv
    exact OpOk.pure hr0 hI hE (fun r => h1)
  case h_3 =>
    rename_i hr
    rw [hr] at h1
    cases hv
    have h1' : a.eval y = .slice none 0 0 := h1
    exact OpOk.pure hr0 hI hE (fun r => by rw [h1']; exact RepD.nil)
  rename_i k l off len hr
  rw [hr] at h1
  obtain ⟨b, q, cap, arr, ty, hl, e1, e2, e3, e4⟩ := h1
  split at hv
  case h_2 => cases hv
  rename_i cs hcs
  split at hv
  case h_2 => cases hv
  rename_i rows hrows
  split at hv
  case isFalse => cases hv
  cases hv
  obtain ⟨b', q', arr', ty', h3, h4, h5, h6, h7⟩ := hI.ob _ _ (getCells_eq hcs)
  rw [hl] at h3
  cases h3
  rw [e3] at h5
  cases h5
  have hr' : (execOp a.eval o).run P w = .ok (.value (a.eval y)) w := by rcases ho with ho | ho <;> simp only [execOp, ho] <;> rfl
  have hext := frz_ext hI h4 .frozen
  have hkeep : ∀ p, Keep g (g.withKind b .frozen) p := by
    intro p c n c1 c2
    have hne : c ≠ b := by rintro rfl; rw [h4] at c2; cases c2
    exact ⟨c1, by simpa [G.withKind, hne] using c2⟩
  obtain ⟨r1, r2, r3⟩ := chunk_get hrows
  refine ⟨a.eval y, w, g.withKind b .frozen, fun _ _ _ => rfl, .inl hr', hext, ?_, ?_, hE.ext hext (fun _ _ => hkeep _), fun d _ => ?_⟩
  · intro c hc
    have hne : c ≠ b := by rintro rfl; exact (hI.pr _ hc).2.1 l h4
    exact ⟨rfl, by simp [G.withKind, hne], rfl⟩
  · refine ⟨by simpa [G.withKind] using hI.len, fun l' ob hob => ?_, fun c hc => ?_, fun c hc => ?_⟩
    · rw [List.getElem?_set] at hob
      split at hob
      · split at hob
        · cases hob; trivial
        · cases hob
      · rename_i hne
        refine RepOb.frame hext (fun i => hkeep _) (fun c hc => ⟨rfl, ?_⟩) (hI.ob _ _ hob)
        have : c ≠ b := by rintro rfl; rw [h4] at hc; cases hc; exact hne rfl
        simpa [G.withKind, this] using hc
    · by_cases hcb : c = b
      · subst hcb; exact hI.lt _ (by rw [h4]; simp)
      · exact hI.lt c (by simpa [G.withKind, hcb] using hc)
    · obtain ⟨p1, p2, p3⟩ := hI.pr c hc
      have hcb : c ≠ b := by rintro rfl; exact p2 l h4
      exact ⟨p1, by simpa [G.withKind, hcb] using p2, p3⟩
  · show RepD _ (.sl rows) (a.eval y)
    rw [e1, ← r1]
    have hcell : ∀ (i : Nat) (row : List D) (j : Nat) (d : D), rows[i]? = some row → row[j]? = some d →
        ∃ u, arr[q + off + i * k + j]? = some u ∧ RepD ((g.withKind b .frozen).st w) d u := by
      intro i row j d hi hj
      obtain ⟨c, c1, c2⟩ := r3 i row j d hi hj
      rw [List.getElem?_drop] at c1
      obtain ⟨u, u1, u2, u3⟩ := h7 _ _ c1
      refine ⟨u, ?_, RepD.mono hext.st (data_rep c2 u3)⟩
      rw [← u1]
      congr 1
      omega
    refine RepD.sl rows _ k cap (fun i j => arr.getD (q + off + i * k + j) undef) (fun _ => rfl) (by omega) r2 ?_ ?_
    · intro i row j d hi hj
      obtain ⟨u, u1, u2⟩ := hcell i row j d hi hj
      exact ⟨rfl, by rw [cell_of e3]; simp [Array.getD_eq_getD_getElem?, u1], .inl (by simp [G.withKind])⟩
    · intro i row j d hi hj
      obtain ⟨u, u1, u2⟩ := hcell i row j d hi hj
      simpa [Array.getD_eq_getD_getElem?, u1] using u2

theorem ok_mov_arr (o : Oper) {y : Operand} {x : Opd} {v : V} (ho : o.op = .move y ∨ o.op = .assign y) (h : chkOpd y x = true)
    (hv : stepOp F bd s (.mov .arr x) = some (v, s')) (hI : Inv g w Pr s.σ) (hE : EnvOk g w Pr s.env a) : OpOk P o a g w Pr s' v := by
  have h1 := opd_rd hE h (.tmp 0)
  have hr0 : (execOp a.eval o).run P w = .ok (.value (a.eval y)) w := by rcases ho with ho | ho <;> simp only [execOp, ho] <;> rfl
  simp only [stepOp] at hv
  split at hv
  · rename_i hr
    rw [hr] at h1
    cases hv
    obtain ⟨b, q, cap, arr, ty, hl, e1, e2, e3, e4⟩ := h1
    exact OpOk.pure hr0 hI hE (fun r => by rw [e1]; exact RepD.sl [] _ 0 cap (fun _ _ => undef) (fun h => absurd rfl h) (by simp) (by simp) (by simp) (by simp))
  · rename_i hr
    rw [hr] at h1
    cases hv
    have h1' : a.eval y = .slice none 0 0 := h1
    exact OpOk.pure hr0 hI hE (fun r => by rw [h1']; exact RepD.nil)
  · rename_i hr
    rw [hr] at h1
    cases hv
    obtain ⟨ad, cap, e1⟩ := h1
    exact OpOk.pure hr0 hI hE (fun r => by rw [e1]; exact RepD.sl [] _ 0 cap (fun _ _ => undef) (fun h => absurd rfl h) (by simp) (by simp) (by simp) (by simp))
  · rename_i hr
    rw [hr] at h1
    cases hv
    exact OpOk.pure hr0 hI hE (fun r => h1)
  · rename_i hr
    rw [hr] at h1
    cases hv
    exact OpOk.pure hr0 hI hE (fun r => h1)
  · cases hv
end
end Go.Proofs.Ytjkhkblabhaimaa.Am
