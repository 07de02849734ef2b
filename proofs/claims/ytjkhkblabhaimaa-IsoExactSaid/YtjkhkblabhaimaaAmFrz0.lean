/- What nobody writes to any more: slices in objects become rows. -/
import Derived.Test.YtjkhkblabhaimaaAmMemA
namespace Go.Proofs.Ytjkhkblabhaimaa.Am
set_option linter.unusedSimpArgs false
set_option linter.unusedVariables false
open Go
set_option linter.unusedVariables false

section
variable {P : Program} {N : Nat} {g g' g1 g2 : G} {w w' : World} {Pr : Nat → Prop} {s s' : St} {σ : List Ob}

def G.frz (g : G) (S : Nat → Bool) : G := { g with kind := fun b => match g.kind b with | .obj l => if S l = true then .frozen else .obj l | k => k }

theorem frz_kind {S : Nat → Bool} {b l : Nat} (h : g.kind b = .obj l) : (g.frz S).kind b = if S l = true then .frozen else .obj l := by simp only [G.frz, h]
theorem frz_kind' {S : Nat → Bool} {b : Nat} (h : ∀ l, g.kind b ≠ .obj l) : (g.frz S).kind b = g.kind b := by
  show (match g.kind b with | .obj l => if S l = true then .frozen else .obj l | k => k) = g.kind b
  split
  · rename_i l hk; exact absurd hk (h l)
  · rfl

theorem frz_st {S : Nat → Bool} {a : Addr} {v : Value} (h : g.st w a v) : (g.frz S).st w a v := by
  obtain ⟨h1, h2, h3⟩ := h
  refine ⟨h1, h2, ?_⟩
  rcases h3 with h3 | ⟨m, h3, h4⟩
  · exact .inl (by rw [frz_kind' (fun l => by rw [h3]; simp)]; exact h3)
  · exact .inr ⟨m, by rw [frz_kind' (fun l => by rw [h3]; simp)]; exact h3, h4⟩

theorem Ext.frz (S : Nat → Bool) : Ext g w (g.frz S) w := ⟨fun _ _ h => frz_st h, fun _ _ h => h, Nat.le_refl _, fun _ arr _ _ h => ⟨arr, h, rfl⟩, rfl, rfl, rfl⟩
theorem Keep.frz (S : Nat → Bool) (p : Place) : Keep g (g.frz S) p := fun b m h1 h2 => ⟨h1, by rw [frz_kind' (fun l => by rw [h2]; simp)]; exact h2⟩
theorem Fr.frz (S : Nat → Bool) (hp : ∀ b, Pr b → ∀ l, g.kind b ≠ .obj l) : Fr Pr g w (g.frz S) w := fun b hb => ⟨rfl, frz_kind' (hp b hb), rfl⟩

theorem datasF_get {h : C → Option D} : ∀ {cs : List C} {ds : List D}, datasF h cs = some ds → ds.length = cs.length ∧ ∀ (j : Nat) (d : D), ds[j]? = some d → ∃ c, cs[j]? = some c ∧ h c = some d
  | [], ds, h => by simp [datasF] at h; subst h; simp
  | c :: cs, ds, h => by
    simp only [datasF] at h
    split at h
    · rename_i x xs hx hxs
      cases h
      obtain ⟨h1, h2⟩ := datasF_get hxs
      refine ⟨by simp [h1], fun j d hj => ?_⟩
      cases j with
      | zero => simp at hj; subst hj; exact ⟨c, rfl, hx⟩
      | succ j => simpa using h2 j d (by simpa using hj)
    · cases h

theorem chunkF_get {h : C → Option D} : ∀ {k n : Nat} {cs : List C} {rows : List (List D)}, chunkF h k n cs = some rows → rows.length = n ∧ (∀ r ∈ rows, r.length = k) ∧
    ∀ (i : Nat) (row : List D) (j : Nat) (d : D), rows[i]? = some row → row[j]? = some d → ∃ c, cs[i * k + j]? = some c ∧ h c = some d
  | k, 0, cs, rows, h => by simp [chunkF] at h; subst h; simp
  | k, n + 1, cs, rows, h => by
    simp only [chunkF] at h
    split at h
    · rename_i r rs hr hrs
      split at h
      · rename_i hk
        cases h
        obtain ⟨h1, h2, h3⟩ := chunkF_get hrs
        obtain ⟨d1, d2⟩ := datasF_get hr
        refine ⟨by simp [h1], by simpa [hk] using h2, fun i row j d hi hj => ?_⟩
        cases i with
        | zero =>
          simp at hi; subst hi
          obtain ⟨c, c1, c2⟩ := d2 j d hj
          rw [List.getElem?_take] at c1
          split at c1
          · exact ⟨c, by simpa using c1, c2⟩
          · cases c1
        | succ i =>
          obtain ⟨c, c1, c2⟩ := h3 i row j d (by simpa using hi) hj
          rw [List.getElem?_drop] at c1
          exact ⟨c, by rw [Nat.succ_mul, Nat.add_right_comm, Nat.add_comm]; exact c1, c2⟩
      · cases h
    · cases h

theorem frzD_rep (hI : Inv g w Pr σ) {S : Nat → Bool} : ∀ {f : Nat} {c : C} {d : D} {p : Place} {u : Value}, frzD S σ f c = some d → RepC g w Pr p c u → RepD ((g.frz S).st w) d u
  | 0, c, d, p, u, h, hc => by simp [frzD] at h
  | f + 1, c, d, p, u, h, hc => by
    simp only [frzD] at h
    split at h
    · cases h; exact RepD.mono (fun _ _ h => frz_st h) hc
    · cases h; exact RepD.mono (fun _ _ h => frz_st h) hc.1
    · cases h
      have : u = .slice none 0 0 := hc
      rw [this]; exact RepD.nil
    · cases h
      obtain ⟨ad, cap, rfl⟩ := hc
      exact RepD.sl [] ad 0 cap (fun _ _ => undef) (fun h => absurd rfl h) (by simp) (by simp) (by simp) (by simp)
    · rename_i k l off len
      split at h
      case isFalse => cases h
      rename_i hnl
      split at h
      case h_2 => cases h
      rename_i cs hcs
      split at h
      case h_2 => cases h
      rename_i rows hrows
      cases h
      obtain ⟨b, q, cap, arr, ty, hl, e1, e2, e3, e4⟩ := hc
      obtain ⟨b', q', arr', ty', h3, h4, h5, h6, h7⟩ := hI.ob _ _ (getCells_eq hcs)
      rw [hl] at h3
      cases h3
      rw [e3] at h5
      cases h5
      obtain ⟨r1, r2, r3⟩ := chunkF_get hrows
      rw [e1, ← r1]
      have hcell : ∀ (i : Nat) (row : List D) (j : Nat) (d : D), rows[i]? = some row → row[j]? = some d → ∃ u, arr[q + off + i * k + j]? = some u ∧ RepD ((g.frz S).st w) d u := by
        intro i row j d hi hj
        obtain ⟨c, c1, c2⟩ := r3 i row j d hi hj
        rw [List.getElem?_drop] at c1
        obtain ⟨u, u1, u2, u3⟩ := h7 _ _ c1
        refine ⟨u, ?_, frzD_rep hI c2 u3⟩
        rw [← u1]
        congr 1
        omega
      refine RepD.sl rows _ k cap (fun i j => arr.getD (q + off + i * k + j) undef) (fun _ => rfl) (by omega) r2 ?_ ?_
      · intro i row j d hi hj
        obtain ⟨u, u1, u2⟩ := hcell i row j d hi hj
        exact ⟨rfl, by rw [cell_of e3]; simp [Array.getD_eq_getD_getElem?, u1], .inl (by rw [frz_kind h4, if_pos hnl])⟩
      · intro i row j d hi hj
        obtain ⟨u, u1, u2⟩ := hcell i row j d hi hj
        simpa [Array.getD_eq_getD_getElem?, u1] using u2
    · cases h


theorem killAll_get : ∀ (L : List Nat) (σ : List Ob) (l : Nat), (killAll L σ)[l]? = if l ∈ L ∧ l < σ.length then some .dead else σ[l]?
  | [], σ, l => by simp [killAll]
  | m :: L, σ, l => by
    rw [killAll, killAll_get L (σ.set m .dead) l]
    by_cases h1 : l ∈ L
    · by_cases h2 : l < σ.length
      · simp [h1, h2]
      · simp [h1, h2, List.getElem?_eq_none (Nat.le_of_not_lt h2)]
    · by_cases h3 : l = m
      · subst h3
        by_cases h2 : l < σ.length
        · simp [h2, List.getElem?_set]
        · simp [h2, List.getElem?_eq_none (Nat.le_of_not_lt h2)]
      · have h4 : ¬ m = l := fun e => h3 e.symm
        simp [h1, h3, List.getElem?_set_ne h4]
theorem killAll_len : ∀ (L : List Nat) (σ : List Ob), (killAll L σ).length = σ.length
  | [], σ => rfl
  | m :: L, σ => by rw [killAll, killAll_len L]; simp

theorem frz_inv (hI : Inv g w Pr σ) {L : List Nat} : Inv (g.frz fun l => L.contains l) w Pr (killAll L σ) where
  len := by rw [killAll_len]; exact hI.len
  ob l o ho := by
    rw [killAll_get] at ho
    split at ho
    · cases ho; trivial
    · rename_i hn
      refine RepOb.frame (Ext.frz _) (fun i => Keep.frz _ _) (fun b hb => ⟨rfl, ?_⟩) (hI.ob l o ho)
      have hl := (List.getElem?_eq_some_iff.mp ho).1
      have : L.contains l = false := by
        cases hc : L.contains l with
        | false => rfl
        | true => exact absurd ⟨by simpa using hc, hl⟩ hn
      rw [frz_kind hb, this]; rfl
  lt b h := by
    refine hI.lt b (fun hk => h ?_)
    rw [frz_kind' (fun l => by rw [hk]; simp)]; exact hk
  pr b hb := by
    obtain ⟨h1, h2, h3⟩ := hI.pr b hb
    refine ⟨h1, fun l => ?_, h3⟩
    rw [frz_kind' h2]; exact h2 l

theorem ok_ld_frz {a : Act} {F : Oracle} {bd : Bd} (o : Oper) {t : TypeId} {x : Operand} {x' : Opd} {v : V} (ho : o.op = .load t x) (hx : chkOpd x x' = true)
    (hd : (P.underlying t).isSome = true) (hs : isStr P t = false)
    (hv : stepOp F bd s (.ld .frz none x') = some (v, s')) (hI : Inv g w Pr s.σ) (hE : EnvOk g w Pr s.env a) : OpOk P o a g w Pr s' v := by
  have h1 := opd_rd hE hx (.tmp 0)
  simp only [stepOp] at hv
  split at hv
  case h_2 => cases hv
  rename_i l off hr
  rw [hr] at h1
  obtain ⟨b, q, hl, h2⟩ := h1
  split at hv
  case h_2 => cases hv
  rename_i cs hcs
  split at hv
  case h_2 => cases hv
  rename_i c hc
  split at hv
  case h_2 => cases hv
  rename_i d hfz
  split at hv
  case isFalse => cases hv
  cases hv
  obtain ⟨b', q', arr, ty, h3, h4, h5, h6, h7⟩ := hI.ob _ _ (getCells_eq hcs)
  rw [hl] at h3
  cases h3
  obtain ⟨u, u1, u2, u3⟩ := h7 _ _ hc
  have hcell : w.cell? ⟨b, q + off, none⟩ = some u := by rw [cell_of h5]; exact u1
  have hrun := run_ld1 (P := P) (t := t) hd hs hcell
  refine ⟨u, w, g.frz (fun l => (arrsOf s.σ 4 c).contains l), fun _ _ _ => rfl, .inl ?_, Ext.frz _, Fr.frz _ (fun b hb => (hI.pr b hb).2.1), frz_inv hI, hE.ext (Ext.frz _) (fun _ _ => Keep.frz _ _), fun e _ => frzD_rep hI hfz u3⟩
  simp only [execOp, ho, h2]
  simp only [Sem.run_bind, hrun, Result.andThen_ok]
  rfl
end
end Go.Proofs.Ytjkhkblabhaimaa.Am
