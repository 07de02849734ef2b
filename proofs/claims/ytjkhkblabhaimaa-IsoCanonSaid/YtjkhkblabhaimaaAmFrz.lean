/- Results: what a call made and nobody writes to any more. -/
import Derived.Test.YtjkhkblabhaimaaAmCut
namespace Go.Proofs.Ytjkhkblabhaimaa.Am
set_option linter.unusedSimpArgs false
set_option linter.unusedVariables false
open Go
set_option linter.unusedVariables false

section
variable {P : Program} {N : Nat} {g g' g1 g2 : G} {w w' : World} {Pr : Nat → Prop} {s s' : St} {σ : List Ob}

def G.frz (g : G) (n : Nat) : G := { g with kind := fun b => match g.kind b with | .obj l => if n ≤ l then .frozen else .obj l | k => k }

theorem frz_kind {n b l : Nat} (h : g.kind b = .obj l) : (g.frz n).kind b = if n ≤ l then .frozen else .obj l := by simp only [G.frz, h]
theorem frz_kind' {n b : Nat} (h : ∀ l, g.kind b ≠ .obj l) : (g.frz n).kind b = g.kind b := by
  show (match g.kind b with | .obj l => if n ≤ l then .frozen else .obj l | k => k) = g.kind b
  split
  · rename_i l hk; exact absurd hk (h l)
  · rfl

theorem frz_st {n : Nat} {a : Addr} {v : Value} (h : g.st w a v) : (g.frz n).st w a v := by
  obtain ⟨h1, h2, h3⟩ := h
  refine ⟨h1, h2, ?_⟩
  rcases h3 with h3 | ⟨m, h3, h4⟩
  · exact .inl (by rw [frz_kind' (fun l => by rw [h3]; simp)]; exact h3)
  · exact .inr ⟨m, by rw [frz_kind' (fun l => by rw [h3]; simp)]; exact h3, h4⟩

theorem Ext.frz (n : Nat) : Ext g w (g.frz n) w := ⟨fun _ _ h => frz_st h, fun _ _ h => h, Nat.le_refl _, fun _ arr _ _ h => ⟨arr, h, rfl⟩, rfl, rfl, rfl⟩
theorem Keep.frz (n : Nat) (p : Place) : Keep g (g.frz n) p := fun b m h1 h2 => ⟨h1, by rw [frz_kind' (fun l => by rw [h2]; simp)]; exact h2⟩
theorem Fr.frz (n : Nat) (hp : ∀ b, Pr b → ∀ l, g.kind b ≠ .obj l) : Fr Pr g w (g.frz n) w := fun b hb => ⟨rfl, frz_kind' (hp b hb), rfl⟩

theorem Inv.frz {n : Nat} {τ : List Ob} (hn : τ.length ≤ n) (hI : Inv (g.cut n) w Pr τ) : Inv ((g.frz n).cut n) w Pr τ where
  len := hI.len
  ob l o ho := by
    refine RepOb.frame (g := g.cut n) (g' := (g.frz n).cut n) ⟨fun a v h => ?_, fun _ _ h => h, Nat.le_refl _, fun _ arr _ _ h => ⟨arr, h, rfl⟩, rfl, rfl, rfl⟩ (fun i b m h1 h2 => ?_) (fun b hb => ⟨rfl, ?_⟩) (hI.ob l o ho)
    · have := frz_st (g := g) (n := n) (w := w) (a := a) (v := v) h
      exact this
    · have := Keep.frz (g := g) n (.cell l, i) b m h1 h2
      exact this
    · have hk : g.kind b = .obj l := hb
      have hl := (List.getElem?_eq_some_iff.mp ho).1
      show (g.frz n).kind b = .obj l
      rw [frz_kind hk, if_neg (by omega)]
  lt b h := by
    refine hI.lt b (fun hk => h ?_)
    have hk' : g.kind b = .free := hk
    show (g.frz n).kind b = .free
    rw [frz_kind' (fun l => by rw [hk']; simp)]; exact hk'
  pr b hb := by
    obtain ⟨h1, h2, h3⟩ := hI.pr b hb
    refine ⟨h1, fun l => ?_, h3⟩
    have h2' : ∀ l, g.kind b ≠ .obj l := h2
    show (g.frz n).kind b ≠ .obj l
    rw [frz_kind' h2']; exact h2' l

theorem datasF_get {h : C → Option D} : ∀ {cs : List C} {ds : List D}, datasF h cs = some ds → ds.length = cs.length ∧ ∀ (j : Nat) (d : D), ds[j]? = some d → ∃ c, cs[j]? = some c ∧ h c = some d
  | [], ds, h => by simp [datasF] at h; subst h; simp
  | c :: cs, ds, h => by
    simp only [datasF] at h
    split at h
    · rename_i x xs hx hxs
      cases h
      obtain ⟨h1, h2⟩ := datasF_get hxs
      refine ⟨by simp [h1], fun j d hj => ?_⟩
      cases j with
      | zero => simp at hj; subst hj; exact ⟨c, rfl, hx⟩
      | succ j => simpa using h2 j d (by simpa using hj)
    · cases h

theorem chunkF_get {h : C → Option D} : ∀ {k n : Nat} {cs : List C} {rows : List (List D)}, chunkF h k n cs = some rows → rows.length = n ∧ (∀ r ∈ rows, r.length = k) ∧
    ∀ (i : Nat) (row : List D) (j : Nat) (d : D), rows[i]? = some row → row[j]? = some d → ∃ c, cs[i * k + j]? = some c ∧ h c = some d
  | k, 0, cs, rows, h => by simp [chunkF] at h; subst h; simp
  | k, n + 1, cs, rows, h => by
    simp only [chunkF] at h
    split at h
    · rename_i r rs hr hrs
      split at h
      · rename_i hk
        cases h
        obtain ⟨h1, h2, h3⟩ := chunkF_get hrs
        obtain ⟨d1, d2⟩ := datasF_get hr
        refine ⟨by simp [h1], by simpa [hk] using h2, fun i row j d hi hj => ?_⟩
        cases i with
        | zero =>
          simp at hi; subst hi
          obtain ⟨c, c1, c2⟩ := d2 j d hj
          rw [List.getElem?_take] at c1
          split at c1
          · exact ⟨c, by simpa using c1, c2⟩
          · cases c1
        | succ i =>
          obtain ⟨c, c1, c2⟩ := h3 i row j d (by simpa using hi) hj
          rw [List.getElem?_drop] at c1
          exact ⟨c, by rw [Nat.succ_mul, Nat.add_right_comm, Nat.add_comm]; exact c1, c2⟩
      · cases h
    · cases h

theorem frzD_rep (hI : Inv g w Pr σ) {n : Nat} : ∀ {f : Nat} {c : C} {d : D} {p : Place} {u : Value}, frzD σ n f c = some d → RepC g w Pr p c u → RepD ((g.frz n).st w) d u
  | 0, c, d, p, u, h, hc => by simp [frzD] at h
  | f + 1, c, d, p, u, h, hc => by
    simp only [frzD] at h
    split at h
    · cases h; exact RepD.mono (fun _ _ h => frz_st h) hc
    · cases h; exact RepD.mono (fun _ _ h => frz_st h) hc.1
    · cases h
      have : u = .slice none 0 0 := hc
      rw [this]; exact RepD.nil
    · cases h
      obtain ⟨ad, cap, rfl⟩ := hc
      exact RepD.sl [] ad 0 cap (fun _ _ => undef) (fun h => absurd rfl h) (by simp) (by simp) (by simp) (by simp)
    · rename_i k l off len
      split at h
      case isFalse => cases h
      rename_i hnl
      split at h
      case h_2 => cases h
      rename_i cs hcs
      split at h
      case h_2 => cases h
      rename_i rows hrows
      cases h
      obtain ⟨b, q, cap, arr, ty, hl, e1, e2, e3, e4⟩ := hc
      obtain ⟨b', q', arr', ty', h3, h4, h5, h6, h7⟩ := hI.ob _ _ (getCells_eq hcs)
      rw [hl] at h3
      cases h3
      rw [e3] at h5
      cases h5
      obtain ⟨r1, r2, r3⟩ := chunkF_get hrows
      rw [e1, ← r1]
      have hcell : ∀ (i : Nat) (row : List D) (j : Nat) (d : D), rows[i]? = some row → row[j]? = some d → ∃ u, arr[q + off + i * k + j]? = some u ∧ RepD ((g.frz n).st w) d u := by
        intro i row j d hi hj
        obtain ⟨c, c1, c2⟩ := r3 i row j d hi hj
        rw [List.getElem?_drop] at c1
        obtain ⟨u, u1, u2, u3⟩ := h7 _ _ c1
        refine ⟨u, ?_, frzD_rep hI c2 u3⟩
        rw [← u1]
        congr 1
        omega
      refine RepD.sl rows _ k cap (fun i j => arr.getD (q + off + i * k + j) undef) (fun _ => rfl) (by omega) r2 ?_ ?_
      · intro i row j d hi hj
        obtain ⟨u, u1, u2⟩ := hcell i row j d hi hj
        exact ⟨rfl, by rw [cell_of e3]; simp [Array.getD_eq_getD_getElem?, u1], .inl (by rw [frz_kind h4, if_pos hnl])⟩
      · intro i row j d hi hj
        obtain ⟨u, u1, u2⟩ := hcell i row j d hi hj
        simpa [Array.getD_eq_getD_getElem?, u1] using u2
    · cases h

/-- g2 is g1, with other owners. -/
structure Like (g1 g2 : G) : Prop where
  loc : g2.loc = g1.loc
  kind : g2.kind = g1.kind

theorem like_st (hL : Like g1 g2) {n : Nat} {a : Addr} {v : Value} (h : (g1.frz n).st w a v) : (g2.frz n).st w a v := by
  simpa only [G.st, G.frz, hL.kind] using h

theorem frzC_rep (hI : Inv g1 w Pr σ) (hL : Like g1 g2) {n : Nat} {c c' : C} {p : Place} {u : Value} (h : frzC σ n c = some c') (hc : RepC g2 w Pr p c u) : RepC (g2.frz n) w Pr p c' u := by
  have hst : ∀ {d : D}, RepD ((g1.frz n).st w) d u → RepD ((g2.frz n).st w) d u := fun h => RepD.mono (fun _ _ h => like_st hL h) h
  unfold frzC at h
  split at h
  · rename_i k l off len
    split at h
    · split at h
      · rename_i d hd
        cases h
        have hc1 : RepC g1 w Pr p (.b (.arr k l off len)) u := by
          obtain ⟨b, q, cap, arr, ty, hl, e⟩ := hc
          exact ⟨b, q, cap, arr, ty, by rw [← hL.loc]; exact hl, e⟩
        exact hst (frzD_rep hI hd hc1)
      · cases h
    · cases h; exact RepC.ext (Ext.frz n) (Keep.frz n p) hc
  · cases h
    have : u = .slice none 0 0 := hc
    rw [this]; exact RepD.nil
  · cases h
    obtain ⟨ad, cap, rfl⟩ := hc
    exact RepD.sl [] ad 0 cap (fun _ _ => undef) (fun h => absurd rfl h) (by simp) (by simp) (by simp) (by simp)
  · cases h; exact RepC.ext (Ext.frz n) (Keep.frz n p) hc

theorem frzCs_get {n : Nat} : ∀ {cs cs' : List C}, frzCs σ n cs = some cs' → cs'.length = cs.length ∧ ∀ (i : Nat) (c' : C), cs'[i]? = some c' → ∃ c, cs[i]? = some c ∧ frzC σ n c = some c'
  | [], cs', h => by simp [frzCs] at h; subst h; simp
  | c :: cs, cs', h => by
    simp only [frzCs] at h
    split at h
    · rename_i x xs hx hxs
      cases h
      obtain ⟨h1, h2⟩ := frzCs_get hxs
      refine ⟨by simp [h1], fun j d hj => ?_⟩
      cases j with
      | zero => simp at hj; subst hj; exact ⟨c, rfl, hx⟩
      | succ j => simpa using h2 j d (by simpa using hj)
    · cases h

theorem frz1_rep (hI : Inv g1 w Pr σ) (hL : Like g1 g2) {n : Nat} {v v' : V} {r : Root} {path : List Nat} {u : Value} (h : frz1 σ n v = some v') (hv : RepV1 g2 w Pr r path v u) : RepV1 (g2.frz n) w Pr r path v' u := by
  cases v with
  | c c =>
    simp only [frz1] at h
    split at h
    · rename_i c' hc'; cases h; exact frzC_rep hI hL hc' hv
    · cases h
  | agg cs =>
    simp only [frz1] at h
    split at h
    · rename_i cs' hcs
      cases h
      obtain ⟨arr, h1, h2, h3⟩ := hv
      obtain ⟨k1, k2⟩ := frzCs_get hcs
      refine ⟨arr, h1, by omega, fun i c' hi => ?_⟩
      obtain ⟨c, c1, c2⟩ := k2 i c' hi
      obtain ⟨u, u1, u2, u3⟩ := h3 i c c1
      exact ⟨u, u1, u2, frzC_rep hI hL c2 u3⟩
    · cases h
  | tup vs => exact hv.elim

theorem frz1s_get {n : Nat} : ∀ {cs cs' : List V}, frz1s σ n cs = some cs' → ∀ (i : Nat) (c' : V), cs'[i]? = some c' → ∃ c, cs[i]? = some c ∧ frz1 σ n c = some c'
  | [], cs', h => by simp [frz1s] at h; subst h; simp
  | c :: cs, cs', h => by
    simp only [frz1s] at h
    split at h
    · rename_i x xs hx hxs
      cases h
      have h2 := frz1s_get hxs
      intro j d hj
      cases j with
      | zero => simp at hj; subst hj; exact ⟨c, rfl, hx⟩
      | succ j => simpa using h2 j d (by simpa using hj)
    · cases h

theorem frzV_rep (hI : Inv g1 w Pr σ) (hL : Like g1 g2) {n : Nat} {v v' : V} {r : Root} {u : Value} (h : frzV σ n v = some v') (hv : RepV g2 w Pr r v u) : RepV (g2.frz n) w Pr r v' u := by
  cases v with
  | c c =>
    have h' : frz1 σ n (.c c) = some v' := h
    have := frz1_rep (path := []) hI hL h' hv
    simp only [frz1] at h'
    split at h'
    · cases h'; exact this
    · cases h'
  | agg cs =>
    have h' : frz1 σ n (.agg cs) = some v' := h
    have := frz1_rep (path := []) hI hL h' hv
    simp only [frz1] at h'
    split at h'
    · cases h'; exact this
    · cases h'
  | tup vs =>
    simp only [frzV] at h
    split at h
    · rename_i vs' hvs
      cases h
      obtain ⟨arr, h1, h2⟩ := hv
      refine ⟨arr, h1, fun i x hi => ?_⟩
      obtain ⟨y, y1, y2⟩ := frz1s_get hvs i x hi
      obtain ⟨u, u1, u2⟩ := h2 i y y1
      exact ⟨u, u1, frz1_rep hI hL y2 u2⟩
    · cases h
end
end Go.Proofs.Ytjkhkblabhaimaa.Am
