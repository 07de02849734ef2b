/- Results: what a call made and nobody writes to any more. -/
import Derived.Test.YtjkhkblabhaimaaAmCut
import Derived.Test.YtjkhkblabhaimaaAmFrz0
namespace Go.Proofs.Ytjkhkblabhaimaa.Am
set_option linter.unusedSimpArgs false
set_option linter.unusedVariables false
open Go
set_option linter.unusedVariables false

section
variable {P : Program} {N : Nat} {g g' g1 g2 : G} {w w' : World} {Pr : Nat → Prop} {s s' : St} {σ : List Ob}

theorem Inv.frz {n : Nat} {τ : List Ob} (hn : τ.length ≤ n) (hI : Inv (g.cut n) w Pr τ) : Inv ((g.frz fun l => decide (n ≤ l)).cut n) w Pr τ where
  len := hI.len
  ob l o ho := by
    refine RepOb.frame (g := g.cut n) (g' := (g.frz fun l => decide (n ≤ l)).cut n) ⟨fun a v h => ?_, fun _ _ h => h, Nat.le_refl _, fun _ arr _ _ h => ⟨arr, h, rfl⟩, rfl, rfl, rfl⟩ (fun i b m h1 h2 => ?_) (fun b hb => ⟨rfl, ?_⟩) (hI.ob l o ho)
    · have := frz_st (g := g) (S := fun l => decide (n ≤ l)) (w := w) (a := a) (v := v) h
      exact this
    · have := Keep.frz (g := g) (fun l => decide (n ≤ l)) (.cell l, i) b m h1 h2
      exact this
    · have hk : g.kind b = .obj l := hb
      have hl := (List.getElem?_eq_some_iff.mp ho).1
      show (g.frz fun l => decide (n ≤ l)).kind b = .obj l
      rw [frz_kind hk, if_neg (by simp; omega)]
  lt b h := by
    refine hI.lt b (fun hk => h ?_)
    have hk' : g.kind b = .free := hk
    show (g.frz fun l => decide (n ≤ l)).kind b = .free
    rw [frz_kind' (fun l => by rw [hk']; simp)]; exact hk'
  pr b hb := by
    obtain ⟨h1, h2, h3⟩ := hI.pr b hb
    refine ⟨h1, fun l => ?_, h3⟩
    have h2' : ∀ l, g.kind b ≠ .obj l := h2
    show (g.frz fun l => decide (n ≤ l)).kind b ≠ .obj l
    rw [frz_kind' h2']; exact h2' l

/-- g2 is g1, with other owners. -/
structure Like (g1 g2 : G) : Prop where
  loc : g2.loc = g1.loc
  kind : g2.kind = g1.kind

theorem like_st (hL : Like g1 g2) {S : Nat → Bool} {a : Addr} {v : Value} (h : (g1.frz S).st w a v) : (g2.frz S).st w a v := by
  simpa only [G.st, G.frz, hL.kind] using h

theorem frzC_rep (hI : Inv g1 w Pr σ) (hL : Like g1 g2) {S : Nat → Bool} {c c' : C} {p : Place} {u : Value} (h : frzC S σ c = some c') (hc : RepC g2 w Pr p c u) : RepC (g2.frz S) w Pr p c' u := by
  have hst : ∀ {d : D}, RepD ((g1.frz S).st w) d u → RepD ((g2.frz S).st w) d u := fun h => RepD.mono (fun _ _ h => like_st hL h) h
  unfold frzC at h
  split at h
  · rename_i k l off len
    split at h
    · split at h
      · rename_i d hd
        cases h
        have hc1 : RepC g1 w Pr p (.b (.arr k l off len)) u := by
          obtain ⟨b, q, cap, arr, ty, hl, e⟩ := hc
          exact ⟨b, q, cap, arr, ty, by rw [← hL.loc]; exact hl, e⟩
        exact hst (frzD_rep hI hd hc1)
      · cases h
    · cases h; exact RepC.ext (Ext.frz S) (Keep.frz S p) hc
  · cases h
    have : u = .slice none 0 0 := hc
    rw [this]; exact RepD.nil
  · cases h
    obtain ⟨ad, cap, rfl⟩ := hc
    exact RepD.sl [] ad 0 cap (fun _ _ => undef) (fun h => absurd rfl h) (by simp) (by simp) (by simp) (by simp)
  · cases h; exact RepC.ext (Ext.frz S) (Keep.frz S p) hc

theorem frzCs_get {S : Nat → Bool} : ∀ {cs cs' : List C}, frzCs S σ cs = some cs' → cs'.length = cs.length ∧ ∀ (i : Nat) (c' : C), cs'[i]? = some c' → ∃ c, cs[i]? = some c ∧ frzC S σ c = some c'
  | [], cs', h => by simp [frzCs] at h; subst h; simp
  | c :: cs, cs', h => by
    simp only [frzCs] at h
    split at h
    · rename_i x xs hx hxs
      cases h
      obtain ⟨h1, h2⟩ := frzCs_get hxs
      refine ⟨by simp [h1], fun j d hj => ?_⟩
      cases j with
      | zero => simp at hj; subst hj; exact ⟨c, rfl, hx⟩
      | succ j => simpa using h2 j d (by simpa using hj)
    · cases h

theorem frz1_rep (hI : Inv g1 w Pr σ) (hL : Like g1 g2) {S : Nat → Bool} {v v' : V} {r : Root} {path : List Nat} {u : Value} (h : frz1 S σ v = some v') (hv : RepV1 g2 w Pr r path v u) : RepV1 (g2.frz S) w Pr r path v' u := by
  cases v with
  | c c =>
    simp only [frz1] at h
    split at h
    · rename_i c' hc'; cases h; exact frzC_rep hI hL hc' hv
    · cases h
  | agg cs =>
    simp only [frz1] at h
    split at h
    · rename_i cs' hcs
      cases h
      obtain ⟨arr, h1, h2, h3⟩ := hv
      obtain ⟨k1, k2⟩ := frzCs_get hcs
      refine ⟨arr, h1, by omega, fun i c' hi => ?_⟩
      obtain ⟨c, c1, c2⟩ := k2 i c' hi
      obtain ⟨u, u1, u2, u3⟩ := h3 i c c1
      exact ⟨u, u1, u2, frzC_rep hI hL c2 u3⟩
    · cases h
  | tup vs => exact hv.elim

theorem frz1s_get {S : Nat → Bool} : ∀ {cs cs' : List V}, frz1s S σ cs = some cs' → ∀ (i : Nat) (c' : V), cs'[i]? = some c' → ∃ c, cs[i]? = some c ∧ frz1 S σ c = some c'
  | [], cs', h => by simp [frz1s] at h; subst h; simp
  | c :: cs, cs', h => by
    simp only [frz1s] at h
    split at h
    · rename_i x xs hx hxs
      cases h
      have h2 := frz1s_get hxs
      intro j d hj
      cases j with
      | zero => simp at hj; subst hj; exact ⟨c, rfl, hx⟩
      | succ j => simpa using h2 j d (by simpa using hj)
    · cases h

theorem frzV_rep (hI : Inv g1 w Pr σ) (hL : Like g1 g2) {S : Nat → Bool} {v v' : V} {r : Root} {u : Value} (h : frzV S σ v = some v') (hv : RepV g2 w Pr r v u) : RepV (g2.frz S) w Pr r v' u := by
  cases v with
  | c c =>
    have h' : frz1 S σ (.c c) = some v' := h
    have := frz1_rep (path := []) hI hL h' hv
    simp only [frz1] at h'
    split at h'
    · cases h'; exact this
    · cases h'
  | agg cs =>
    have h' : frz1 S σ (.agg cs) = some v' := h
    have := frz1_rep (path := []) hI hL h' hv
    simp only [frz1] at h'
    split at h'
    · cases h'; exact this
    · cases h'
  | tup vs =>
    simp only [frzV] at h
    split at h
    · rename_i vs' hvs
      cases h
      obtain ⟨arr, h1, h2⟩ := hv
      refine ⟨arr, h1, fun i x hi => ?_⟩
      obtain ⟨y, y1, y2⟩ := frz1s_get hvs i x hi
      obtain ⟨u, u1, u2⟩ := h2 i y y1
      exact ⟨u, u1, frz1_rep hI hL y2 u2⟩
    · cases h
end
end Go.Proofs.Ytjkhkblabhaimaa.Am
