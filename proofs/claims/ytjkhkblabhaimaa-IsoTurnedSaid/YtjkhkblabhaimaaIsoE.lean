/- Searches: what they meet, in which order; renamed heaps. No program in sight. -/
import Derived.Test.YtjkhkblabhaimaaIsoD
namespace Go.Proofs.Ytjkhkblabhaimaa.Am
set_option linter.unusedSimpArgs false
set_option linter.unusedVariables false
open Go

def Bf (h : List GObj) (o : List Int) (t : List GVal) : List Int := bfs h (fuel h o t) o t
theorem Bf_nil {h : List GObj} {o : List Int} : Bf h o [] = o := bfs_end
theorem Bf_cons {h : List GObj} {o : List Int} {v : GVal} {t : List GVal} : Bf h o (v :: t) = if ok h v = true ∧ v.n ∉ o then Bf h (o ++ [v.n]) (t ++ slotsAt h v.n) else Bf h o t := bfs_step
theorem order_B {h : List GObj} {r : List GVal} : order h r = Bf h [] r := rfl

theorem Bf_induct {h : List GObj} {P : List Int → List GVal → Prop} (nil : ∀ o, P o []) (new : ∀ o v t, ok h v = true → v.n ∉ o → P (o ++ [v.n]) (t ++ slotsAt h v.n) → P o (v :: t))
    (old : ∀ o v t, ¬ (ok h v = true ∧ v.n ∉ o) → P o t → P o (v :: t)) : ∀ o t, P o t := by
  have key : ∀ n o t, fuel h o t ≤ n → P o t := by
    intro n
    induction n with
    | zero => intro o t hn; simp [fuel] at hn
    | succ n ih =>
      intro o t hn
      cases t with
      | nil => exact nil o
      | cons v t =>
        by_cases hc : ok h v = true ∧ v.n ∉ o
        · refine new o v t hc.1 hc.2 (ih _ _ ?_)
          obtain ⟨k, rfl, hk⟩ := ok_nat hc.1
          have := unmet_snoc hk hc.2
          simp only [fuel, List.length_append, List.length_cons] at this hn ⊢
          omega
        · refine old o v t hc (ih _ _ ?_)
          simp only [fuel, List.length_cons] at hn ⊢
          omega
  exact fun o t => key _ o t (Nat.le_refl _)

/-- Nothing but what is closed over. -/
theorem Bf_sub {h : List GObj} {R : Int → Prop} (hR : ∀ x, R x → ∀ v ∈ slotsAt h x, ok h v = true → R v.n) : ∀ o t, (∀ x ∈ o, R x) → (∀ v ∈ t, ok h v = true → R v.n) → ∀ x ∈ Bf h o t, R x := by
  refine Bf_induct (h := h) (fun o ho _ => by rw [Bf_nil]; exact ho) (fun o v t h1 h2 ih ho ht => ?_) (fun o v t hc ih ho ht => ?_)
  · rw [Bf_cons, if_pos ⟨h1, h2⟩]
    have hv := ht v (by simp) h1
    refine ih (fun x hx => ?_) (fun u hu hk => ?_)
    · rcases List.mem_append.mp hx with hx | hx
      · exact ho x hx
      · simp at hx; subst hx; exact hv
    · rcases List.mem_append.mp hu with hu | hu
      · exact ht u (by simp [hu]) hk
      · exact hR _ hv u hu hk
  · rw [Bf_cons, if_neg hc]
    exact ih ho (fun u hu => ht u (by simp [hu]))

/-- What was met stays met; all that waits is met; what is met is closed. -/
theorem Bf_all {h : List GObj} : ∀ o t, (∀ x ∈ o, x ∈ Bf h o t) ∧ (∀ v ∈ t, ok h v = true → v.n ∈ Bf h o t) ∧ ((∀ x ∈ o, ∀ v ∈ slotsAt h x, ok h v = true → v.n ∈ o ∨ v ∈ t) → ∀ x ∈ Bf h o t, ∀ v ∈ slotsAt h x, ok h v = true → v.n ∈ Bf h o t) := by
  refine Bf_induct (h := h) (fun o => ?_) (fun o v t h1 h2 ih => ?_) (fun o v t hc ih => ?_)
  · rw [Bf_nil]
    refine ⟨fun x hx => hx, by simp, fun H x hx v hv hk => ?_⟩
    rcases H x hx v hv hk with h | h
    · exact h
    · simp at h
  · rw [Bf_cons, if_pos ⟨h1, h2⟩]
    obtain ⟨i1, i2, i3⟩ := ih
    refine ⟨fun x hx => i1 x (by simp [hx]), fun u hu hk => ?_, fun H => i3 (fun x hx u hu hk => ?_)⟩
    · rcases List.mem_cons.mp hu with rfl | hu
      · exact i1 _ (by simp)
      · exact i2 u (by simp [hu]) hk
    · rcases List.mem_append.mp hx with hx | hx
      · rcases H x hx u hu hk with h | h
        · exact .inl (by simp [h])
        · rcases List.mem_cons.mp h with rfl | h
          · exact .inl (by simp)
          · exact .inr (by simp [h])
      · simp at hx; subst hx; exact .inr (by simp [hu])
  · rw [Bf_cons, if_neg hc]
    obtain ⟨i1, i2, i3⟩ := ih
    have hv : ok h v = true → v.n ∈ o := fun hk => Decidable.byContradiction fun hn => hc ⟨hk, hn⟩
    refine ⟨i1, fun u hu hk => ?_, fun H => i3 (fun x hx u hu hk => ?_)⟩
    · rcases List.mem_cons.mp hu with rfl | hu
      · exact i1 _ (hv hk)
      · exact i2 u hu hk
    · rcases H x hx u hu hk with h | h
      · exact .inl h
      · rcases List.mem_cons.mp h with rfl | h
        · exact .inl (hv hk)
        · exact .inr h

theorem order_roots {h : List GObj} {r : List GVal} {v : GVal} (hv : v ∈ r) (hk : ok h v = true) : v.n ∈ order h r := (Bf_all [] r).2.1 v hv hk
theorem order_closed {h : List GObj} {r : List GVal} {x : Int} (hx : x ∈ order h r) {v : GVal} (hv : v ∈ slotsAt h x) (hk : ok h v = true) : v.n ∈ order h r := (Bf_all [] r).2.2 (by simp) x hx v hv hk

theorem Bf_nodup {h : List GObj} : ∀ o t, o.Nodup → (Bf h o t).Nodup := by
  refine Bf_induct (h := h) (fun o ho => by rw [Bf_nil]; exact ho) (fun o v t h1 h2 ih ho => ?_) (fun o v t hc ih ho => ?_)
  · rw [Bf_cons, if_pos ⟨h1, h2⟩]
    refine ih ?_
    rw [List.nodup_append]
    refine ⟨ho, by simp, fun a ha b hb => ?_⟩
    simp at hb; subst hb; rintro rfl; exact h2 ha
  · rw [Bf_cons, if_neg hc]; exact ih ho
theorem order_nodup (h : List GObj) (r : List GVal) : (order h r).Nodup := Bf_nodup [] r (by simp)

/-- Fewer roots. -/
theorem order_take {h : List GObj} {r : List GVal} (n : Nat) : ∀ x ∈ order h (r.take n), x ∈ order h r :=
  Bf_sub (R := fun x => x ∈ order h r) (fun x hx v hv hk => order_closed hx hv hk) [] _ (by simp) (fun v hv hk => order_roots (List.mem_of_mem_take hv) hk)

/-- Roots that are there already. -/
theorem Bf_more {h : List GObj} {e : List GVal} : ∀ (t : List GVal) (o : List Int) (s : List GVal), (∀ v ∈ e, ok h v = true → v.n ∈ o ∨ v ∈ t) → Bf h o (t ++ (e ++ s)) = Bf h o (t ++ s)
  | [], o, s, he => by
    simp only [List.nil_append]
    have : ∀ e : List GVal, (∀ v ∈ e, ok h v = true → v.n ∈ o) → Bf h o (e ++ s) = Bf h o s := by
      intro e
      induction e with
      | nil => intro _; rfl
      | cons v e ih =>
        intro he
        rw [List.cons_append, Bf_cons, if_neg (fun hc => hc.2 (he v (by simp) hc.1))]
        exact ih (fun u hu => he u (by simp [hu]))
    exact this e (fun v hv hk => by rcases he v hv hk with h | h; exact h; simp at h)
  | v :: t, o, s, he => by
    rw [List.cons_append, List.cons_append, Bf_cons, Bf_cons]
    split
    · rename_i hc
      rw [List.append_assoc, List.append_assoc, List.append_assoc]
      refine Bf_more t _ _ (fun u hu hk => ?_)
      rcases he u hu hk with h | h
      · exact .inl (by simp [h])
      · rcases List.mem_cons.mp h with rfl | h
        · exact .inl (by simp)
        · exact .inr h
    · rename_i hc
      refine Bf_more t _ _ (fun u hu hk => ?_)
      rcases he u hu hk with h | h
      · exact .inl h
      · rcases List.mem_cons.mp h with rfl | h
        · exact .inl (Decidable.byContradiction fun hn => hc ⟨hk, hn⟩)
        · exact .inr h
theorem order_more {h : List GObj} {r e : List GVal} (he : ∀ v ∈ e, v ∈ r) : order h (r ++ e) = order h r := by
  have := Bf_more (h := h) (e := e) r [] [] (fun v hv _ => .inr (he v hv))
  simpa [order_B] using this

/-- A heap that is another one, with other numbers: alike where the search comes. -/
theorem Bf_map {h g : List GObj} {φ : Int → Int} {R : Int → Prop} (hin : ∀ x y, R x → R y → φ x = φ y → x = y)
    (hok : ∀ v, (ok h v = true → R v.n) → (ok g (if v.isRef then ⟨true, φ v.n⟩ else v) = ok h v))
    (hsl : ∀ x, R x → slotsAt g (φ x) = (slotsAt h x).map (fun v => if v.isRef then ⟨true, φ v.n⟩ else v))
    (hR : ∀ x, R x → ∀ v ∈ slotsAt h x, ok h v = true → R v.n) :
    ∀ o t, (∀ x ∈ o, R x) → (∀ v ∈ t, ok h v = true → R v.n) → Bf g (o.map φ) (t.map (fun v => if v.isRef then ⟨true, φ v.n⟩ else v)) = (Bf h o t).map φ := by
  refine Bf_induct (h := h) (fun o ho _ => by simp [Bf_nil]) (fun o v t h1 h2 ih ho ht => ?_) (fun o v t hc ih ho ht => ?_)
  · have hv := ht v (by simp) h1
    have hk := hok v (fun _ => hv)
    obtain ⟨k, rfl, hkl⟩ := ok_nat h1
    simp only [if_true] at hk
    have hno : φ (k : Int) ∉ o.map φ := by
      intro hm
      obtain ⟨x, hx, hxe⟩ := List.mem_map.mp hm
      exact h2 (hin _ _ (ho x hx) hv hxe ▸ hx)
    have hc : ok g ⟨true, φ k⟩ = true ∧ φ k ∉ o.map φ := ⟨by rw [hk]; exact h1, hno⟩
    simp only [List.map_cons, if_true]
    rw [Bf_cons (h := g), if_pos hc, Bf_cons (h := h), if_pos ⟨h1, h2⟩]
    rw [← ih (fun x hx => by
      rcases List.mem_append.mp hx with hx | hx
      · exact ho x hx
      · simp at hx; subst hx; exact hv) (fun u hu hk => by
      rcases List.mem_append.mp hu with hu | hu
      · exact ht u (by simp [hu]) hk
      · exact hR _ hv u hu hk)]
    simp only [if_true, List.map_append, List.map_cons, List.map_nil]
    rw [hsl _ hv]
  · have hk := hok v (fun hk => ht v (by simp) hk)
    rw [List.map_cons, Bf_cons, if_neg, ih ho (fun u hu => ht u (by simp [hu])), Bf_cons, if_neg hc]
    rintro ⟨c1, c2⟩
    rw [hk] at c1
    obtain ⟨k, rfl, hkl⟩ := ok_nat c1
    have hin' : (k : Int) ∈ o := Decidable.byContradiction fun hn => hc ⟨c1, hn⟩
    exact c2 (by simpa using List.mem_map_of_mem (f := φ) hin')

-- Canon, of what Canon tells

theorem ixOf_get {o : List Int} (hn : o.Nodup) {i : Nat} (hi : i < o.length) : ixOf o o[i] = i := by
  rw [ixOf_mem (List.getElem_mem hi), hn.idxOf_getElem]
theorem get_ixOf {o : List Int} {x : Int} (hx : x ∈ o) : ∃ i : Nat, ixOf o x = i ∧ ∃ hi : i < o.length, o[i] = x := by
  refine ⟨o.idxOf x, ixOf_mem hx, List.idxOf_lt_length_of_mem hx, List.getElem_idxOf _⟩

def Rg (n : Nat) : List Int := (List.range n).map fun i : Nat => (i : Int)
theorem ixOf_Rg {n : Nat} {x : Int} : ixOf (Rg n) x = if 0 ≤ x ∧ x < n then x else -1 := by
  have hnd : (Rg n).Nodup := by
    unfold Rg
    rw [List.nodup_iff_pairwise_ne, List.pairwise_map]
    exact (List.nodup_iff_pairwise_ne.mp List.nodup_range).imp (fun h => by omega)
  split
  · rename_i h
    have hl : x.toNat < (Rg n).length := by simp [Rg]; omega
    have := ixOf_get hnd hl
    have e : (Rg n)[x.toNat] = x := by simp [Rg]; omega
    rw [e] at this
    omega
  · rename_i h
    refine ixOf_not (fun hx => h ?_)
    simp only [Rg, List.mem_map, List.mem_range] at hx
    obtain ⟨i, hi, rfl⟩ := hx
    omega

theorem canon_len (h : List GObj) (r : List GVal) : (canon h r).1.length = (order h r).length := by simp [canon]
theorem canon_get {h : List GObj} {r : List GVal} {i : Nat} (hi : i < (canon h r).1.length) (hi' : i < (order h r).length) : (canon h r).1[i] = ⟨((h[((order h r)[i]).toNat]?).getD default).type_, (slotsAt h (order h r)[i]).map (ren (order h r))⟩ := by simp [canon]
theorem canon_slots {h : List GObj} {r : List GVal} {i : Nat} (hi : i < (order h r).length) : slotsAt (canon h r).1 i = (slotsAt h (order h r)[i]).map (ren (order h r)) := by
  have := canon_len h r
  rw [slotsAt_nat (by omega), canon_get (by omega) hi]

theorem ren_eq (o : List Int) : ren o = fun v => if v.isRef then ⟨true, ixOf o v.n⟩ else v := rfl

theorem order_canon (h : List GObj) (r : List GVal) : order (canon h r).1 (canon h r).2 = Rg (order h r).length := by
  have hnd := order_nodup h r
  have hlen := canon_len h r
  have key := Bf_map (h := h) (g := (canon h r).1) (φ := ixOf (order h r)) (R := fun x => x ∈ order h r)
    (fun x y hx hy he => by
      obtain ⟨i, hi, hi1, hi2⟩ := get_ixOf hx
      obtain ⟨j, hj, hj1, hj2⟩ := get_ixOf hy
      have : i = j := by omega
      subst this
      exact hi2.symm.trans hj2)
    (fun v hv => by
      obtain ⟨b, n⟩ := v
      cases b with
      | false => rfl
      | true =>
        simp only [if_true]
        cases hk : ok h ⟨true, n⟩ with
        | true =>
          obtain ⟨i, hi, hi1, hi2⟩ := get_ixOf (hv hk)
          simp only [ok, Bool.and_eq_true, decide_eq_true_eq]
          simp only at hi
          rw [hi]; refine ⟨⟨trivial, by omega⟩, by omega⟩
        | false =>
          have : n ∉ order h r := by
            intro hm
            have := order_in h r n hm
            simp [ok] at hk
            omega
          rw [ixOf_not this]
          simp [ok])
    (fun x hx => by
      obtain ⟨i, hi, hi1, hi2⟩ := get_ixOf hx
      rw [hi, canon_slots hi1, hi2, ren_eq])
    (fun x hx v hv hk => order_closed hx hv hk) [] r (by simp) (fun v hv hk => order_roots hv hk)
  have e : (canon h r).2 = r.map (fun v => if v.isRef then ⟨true, ixOf (order h r) v.n⟩ else v) := rfl
  rw [order_B, e]
  rw [List.map_nil] at key
  rw [key, ← order_B]
  apply List.ext_getElem (by simp [Rg])
  intro i h1 h2
  simp only [List.length_map] at h1
  simp [Rg, ixOf_get hnd h1]

theorem ren_ren {o : List Int} (v : GVal) : ren (Rg o.length) (ren o v) = ren o v := by
  unfold ren
  cases hv : v.isRef with
  | false => simp [hv]
  | true =>
    simp only [if_true]
    congr 1
    rw [ixOf_Rg]
    by_cases hm : v.n ∈ o
    · obtain ⟨i, hi, hi1, hi2⟩ := get_ixOf hm
      rw [hi, if_pos (by omega)]
    · rw [ixOf_not hm]; simp

theorem canon_canon (h : List GObj) (r : List GVal) : canon (canon h r).1 (canon h r).2 = canon h r := by
  have ho := order_canon h r
  have hlen := canon_len h r
  have h1 : (canon (canon h r).1 (canon h r).2).1 = (canon h r).1 := by
    apply List.ext_getElem
    · rw [canon_len, ho, hlen]; simp [Rg]
    · intro i h1 h2
      have hi : i < (order h r).length := by omega
      have hi' : i < (order (canon h r).1 (canon h r).2).length := by rw [ho]; simp [Rg]; exact hi
      rw [canon_get h1 hi']
      have e : (order (canon h r).1 (canon h r).2)[i] = (i : Int) := by simp [ho, Rg]
      rw [e, canon_slots hi, ho]
      have e2 : ((canon h r).1[((i : Int)).toNat]?).getD default = (canon h r).1[i] := by simp [h2]
      rw [e2, canon_get h2 hi]
      simp only [List.map_map]
      congr 1
      apply List.map_congr_left
      intro v _
      exact ren_ren v
  have h2 : (canon (canon h r).1 (canon h r).2).2 = (canon h r).2 := by
    show (canon h r).2.map (ren (order (canon h r).1 (canon h r).2)) = (canon h r).2
    rw [ho]
    show (r.map (ren (order h r))).map (ren (Rg _)) = r.map (ren (order h r))
    rw [List.map_map]
    apply List.map_congr_left
    intro v _
    exact ren_ren v
  exact Prod.ext h1 h2

-- the bounds

theorem unmet_le {h : List GObj} {M : Nat} (hs : ∀ o ∈ h, o.slots.length ≤ M) (o : List Int) : unmet h o ≤ h.length * M := by
  unfold unmet
  have key : ∀ n, n ≤ h.length → ((List.range n).map fun j => if ((j : Nat) : Int) ∈ o then 0 else (slotsAt h (j : Nat)).length).sum ≤ n * M := by
    intro n
    induction n with
    | zero => simp
    | succ n ih =>
      intro hn
      rw [List.range_succ, List.map_append, List.sum_append_nat]
      have h1 := ih (by omega)
      have h2 : (slotsAt h (n : Nat)).length ≤ M := by
        rw [slotsAt_nat (by omega)]
        exact hs _ (List.getElem_mem (by omega))
      simp only [List.map_cons, List.map_nil, List.sum_cons, List.sum_nil]
      rw [Nat.succ_mul]
      split <;> omega
  exact key _ (Nat.le_refl _)

theorem Small.of {h : List GObj} {r : List GVal} (h1 : h.length ≤ 40) (h2 : ∀ o ∈ h, o.slots.length ≤ 999999) (h3 : r.length < 1000000) : Small h r :=
  ⟨h1, fun o ho => by have := h2 o ho; omega, h3, by have := unmet_le h2 []; omega⟩

theorem len_le {o : List Int} {n : Nat} (hn : o.Nodup) (ho : ∀ x ∈ o, 0 ≤ x ∧ x < n) : o.length ≤ n := by
  have h1 : (o.map Int.toNat).Nodup := by
    rw [List.nodup_iff_pairwise_ne, List.pairwise_map]
    refine List.Pairwise.imp_of_mem ?_ (List.nodup_iff_pairwise_ne.mp hn)
    intro a b ha hb hab he
    have := ho a ha; have := ho b hb
    omega
  have h2 : (o.map Int.toNat) ⊆ List.range n := by
    intro x hx
    obtain ⟨y, hy, rfl⟩ := List.mem_map.mp hx
    have := ho y hy
    simp; omega
  have := h1.length_le_of_subset h2
  simpa [order_B] using this

theorem canon_small {h : List GObj} {r : List GVal} (H : Small h r) : Small (canon h r).1 (canon h r).2 := by
  refine Small.of ?_ (fun o ho => ?_) (by have := H.roots; simpa [canon] using this)
  · rw [canon_len]
    have := len_le (order_nodup h r) (order_in h r)
    have := H.len
    omega
  · simp only [canon, List.mem_map] at ho
    obtain ⟨i, hi, rfl⟩ := ho
    have := order_in h r i hi
    obtain ⟨j, rfl⟩ : ∃ j : Nat, i = j := ⟨i.toNat, by omega⟩
    have hj : j < h.length := by omega
    have := H.slots _ (List.getElem_mem hj)
    simp [slotsAt_nat hj]; omega
end Go.Proofs.Ytjkhkblabhaimaa.Am
