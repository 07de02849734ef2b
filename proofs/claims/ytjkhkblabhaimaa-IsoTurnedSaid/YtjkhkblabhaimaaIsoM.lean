/- A heap with its objects in another order. -/
import Derived.Test.YtjkhkblabhaimaaIsoI
namespace Go.Proofs.Ytjkhkblabhaimaa.Am
set_option linter.unusedSimpArgs false
set_option linter.unusedVariables false
open Go

/-- An object's number when the heap is turned. -/
def rot (n s : Nat) (x : Int) : Int := if 0 ≤ x ∧ x < n then (if x < s then x - s + n else x - s) else -1
def tv (n s : Nat) (v : GVal) : GVal := if v.isRef then ⟨true, rot n s v.n⟩ else v
def turnO (h : List GObj) (s i : Nat) : GObj := ⟨((h[(i + s) % h.length]?).getD default).type_, ((h[(i + s) % h.length]?).getD default).slots.map (tv h.length s)⟩
def turnH (h : List GObj) (s : Nat) : List GObj := (List.range h.length).map (turnO h s)

theorem rot_in {n s : Nat} (hs : s < n) {x : Int} (hx : 0 ≤ x ∧ x < n) : 0 ≤ rot n s x ∧ rot n s x < n := by
  unfold rot
  rw [if_pos hx]
  split <;> omega
theorem rot_inj {n s : Nat} (hs : s < n) {x y : Int} (hx : 0 ≤ x ∧ x < n) (hy : 0 ≤ y ∧ y < n) (h : rot n s x = rot n s y) : x = y := by
  unfold rot at h
  rw [if_pos hx, if_pos hy] at h
  split at h <;> split at h <;> omega
theorem rot_back {n s : Nat} (hs : s < n) {j : Nat} (hj : j < n) : ∃ i : Nat, rot n s j = i ∧ i < n ∧ (i + s) % n = j := by
  unfold rot
  rw [if_pos (by omega)]
  split
  · refine ⟨j + n - s, by omega, by omega, ?_⟩
    rw [show j + n - s + s = j + n by omega, Nat.add_mod_right, Nat.mod_eq_of_lt hj]
  · refine ⟨j - s, by omega, by omega, ?_⟩
    rw [show j - s + s = j by omega, Nat.mod_eq_of_lt hj]

theorem turnH_len (h : List GObj) (s : Nat) : (turnH h s).length = h.length := by simp [turnH]

theorem turnH_at {h : List GObj} {s : Nat} (hs : s < h.length) (e : List GObj) {x : Int} (hx : 0 ≤ x ∧ x < h.length) :
    (turnH h s ++ e)[(rot h.length s x).toNat]? = (h[x.toNat]?).map fun o => ⟨o.type_, o.slots.map (tv h.length s)⟩ := by
  obtain ⟨j, rfl⟩ : ∃ j : Nat, x = j := ⟨x.toNat, by omega⟩
  have hj : j < h.length := by omega
  obtain ⟨i, h1, h2, h3⟩ := rot_back hs hj
  rw [h1, Int.toNat_natCast, Int.toNat_natCast, List.getElem?_append_left (by rw [turnH_len]; exact h2), List.getElem?_eq_getElem hj]
  simp [turnH, h2, turnO, h3, hj]

theorem order_turn {h : List GObj} {s : Nat} (hs : s < h.length) (e : List GObj) (r : List GVal) : order (turnH h s ++ e) (r.map (tv h.length s)) = (order h r).map (rot h.length s) := by
  have key := Bf_map (h := h) (g := turnH h s ++ e) (φ := rot h.length s) (R := fun x => 0 ≤ x ∧ x < h.length)
    (fun x y hx hy he => rot_inj hs hx hy he)
    (fun v hv => by
      obtain ⟨b, n⟩ := v
      cases b with
      | false => rfl
      | true =>
        simp only [if_true]
        by_cases hn : 0 ≤ n ∧ n < h.length
        · have := rot_in hs hn
          have h1 : ok h ⟨true, n⟩ = true := by simp [ok, hn]
          rw [h1]
          simp only [ok, Bool.and_eq_true, decide_eq_true_eq, List.length_append, turnH_len]
          refine ⟨⟨trivial, this.1⟩, by omega⟩
        · have h1 : ok h ⟨true, n⟩ = false := by simp [ok]; omega
          have h2 : rot h.length s n = -1 := by unfold rot; rw [if_neg hn]
          rw [h1, h2]
          simp [ok])
    (fun x hx => by
      unfold slotsAt
      rw [turnH_at hs e hx]
      cases h[x.toNat]? <;> rfl)
    (fun x hx v hv hk => by
      simp only [ok, Bool.and_eq_true, decide_eq_true_eq] at hk
      exact ⟨hk.1.2, hk.2⟩) [] r (by simp) (fun v hv hk => by
      simp only [ok, Bool.and_eq_true, decide_eq_true_eq] at hk
      exact ⟨hk.1.2, hk.2⟩)
  rw [List.map_nil] at key
  rw [order_B, order_B]
  exact key

theorem ixOf_turn {n s : Nat} (hs : s < n) {o : List Int} (ho : ∀ x ∈ o, 0 ≤ x ∧ x < n) (x : Int) : ixOf (o.map (rot n s)) (rot n s x) = ixOf o x := by
  by_cases hx : 0 ≤ x ∧ x < n
  · induction o with
    | nil => rfl
    | cons y o ih =>
      have ih := ih (fun z hz => ho z (by simp [hz]))
      have hy := ho y (by simp)
      by_cases hxy : y = x
      · subst hxy
        rw [ixOf_mem (by simp), ixOf_mem (by simp)]
        simp
      · have hne : rot n s y ≠ rot n s x := fun h => hxy (rot_inj hs hy hx h)
        by_cases hm : x ∈ o
        · have hm' : rot n s x ∈ o.map (rot n s) := List.mem_map_of_mem hm
          rw [ixOf_mem hm, ixOf_mem hm'] at ih
          rw [List.map_cons, ixOf_mem (List.mem_cons_of_mem _ hm), ixOf_mem (List.mem_cons_of_mem _ hm'), List.idxOf_cons, List.idxOf_cons]
          have b1 : (rot n s y == rot n s x) = false := by simpa using hne
          have b2 : (y == x) = false := by simpa using hxy
          rw [b1, b2]
          simp only [cond_false]
          omega
        · have hm' : rot n s x ∉ o.map (rot n s) := by
            intro h
            obtain ⟨z, hz, he⟩ := List.mem_map.mp h
            exact hm (rot_inj hs (ho z (by simp [hz])) hx he ▸ hz)
          have hn1 : rot n s x ∉ (y :: o).map (rot n s) := by
            rw [List.map_cons, List.mem_cons]
            rintro (h | h)
            · exact hne h.symm
            · exact hm' h
          have hn2 : x ∉ y :: o := by
            rw [List.mem_cons]
            rintro (h | h)
            · exact hxy h.symm
            · exact hm h
          rw [ixOf_not hn1, ixOf_not hn2]
  · have h1 : rot n s x = -1 := by unfold rot; rw [if_neg hx]
    rw [h1, ixOf_not (fun h => hx (ho x h)), ixOf_not]
    intro h
    obtain ⟨z, hz, he⟩ := List.mem_map.mp h
    have := rot_in hs (ho z hz)
    omega

theorem ren_turn {n s : Nat} (hs : s < n) {o : List Int} (ho : ∀ x ∈ o, 0 ≤ x ∧ x < n) (v : GVal) : ren (o.map (rot n s)) (tv n s v) = ren o v := by
  unfold ren tv
  cases hv : v.isRef with
  | false => simp [hv]
  | true => simp only [if_true]; rw [ixOf_turn hs ho]

theorem canon_turn {h : List GObj} {s : Nat} (hs : s < h.length) (e : List GObj) (r : List GVal) : canon (turnH h s ++ e) (r.map (tv h.length s)) = canon h r := by
  have ho := order_in h r
  have hr : ∀ v, ren ((order h r).map (rot h.length s)) (tv h.length s v) = ren (order h r) v := ren_turn hs ho
  unfold canon
  simp only [order_turn hs e r, List.map_map, Prod.mk.injEq]
  refine ⟨List.map_congr_left fun x hx => ?_, List.map_congr_left fun v _ => hr v⟩
  simp only [Function.comp]
  have ha := turnH_at hs e (ho x hx)
  unfold slotsAt
  rw [ha]
  cases h[x.toNat]? with
  | none => rfl
  | some ob =>
    simp only [Option.map_some, Option.getD_some, List.map_map, GObj.mk.injEq, true_and]
    exact List.map_congr_left fun v _ => hr v
end Go.Proofs.Ytjkhkblabhaimaa.Am
