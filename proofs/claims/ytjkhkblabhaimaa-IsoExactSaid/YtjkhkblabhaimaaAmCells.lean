/- Slices in objects: their cells. -/
import Derived.Test.YtjkhkblabhaimaaAmScan
namespace Go.Proofs.Ytjkhkblabhaimaa.Am
set_option linter.unusedSimpArgs false
set_option linter.unusedVariables false
open Go

def box1 (d : D) : C := .b (.d d)

section
variable {α : Type} [Rec α]

theorem cl_nil : cellsOf ([] : List α) = [] := rfl
theorem cl_cons (x : α) (l : List α) : cellsOf (x :: l) = (Rec.row x).map box1 ++ cellsOf l := by simp only [cellsOf, rows, List.map_cons, List.flatten_cons, List.map_append]; rfl
theorem cl_app (a b : List α) : cellsOf a ++ cellsOf b = cellsOf (a ++ b) := by simp [cellsOf, rows]
theorem cl_len {n : Nat} (h : Rec.k α = n) (l : List α) : (cellsOf l).length = l.length * n := by
  induction l with
  | nil => simp [cl_nil]
  | cons x l ih => rw [cl_cons, List.length_append, ih, List.length_map, Rec.len, h, List.length_cons, Nat.succ_mul]; omega

theorem cl_split {n : Nat} (h : Rec.k α = n) {l : List α} {i : Nat} (hi : i < l.length) : cellsOf l = cellsOf (l.take i) ++ ((Rec.row l[i]).map box1 ++ cellsOf (l.drop (i + 1))) ∧ (cellsOf (l.take i)).length = i * n ∧ ((Rec.row l[i]).map box1).length = n := by
  refine ⟨?_, by rw [cl_len h, List.length_take, Nat.min_eq_left (by omega)], by rw [List.length_map, Rec.len, h]⟩
  rw [← cl_cons, cl_app]
  congr 1
  rw [← List.drop_eq_getElem_cons hi, List.take_append_drop]

theorem cl_take {n : Nat} (h : Rec.k α = n) {l : List α} {i : Nat} (hi : i < l.length) : ((cellsOf l).drop (i * n)).take n = (Rec.row l[i]).map box1 := by
  obtain ⟨h1, h2, h3⟩ := cl_split h hi
  rw [h1, ← h2, List.drop_left, ← h3, List.take_left]

theorem cl_get {n : Nat} (h : Rec.k α = n) {l : List α} {i j : Nat} (hi : i < l.length) (hj : j < n) : (cellsOf l)[i * n + j]? = ((Rec.row l[i])[j]?).map box1 := by
  obtain ⟨h1, h2, h3⟩ := cl_split h hi
  rw [h1, List.getElem?_append_right (by omega), h2, Nat.add_sub_cancel_left, List.getElem?_append_left (by omega), List.getElem?_map]

theorem putAt_mid (A M B P : List C) {j : Nat} (hj : j + P.length ≤ M.length) : putAt (A ++ (M ++ B)) (A.length + j) P = some (A ++ ((M.take j ++ P ++ M.drop (j + P.length)) ++ B)) := by
  unfold putAt
  rw [if_pos (by simp; omega)]
  have e1 : (A ++ (M ++ B)).take (A.length + j) = A ++ M.take j := by
    rw [List.take_length_add_append, List.take_append_of_le_length (by omega)]
  have e2 : (A ++ (M ++ B)).drop (A.length + j + P.length) = M.drop (j + P.length) ++ B := by
    rw [Nat.add_assoc, List.drop_length_add_append, List.drop_append_of_le_length (by omega)]
  rw [e1, e2]
  simp only [List.append_assoc]

/-- A part of an element is written. -/
theorem cl_put {n : Nat} (h : Rec.k α = n) {l : List α} {i j : Nat} (hi : i < l.length) {v : α} {ds : List D} (hj : j + ds.length ≤ n) (hv : Rec.row v = (Rec.row l[i]).take j ++ ds ++ (Rec.row l[i]).drop (j + ds.length)) :
    putAt (cellsOf l) (i * n + j) (ds.map box1) = some (cellsOf (l.set i v)) := by
  obtain ⟨h1, h2, h3⟩ := cl_split h hi
  have hi' : i < (l.set i v).length := by simpa using hi
  obtain ⟨g1, g2, g3⟩ := cl_split h hi'
  have e1 : (l.set i v).take i = l.take i := by rw [List.take_set_of_le (Nat.le_refl _)]
  have e2 : (l.set i v).drop (i + 1) = l.drop (i + 1) := by rw [List.drop_set_of_lt (by omega)]
  rw [e1, e2, List.getElem_set_self] at g1
  rw [g1, hv, h1, ← h2, putAt_mid _ _ _ _ (by rw [List.length_map, h3]; exact hj)]
  simp only [List.map_append, List.map_take, List.map_drop, List.length_map]

theorem chunk_cl {n : Nat} (h : Rec.k α = n) : ∀ (l : List α), chunk n l.length (cellsOf l) = some (rows l)
  | [] => rfl
  | x :: l => by
    have ih := chunk_cl h l
    have hd : ∀ ds : List D, datas (ds.map box1) = some ds := by
      intro ds
      induction ds with
      | nil => rfl
      | cons d ds ihd => simp only [List.map_cons, datas, ihd]; rfl
    have h3 : ((Rec.row x).map box1).length = n := by rw [List.length_map, Rec.len, h]
    rw [List.length_cons, cl_cons]
    simp only [chunk]
    rw [← h3, List.take_left, List.drop_left, hd, h3, ih]
    simp [row_len h, rows]

theorem datasF_box {S : Nat → Bool} {σ : List Ob} {f : Nat} (ds : List D) : datasF (frzD S σ (f + 1)) (ds.map box1) = some ds := by
  induction ds with
  | nil => rfl
  | cons d ds ih => simp only [List.map_cons, datasF, ih]; rfl
theorem chunkF_cl {S : Nat → Bool} {σ : List Ob} {f : Nat} {n : Nat} (h : Rec.k α = n) : ∀ (l : List α), chunkF (frzD S σ (f + 1)) n l.length (cellsOf l) = some (rows l)
  | [] => rfl
  | x :: l => by
    have ih := chunkF_cl (S := S) (σ := σ) (f := f) h l
    have h3 : ((Rec.row x).map box1).length = n := by rw [List.length_map, Rec.len, h]
    rw [List.length_cons, cl_cons]
    simp only [chunkF]
    rw [← h3, List.take_left, List.drop_left, datasF_box, h3, ih]
    simp [row_len h, rows]
theorem arrs_cl {σ : List Ob} {f : Nat} (l : List α) : (cellsOf l).flatMap (arrsOf σ f) = [] := by
  rw [List.flatMap_eq_nil_iff]
  intro c hc
  simp only [cellsOf, List.mem_map] at hc
  obtain ⟨d, _, rfl⟩ := hc
  cases f <;> rfl

theorem cl_down (l : List α) : (cellsOf l).map C.down = cellsOf l := by
  unfold cellsOf
  rw [List.map_map]
  rfl
theorem cl_closed {n : Nat} (l : List α) : (cellsOf l).all (C.closed n) = true := by
  unfold cellsOf
  simp [C.closed, B.closed]

theorem elems_rows {n : Nat} (h : Rec.k α = n) (σ : List Ob) (l : List α) : elems σ n (vsl l) = some (l.length, cellsOf l) := by
  simp only [elems, rs_all h, if_true, rs_len]; rfl
end
end Go.Proofs.Ytjkhkblabhaimaa.Am
