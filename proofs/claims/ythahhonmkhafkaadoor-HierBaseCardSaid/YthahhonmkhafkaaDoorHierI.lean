/- The page's words on who is above whom. Written by wip/tools/hi.py. -/
import Derived.Test.YthahhonmkhafkaaDoorHierH
namespace Go.Proofs.YthahhonmkhafkaaDoor.Am
set_option linter.unusedSimpArgs false
set_option linter.unusedVariables false
set_option linter.unusedSectionVars false
open Go
attribute [local simp ↓] K_seq K_cond K_block K_region K_skip K_exit K_ret K_wrap KA_nil KA_none KA_some str_eq
attribute [local simp] beq_int bne_int dec_eqN dec_ltN dec_leN stepOp St.rd St.raw St.set St.took get_cons V.down C.down Env.keep binV unV arith isShift strs intOf optInt wrapEnd keptAt andK endOf frzV frz1 frzC frzCs frz1s resOf resOne resAll V.closed V.closed1 C.closed B.closed Ob.closed V.cells partsIn rep chunk datas C.data rowsOf getCells put_nil put_zero put_succ mayWrite C.plain eqV_bool eqV_agg eqV_pnn eqV_pnp eqV_ppn eqV_mnn eqV_mmn eqV_snn eqV_sen eqV_san eqV_sdn rs_len rs_getE rs_app rs_take rs_drop rs_all rs_each row_len str_nilP str_nilE str_nilB vagg row_Int row_Bool row_Str k_Int k_Bool k_Str snoc_Int snoc_Bool snoc_Str row_Type k_Type snoc_Type eta_Type sames_Type row_Field k_Field snoc_Field eta_Field sames_Field row_Instr k_Instr snoc_Instr eta_Instr sames_Instr row_Catch k_Catch snoc_Catch eta_Catch sames_Catch row_Method k_Method snoc_Method row_Class k_Class snoc_Class row_Program k_Program snoc_Program row_Slot k_Slot snoc_Slot eta_Slot sames_Slot row_State k_State snoc_State row_Val k_Val snoc_Val eta_Val sames_Val row_Obj k_Obj snoc_Obj row_Input k_Input snoc_Input row_Frame k_Frame snoc_Frame row_Run k_Run snoc_Run row_Way k_Way snoc_Way eta_Way sames_Way row_Task k_Task snoc_Task eta_Task sames_Task
--let AT delverref04.At
--let HS delverref04.has
--let SO delverref04.SuperOf
--let AB delverref04.above
--let RE delverref04.reach

instance decMemB (s : ByteArray) (l : List ByteArray) : Decidable (s ∈ l) := decidable_of_iff (l.any (fun x => decide (x = s)) = true) (by simp)
def atI (l : List GClass) (s : ByteArray) : Int := idxI (fun c : GClass => decide (c.name = s)) l
/-- Its super; none: nothing. -/
def superL (c : GClass) : ByteArray := if c.iface = true ∨ c.name = sObject then ⟨#[]⟩ else if c.super = ⟨#[]⟩ then sObject else c.super
def aboveL (c : GClass) : List ByteArray := (if superL c = ⟨#[]⟩ then [] else [superL c]) ++ c.ifaces
/-- More names, each once. -/
def addNew (out next : List ByteArray) : List ByteArray := next.foldl (fun o x => if x ∈ o then o else o ++ [x]) out
def nextL (l : List GClass) (s : ByteArray) : List ByteArray := match l.find? (fun c : GClass => decide (c.name = s)) with
  | some c => aboveL c
  | none => []
def bfs (l : List GClass) : Nat → Nat → List ByteArray → List ByteArray
  | 0, _, out => out
  | n + 1, i, out => match out[i]? with
    | some s => bfs l n (i + 1) (addNew out (nextL l s))
    | none => out
def reachL (l : List GClass) (s : ByteArray) : List ByteArray := bfs l 3000 0 [s]
/-- All names that are there. -/
def poolL (l : List GClass) (s : ByteArray) : List ByteArray := s :: l.flatMap aboveL

theorem addNew_cons (o : List ByteArray) (x : ByteArray) (t : List ByteArray) : addNew o (x :: t) = addNew (if x ∈ o then o else o ++ [x]) t := rfl
theorem addNew_mem {x : ByteArray} : ∀ {next out : List ByteArray}, x ∈ addNew out next ↔ x ∈ out ∨ x ∈ next
  | [], out => by simp [addNew]
  | y :: t, out => by
    rw [addNew_cons, addNew_mem]
    by_cases h : y ∈ out
    · simp only [h, if_true, List.mem_cons]
      constructor
      · rintro (a | a) <;> simp [a]
      · rintro (a | rfl | a)
        · exact Or.inl a
        · exact Or.inl h
        · exact Or.inr a
    · simp [h, or_assoc]
theorem addNew_nodup : ∀ {next out : List ByteArray}, out.Nodup → (addNew out next).Nodup
  | [], _, h => h
  | y :: t, out, h => by
    rw [addNew_cons]
    refine addNew_nodup ?_
    by_cases hy : y ∈ out
    · simpa [hy] using h
    · simp only [hy, if_false]
      rw [List.nodup_append]
      exact ⟨h, by simp, by rintro a ha b hb rfl; simp at hb; exact hy (hb ▸ ha)⟩
theorem addNew_pre : ∀ {next out : List ByteArray}, out <+: addNew out next
  | [], out => List.prefix_refl _
  | y :: t, out => by
    rw [addNew_cons]
    refine List.IsPrefix.trans ?_ addNew_pre
    by_cases hy : y ∈ out <;> simp [hy]

theorem find_mem {l : List GClass} {s : ByteArray} {c : GClass} (h : l.find? (fun c : GClass => decide (c.name = s)) = some c) : c ∈ l ∧ c.name = s := ⟨List.mem_of_find?_eq_some h, by simpa using List.find?_some h⟩
theorem next_pool {l : List GClass} {s x t : ByteArray} (h : x ∈ nextL l t) : x ∈ poolL l s := by
  unfold nextL at h
  split at h
  · rename_i c hc
    exact List.mem_cons_of_mem _ (List.mem_flatMap.mpr ⟨c, (find_mem hc).1, h⟩)
  · cases h
theorem pool_len {l : List GClass} (hl : l.length ≤ 100) (hc : ∀ c ∈ l, OkC c) (s : ByteArray) : (poolL l s).length ≤ 1101 := by
  have key : ∀ l : List GClass, (∀ c ∈ l, OkC c) → (l.flatMap aboveL).length ≤ 11 * l.length := by
    intro l
    induction l with
    | nil => simp
    | cons c t ih =>
      intro h
      have h1 := ih fun c hc => h c (List.mem_cons_of_mem _ hc)
      have h2 := (h c List.mem_cons_self).ifaces
      have h3 : (aboveL c).length ≤ 11 := by
        unfold aboveL
        by_cases hs : superL c = ⟨#[]⟩ <;> simp [hs] <;> omega
      rw [List.flatMap_cons, List.length_append, List.length_cons]; omega
  have := key l hc
  unfold poolL; rw [List.length_cons]; omega

theorem nodup_sub {α : Type} [DecidableEq α] {a b : List α} (h : a.Nodup) (hs : ∀ x ∈ a, x ∈ b) : a.length ≤ b.length := by
  induction a generalizing b with
  | nil => simp
  | cons x t ih =>
    rw [List.nodup_cons] at h
    have hx := hs x List.mem_cons_self
    have h1 := ih (b := b.erase x) h.2 (fun y hy => by
      have hne : y ≠ x := fun e => h.1 (by rw [← e]; exact hy)
      rw [List.mem_erase_of_ne hne]
      exact hs y (List.mem_cons_of_mem _ hy))
    have h2 := List.length_erase_of_mem hx
    have h3 : 0 < b.length := List.length_pos_of_mem hx
    simp; omega

/-- What holds along the way. -/
structure Bf (l : List GClass) (s : ByteArray) (out : List ByteArray) : Prop where
  nd : out.Nodup
  sub : ∀ x ∈ out, x ∈ poolL l s
theorem Bf.add {l : List GClass} {s t : ByteArray} {out : List ByteArray} (h : Bf l s out) : Bf l s (addNew out (nextL l t)) where
  nd := addNew_nodup h.nd
  sub x hx := by
    rcases addNew_mem.mp hx with a | a
    · exact h.sub x a
    · exact next_pool a
theorem Bf.len {l : List GClass} {s : ByteArray} {out : List ByteArray} (h : Bf l s out) (hl : l.length ≤ 100) (hc : ∀ c ∈ l, OkC c) : out.length ≤ 1101 :=
  Nat.le_trans (nodup_sub h.nd h.sub) (pool_len hl hc s)
theorem bf_one (l : List GClass) (s : ByteArray) : Bf l s [s] := ⟨by simp, by simp [poolL]⟩
theorem bfs_bf {l : List GClass} {s : ByteArray} : ∀ (n i : Nat) (out : List ByteArray), Bf l s out → Bf l s (bfs l n i out)
  | 0, _, _, h => h
  | n + 1, i, out, h => by
    unfold bfs
    split
    · exact bfs_bf n (i + 1) _ h.add
    · exact h

theorem at_find {l : List GClass} {s : ByteArray} : (l.find? (fun c : GClass => decide (c.name = s)) = none ∧ atI l s = -1) ∨ ∃ (i : Nat) (h : i < l.length), atI l s = i ∧ l.find? (fun c : GClass => decide (c.name = s)) = some l[i] ∧ l[i].name = s ∧ ∀ j (hj : j < i), l[j].name ≠ s := by
  unfold atI idxI
  cases h : l.findIdx? (fun c : GClass => decide (c.name = s)) with
  | none =>
    left
    rw [List.findIdx?_eq_none_iff] at h
    exact ⟨List.find?_eq_none.mpr fun x hx => by simp [h x hx], rfl⟩
  | some i =>
    right
    rw [List.findIdx?_eq_some_iff_getElem] at h
    obtain ⟨h1, h2, h3⟩ := h
    refine ⟨i, h1, rfl, ?_, by simpa using h2, fun j hj => by simpa using h3 j hj⟩
    rw [List.find?_eq_some_iff_getElem]
    exact ⟨h2, i, h1, rfl, fun j hj => by simpa using h3 j hj⟩
end Go.Proofs.YthahhonmkhafkaaDoor.Am
