/- Going up. Written by wip/tools/hl.py. -/
import Derived.Test.YthahhonmkhafkaaDoorHierK
namespace Go.Proofs.YthahhonmkhafkaaDoor.Am
set_option linter.unusedSimpArgs false
set_option linter.unusedVariables false
set_option linter.unusedSectionVars false
open Go
attribute [local simp ↓] K_seq K_cond K_block K_region K_skip K_exit K_ret K_wrap KA_nil KA_none KA_some str_eq
attribute [local simp] beq_int bne_int dec_eqN dec_ltN dec_leN stepOp St.rd St.raw St.set St.took get_cons V.down C.down Env.keep binV unV arith isShift strs intOf optInt wrapEnd keptAt andK endOf frzV frz1 frzC frzCs frz1s resOf resOne resAll V.closed V.closed1 C.closed B.closed Ob.closed V.cells partsIn rep chunk datas C.data rowsOf getCells put_nil put_zero put_succ mayWrite C.plain eqV_bool eqV_agg eqV_pnn eqV_pnp eqV_ppn eqV_mnn eqV_mmn eqV_snn eqV_sen eqV_san eqV_sdn rs_len rs_getE rs_app rs_take rs_drop rs_all rs_each row_len str_nilP str_nilE str_nilB vagg row_Int row_Bool row_Str k_Int k_Bool k_Str snoc_Int snoc_Bool snoc_Str row_Type k_Type snoc_Type eta_Type sames_Type row_Field k_Field snoc_Field eta_Field sames_Field row_Instr k_Instr snoc_Instr eta_Instr sames_Instr row_Catch k_Catch snoc_Catch eta_Catch sames_Catch row_Method k_Method snoc_Method row_Class k_Class snoc_Class row_Program k_Program snoc_Program row_Slot k_Slot snoc_Slot eta_Slot sames_Slot row_State k_State snoc_State row_Val k_Val snoc_Val eta_Val sames_Val row_Obj k_Obj snoc_Obj row_Input k_Input snoc_Input row_Frame k_Frame snoc_Frame row_Run k_Run snoc_Run row_Way k_Way snoc_Way eta_Way sames_Way row_Task k_Task snoc_Task eta_Task sames_Task
--let NX (*hier.Tree).next
--let RI (*hier.Tree).ring
--let CL (*hier.Tree).climb

def nx (l : List GClass) (s : ByteArray) : List ByteArray := nextP ((findC l s).getD noC)
def namesOf (l : List GClass) : List ByteArray := l.map (·.name)
/-- All that is named is there. -/
def Whole (l : List GClass) : Prop := ∀ s ∈ namesOf l, ∀ x ∈ nx l s, x ∈ namesOf l

def dfs (l : List GClass) : Nat → List ByteArray → ByteArray → List ByteArray
  | 0, ns, _ => ns
  | n + 1, ns, s => (nx l s).foldl (fun acc x => if x ∈ acc then acc else dfs l n acc x) (if s ∈ ns then ns else ns ++ [s])

/-- Names that were met: each once, each there. -/
structure Met (l : List GClass) (ns : List ByteArray) : Prop where
  nd : ns.Nodup
  sub : ∀ x ∈ ns, x ∈ namesOf l
theorem Met.add {l : List GClass} {ns : List ByteArray} (h : Met l ns) {s : ByteArray} (hs : s ∈ namesOf l) : Met l (if s ∈ ns then ns else ns ++ [s]) := by
  by_cases hy : s ∈ ns
  · simpa [hy] using h
  · simp only [hy, if_false]
    refine ⟨?_, ?_⟩
    · rw [List.nodup_append]
      exact ⟨h.nd, by simp, by rintro a ha b hb rfl; simp at hb; exact hy (hb ▸ ha)⟩
    · intro x hx
      rcases List.mem_append.mp hx with a | a
      · exact h.sub x a
      · simp at a; subst a; exact hs
theorem Met.len {l : List GClass} {ns : List ByteArray} (h : Met l ns) : ns.length ≤ l.length := by
  have := nodup_sub h.nd h.sub
  simpa [namesOf] using this

/-- What is met grows. -/
theorem dfs_met {l : List GClass} (hw : Whole l) : ∀ (n : Nat) (ns : List ByteArray) (s : ByteArray), Met l ns → s ∈ namesOf l → Met l (dfs l n ns s) ∧ ns.length ≤ (dfs l n ns s).length ∧ ∀ x ∈ ns, x ∈ dfs l n ns s := by
  intro n
  induction n with
  | zero => intro ns s h _; exact ⟨h, Nat.le_refl _, fun x hx => hx⟩
  | succ n ih =>
    intro ns s h hs
    have key : ∀ (L : List ByteArray) (acc : List ByteArray), (∀ x ∈ L, x ∈ namesOf l) → Met l acc → Met l (L.foldl (fun acc x => if x ∈ acc then acc else dfs l n acc x) acc) ∧ acc.length ≤ (L.foldl (fun acc x => if x ∈ acc then acc else dfs l n acc x) acc).length ∧ ∀ x ∈ acc, x ∈ L.foldl (fun acc x => if x ∈ acc then acc else dfs l n acc x) acc := by
      intro L
      induction L with
      | nil => intro acc _ h; exact ⟨h, Nat.le_refl _, fun x hx => hx⟩
      | cons y t iht =>
        intro acc hL hacc
        rw [List.foldl_cons]
        by_cases hy : y ∈ acc
        · simp only [hy, if_true]
          exact iht acc (fun x hx => hL x (List.mem_cons_of_mem _ hx)) hacc
        · simp only [hy, if_false]
          obtain ⟨a, b, c⟩ := ih acc y hacc (hL y List.mem_cons_self)
          obtain ⟨a', b', c'⟩ := iht _ (fun x hx => hL x (List.mem_cons_of_mem _ hx)) a
          exact ⟨a', Nat.le_trans b b', fun x hx => c' x (c x hx)⟩
    obtain ⟨a, b, c⟩ := key (nx l s) _ (hw s hs) (h.add hs)
    refine ⟨a, Nat.le_trans ?_ b, fun x hx => c x ?_⟩
    · by_cases hy : s ∈ ns <;> simp [hy]
    · by_cases hy : s ∈ ns <;> simp [hy, hx]

def entS (ns : List ByteArray) : List (V × V) := ns.map fun s => (vstr s, vbool true)
theorem got_S (ns : List ByteArray) (s : ByteArray) : ∃ r, findKey [2] (vstr s) (entS ns) 0 = some r ∧ got (vbool false) r = vbool (decide (s ∈ ns)) ∧ ((r = none ∧ s ∉ ns) ∨ ∃ i v, r = some (i, v) ∧ s ∈ ns ∧ (entS ns).set i (vstr s, vbool true) = entS ns) := by
  refine ⟨_, find_key (fun s : ByteArray => s) (fun _ => vbool true) s ns 0, ?_⟩
  cases hq : ns.findIdx? (fun c => decide (c = s)) with
  | none =>
    have hn : s ∉ ns := by
      rw [List.findIdx?_eq_none_iff] at hq
      intro h; simpa using hq s h
    exact ⟨by simp [got, hn], Or.inl ⟨rfl, hn⟩⟩
  | some i =>
    rw [List.findIdx?_eq_some_iff_getElem] at hq
    obtain ⟨h1, h2, _⟩ := hq
    have h3 : ns[i] = s := by simpa using h2
    have hs : s ∈ ns := h3 ▸ List.getElem_mem h1
    refine ⟨by simp [got, hs, h1, V.down, C.down], Or.inr ⟨i, vbool true, by simp [h1], hs, ?_⟩⟩
    apply List.ext_getElem?
    intro j
    by_cases hj : i = j
    · subst hj
      rw [List.getElem?_set_self (by simpa [entS] using h1)]
      simp [entS, h1, h3]
    · rw [List.getElem?_set_ne hj]

theorem entS_closed (ns : List ByteArray) (n : Nat) : Ob.closed n (.map (entS ns)) = true := by
  simp [Ob.closed, entS, V.closed1, C.closed, B.closed]
theorem all_set {σ : List Ob} {m : Nat} {x : Ob} {p : Ob → Bool} (h : σ.all p = true) (hx : p x = true) : (σ.set m x).all p = true := by
  rw [List.all_eq_true] at h ⊢
  intro y hy
  rcases List.mem_or_eq_of_mem_set hy with a | a
  · exact h y a
  · subst a; exact hx

section
variable {σ : List Ob} {T A M m : Nat} {own E : Int} {names : List ByteArray} {l : List GClass}
theorem TreeAt.set (h : TreeAt σ T A M own E names l) (h1 : T ≠ m) (h2 : A ≠ m) (x : Ob) : TreeAt (σ.set m x) T A M own E names l :=
  ⟨by rw [List.getElem?_set_ne (Ne.symm h1)]; exact h.t, by rw [List.getElem?_set_ne (Ne.symm h2)]; exact h.a⟩

theorem fn_climb (h : TreeAt σ T A M own E names l) (h1 : T ≠ m) (h2 : A ≠ m) (hm : m < σ.length) (hl : l.length ≤ 100) (hc : ∀ c ∈ l, OkC c) (hw : Whole l) (hσ : ∀ k, σ.all (Ob.closed (σ.length + k)) = true) :
    ∀ (n : Nat) (ns : List ByteArray) (s : ByteArray) (lo tr : Nat), Met l ns → s ∈ namesOf l → l.length + (if s ∈ ns then 1 else 0) < n + ns.length → lo ≤ m → Fn fns 29 [vptr T, vstr s, .c (.b (.map m))] (σ.set m (.map (entS ns))) lo tr = some (.tup [], σ.set m (.map (entS (dfs l n ns s)))) := by
  intro n
  induction n with
  | zero =>
    intro ns s lo tr hm _ hf
    have := hm.len
    omega
  | succ n ih =>
    intro ns s lo tr hmet hs hf hlo
    have hT := get_lt h.t
    have hls : lo ≤ σ.length := by omega
    have hset : ∀ k ns, (σ.set m (.map (entS ns))).all (Ob.closed (σ.length + k)) = true := fun k ns => all_set (hσ k) (entS_closed ns _)
    have hset0 : ∀ ns, (σ.set m (.map (entS ns))).all (Ob.closed σ.length) = true := fun ns => hset 0 ns
    rw [fn_eq t29 rfl rfl]
    have htk : ∀ x : Ob, List.take σ.length (σ.set m x) = σ.set m x := fun x => List.take_of_length_le (by simp)
    obtain ⟨r, g1, g2, g3⟩ := got_S ns s
    have hnext := fun ns lo tr hlo => fn_next (h.set h1 h2 (.map (entS ns))) hc s lo tr hlo (by simpa using fun k => hset k ns)
    have hnx : nextP ((findC l s).getD noC) = nx l s := rfl
    have hms := hmet.add hs
    have hin := hw s hs
    rw [hnx] at hnext
    have hnl : (nx l s).length ≤ 11 := by
      unfold nx nextP
      cases hf : findC l s with
      | none => decide
      | some c =>
        have := (hc c (find_mem hf).1).ifaces
        by_cases hz : superL c = ⟨#[]⟩ <;> simp [hz] <;> omega
    have L : ∀ (tr' : Nat) (k : AExit → St → Option (V × List Ob)) (acc : List ByteArray), Met l acc → l.length < n + acc.length → K fns ⟨lo, tr'⟩ f29_l0 ⟨[(0, vptr T), (2, .c (.b (.map m))), (12, .c (.osl 1 (rows (nx l s)))), (13, vint (nx l s).length), (14, vint 0)], σ.set m (.map (entS acc))⟩ k = k (.exit 0) ⟨[], σ.set m (.map (entS ((nx l s).foldl (fun acc x => if x ∈ acc then acc else dfs l n acc x) acc)))⟩ := fun tr' k acc ha1 ha2 =>
      scan_fold (l := nx l s) (f := fun acc x => if x ∈ acc then acc else dfs l n acc x) (I := fun _ c => Met l c ∧ l.length < n + c.length)
        (X := fun i c => K fns ⟨lo, tr'⟩ f29_l0 ⟨[(0, vptr T), (2, .c (.b (.map m))), (12, .c (.osl 1 (rows (nx l s)))), (13, vint (nx l s).length), (14, vint i)], σ.set m (.map (entS c))⟩ k)
        (e := fun c => k (.exit 0) ⟨[], σ.set m (.map (entS c))⟩)
        (fun i c hi hI => by
          have hw1 := wrap_succ (i := i) (by omega)
          obtain ⟨r, g1, g2, g3⟩ := got_S c (nx l s)[i]
          have hy : (nx l s)[i] ∈ namesOf l := hin _ (List.getElem_mem hi)
          refine ⟨?_, ?_⟩
          · show K fns _ f29_l0 _ k = _
            rw [u29_l0]
            by_cases hx : (nx l s)[i] ∈ c
            · simp only [hx, decide_true] at g2
              simp [f29_b0, hi, hw1, hx, g1, g2, mapOf, keyShape, hm, hT, htk, hset0]
            · simp only [hx, decide_false] at g2
              have hcall := fun tr' => ih c (nx l s)[i] lo tr' hI.1 hy (by simpa [hx] using hI.2) hlo
              simp [f29_b0, hi, hw1, hx, g1, g2, mapOf, keyShape, hm, hT, htk, hset0, hcall]
          · by_cases hx : (nx l s)[i] ∈ c
            · simpa [hx] using hI
            · simp only [hx, if_false]
              obtain ⟨a, b, _⟩ := dfs_met hw n c _ hI.1 hy
              exact ⟨a, by have := hI.2; omega⟩)
        (fun c hI => by
          show K fns _ f29_l0 _ k = _
          rw [u29_l0]; simp [f29_b0, hm, hT, htk, hset0])
        ⟨ha1, ha2⟩
    have hd : dfs l (n + 1) ns s = (nx l s).foldl (fun acc x => if x ∈ acc then acc else dfs l n acc x) (if s ∈ ns then ns else ns ++ [s]) := rfl
    rw [hd]
    rcases g3 with ⟨g4, g5⟩ | ⟨i, v, g4, g5, g6⟩
    · simp only [g5, if_false] at hf hms ⊢
      have L1 := fun tr' k => L tr' k (ns ++ [s]) hms (by simp; omega)
      have he : entS ns ++ [(vstr s, vbool true)] = entS (ns ++ [s]) := by simp [entS]
      subst g4
      simp [KF, params, f29, hm, hT, htk, hset0, mapOf, keyShape, g1, he, hnext, hlo, hls, L1]
    · simp only [g5, if_true] at hf hms ⊢
      have L1 := fun tr' k => L tr' k ns hms (by omega)
      subst g4
      simp [KF, params, f29, hm, hT, htk, hset0, mapOf, keyShape, g1, g6, hnext, hlo, hls, L1]

def ringP (l : List GClass) (s : ByteArray) : Bool := decide (s ∈ (nx l s).foldl (fun acc x => if x ∈ acc then acc else dfs l 200 acc x) [])
theorem nx_len (hc : ∀ c ∈ l, OkC c) (s : ByteArray) : (nx l s).length ≤ 11 := by
  unfold nx nextP
  cases hf : findC l s with
  | none => decide
  | some c =>
    have := (hc c (find_mem hf).1).ifaces
    by_cases hz : superL c = ⟨#[]⟩ <;> simp [hz] <;> omega

theorem fn_ring (h : TreeAt σ T A M own E names l) (hl : l.length ≤ 100) (hc : ∀ c ∈ l, OkC c) (hw : Whole l) (hσ : ∀ k, σ.all (Ob.closed (σ.length + k)) = true) (s : ByteArray) (hs : s ∈ namesOf l) (lo tr : Nat) (hlo : lo ≤ σ.length) :
    Fn fns 28 [vptr T, vstr s] σ lo tr = some (vbool (ringP l s), σ) := by
  rw [fn_eq t28 rfl rfl]
  have hT := get_lt h.t
  have hA := get_lt h.a
  have hm : max lo σ.length = σ.length := by omega
  have hTk : ∀ k, T < σ.length + k := fun k => by omega
  have hcall : ∀ (ns : List ByteArray) (x : ByteArray) (tr' : Nat), Met l ns → x ∈ namesOf l → Fn fns 29 [vptr T, vstr x, .c (.b (.map σ.length))] (σ ++ [Ob.map (entS ns)]) σ.length tr' = some (.tup [], σ ++ [Ob.map (entS (dfs l 200 ns x))]) := by
    intro ns x tr' hmet hx
    have hset : ∀ y : Ob, (σ ++ [Ob.map []]).set σ.length y = σ ++ [y] := fun y => by rw [List.set_append_right _ _ (Nat.le_refl _)]; simp
    have := fn_climb (m := σ.length) (h.app [Ob.map []]) (by omega) (by omega) (by simp) hl hc hw (fun k => by
      have := hσ (k + 1)
      rw [List.all_append, List.length_append, List.length_singleton, Nat.add_assoc, Nat.add_comm 1 k, this]; rfl) 200 ns x σ.length tr' hmet hx (by split <;> omega) (Nat.le_refl _)
    rwa [hset, hset] at this
  have hnext := fun ns lo tr hlo => fn_next (h.app [Ob.map (entS ns)]) hc s lo tr hlo (fun k => by
      have := hσ (k + 1)
      rw [List.all_append, List.length_append, List.length_singleton, Nat.add_assoc, Nat.add_comm 1 k, this]; simp only [Bool.true_and, List.all_cons, List.all_nil, Bool.and_true]; exact entS_closed _ _)
  have hnx : nextP ((findC l s).getD noC) = nx l s := rfl
  rw [hnx] at hnext
  have hnl := nx_len (l := l) hc s
  have hin := hw s hs
  have htk : ∀ x : Ob, List.take (σ.length + 1) (σ ++ [x]) = σ ++ [x] := fun x => List.take_of_length_le (by simp)
  have hcl : ∀ ns, (σ ++ [Ob.map (entS ns)]).all (Ob.closed (σ.length + 1)) = true := fun ns => by
    rw [List.all_append, hσ 1]; simp only [Bool.true_and, List.all_cons, List.all_nil, Bool.and_true]; exact entS_closed _ _
  have L : ∀ (tr' : Nat) (k : AExit → St → Option (V × List Ob)), K fns ⟨σ.length, tr'⟩ f28_l0 ⟨[(0, vptr T), (1, vstr s), (5, .c (.b (.map σ.length))), (11, .c (.osl 1 (rows (nx l s)))), (12, vint (nx l s).length), (13, vint 0)], σ ++ [Ob.map (entS [])]⟩ k = k (.exit 0) ⟨[(1, vstr s), (5, .c (.b (.map σ.length)))], σ ++ [Ob.map (entS ((nx l s).foldl (fun acc x => if x ∈ acc then acc else dfs l 200 acc x) []))]⟩ := fun tr' k =>
    scan_fold (l := nx l s) (f := fun acc x => if x ∈ acc then acc else dfs l 200 acc x) (I := fun _ c => Met l c)
      (X := fun i c => K fns ⟨σ.length, tr'⟩ f28_l0 ⟨[(0, vptr T), (1, vstr s), (5, .c (.b (.map σ.length))), (11, .c (.osl 1 (rows (nx l s)))), (12, vint (nx l s).length), (13, vint i)], σ ++ [Ob.map (entS c)]⟩ k)
      (e := fun c => k (.exit 0) ⟨[(1, vstr s), (5, .c (.b (.map σ.length)))], σ ++ [Ob.map (entS c)]⟩)
      (fun i c hi hI => by
        have hw1 := wrap_succ (i := i) (by omega)
        obtain ⟨r, g1, g2, g3⟩ := got_S c (nx l s)[i]
        have hy : (nx l s)[i] ∈ namesOf l := hin _ (List.getElem_mem hi)
        refine ⟨?_, ?_⟩
        · show K fns _ f28_l0 _ k = _
          rw [u28_l0]
          by_cases hx : (nx l s)[i] ∈ c
          · simp only [hx, decide_true] at g2
            simp [f28_b0, List.getElem?_append_right, hi, hw1, hx, g1, g2, mapOf, keyShape, hTk, htk, hcl]
          · simp only [hx, decide_false] at g2
            have hcall := fun tr' => hcall c (nx l s)[i] tr' hI hy
            simp [f28_b0, List.getElem?_append_right, hi, hw1, hx, g1, g2, mapOf, keyShape, hTk, htk, hcl, hcall]
        · by_cases hx : (nx l s)[i] ∈ c
          · simpa [hx] using hI
          · simp only [hx, if_false]
            exact (dfs_met hw 200 c _ hI hy).1)
      (fun c hI => by
        show K fns _ f28_l0 _ k = _
        rw [u28_l0]; simp [f28_b0, List.getElem?_append_right, hTk, htk, hcl])
      ⟨by simp, by simp⟩
  unfold ringP
  generalize (nx l s).foldl (fun acc x => if x ∈ acc then acc else dfs l 200 acc x) [] = ns at L ⊢
  obtain ⟨r, g1, g2, g3⟩ := got_S ns s
  have hnext0 := fun lo tr hlo => hnext [] lo tr hlo
  simp only [show entS [] = [] from rfl] at L hnext0
  simp [KF, params, f28, List.getElem?_append_right, hm, mapOf, keyShape, hTk, hnext0, L, g1, g2]
end
end Go.Proofs.YthahhonmkhafkaaDoor.Am
