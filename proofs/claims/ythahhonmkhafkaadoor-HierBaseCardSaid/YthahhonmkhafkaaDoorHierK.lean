/- The tree's parts. Written by wip/tools/hk.py. -/
import Derived.Test.YthahhonmkhafkaaDoorHierJ
namespace Go.Proofs.YthahhonmkhafkaaDoor.Am
set_option linter.unusedSimpArgs false
set_option linter.unusedVariables false
set_option linter.unusedSectionVars false
open Go
attribute [local simp ↓] K_seq K_cond K_block K_region K_skip K_exit K_ret K_wrap KA_nil KA_none KA_some str_eq
attribute [local simp] beq_int bne_int dec_eqN dec_ltN dec_leN stepOp St.rd St.raw St.set St.took get_cons V.down C.down Env.keep binV unV arith isShift strs intOf optInt wrapEnd keptAt andK endOf frzV frz1 frzC frzCs frz1s resOf resOne resAll V.closed V.closed1 C.closed B.closed Ob.closed V.cells partsIn rep chunk datas C.data rowsOf getCells put_nil put_zero put_succ mayWrite C.plain eqV_bool eqV_agg eqV_pnn eqV_pnp eqV_ppn eqV_mnn eqV_mmn eqV_snn eqV_sen eqV_san eqV_sdn rs_len rs_getE rs_app rs_take rs_drop rs_all rs_each row_len str_nilP str_nilE str_nilB vagg row_Int row_Bool row_Str k_Int k_Bool k_Str snoc_Int snoc_Bool snoc_Str row_Type k_Type snoc_Type eta_Type sames_Type row_Field k_Field snoc_Field eta_Field sames_Field row_Instr k_Instr snoc_Instr eta_Instr sames_Instr row_Catch k_Catch snoc_Catch eta_Catch sames_Catch row_Method k_Method snoc_Method row_Class k_Class snoc_Class row_Program k_Program snoc_Program row_Slot k_Slot snoc_Slot eta_Slot sames_Slot row_State k_State snoc_State row_Val k_Val snoc_Val eta_Val sames_Val row_Obj k_Obj snoc_Obj row_Input k_Input snoc_Input row_Frame k_Frame snoc_Frame row_Run k_Run snoc_Run row_Way k_Way snoc_Way eta_Way sames_Way row_Task k_Task snoc_Task eta_Task sames_Task
--let NS slices.ContainsFunc[[]string,string]
--let SU (*hier.Tree).super
--let NX (*hier.Tree).next
--let LO (*hier.Tree).lost
--let L1 (*hier.Tree).lost$1
--let RI (*hier.Tree).ring
--let CL (*hier.Tree).climb

/-- The entries of the map of all classes. -/
def entC (l : List GClass) : List (V × V) := l.map fun c => (vstr c.name, vClass c)
def findC (l : List GClass) (s : ByteArray) : Option GClass := l.find? fun c : GClass => decide (c.name = s)
theorem find_key {α : Type} (f : α → ByteArray) (g : α → V) (s : ByteArray) : ∀ (l : List α) (i : Nat), findKey [2] (vstr s) (l.map fun c => (vstr (f c), g c)) i = some ((l.findIdx? fun c => decide (f c = s)).bind fun j => (l[j]?).map fun c => (i + j, g c))
  | [], i => rfl
  | c :: l, i => by
    have ih := find_key f g s l (i + 1)
    rw [List.map_cons, findKey]
    have he : eqKey [2] (vstr s) (vstr (f c)) = some (decide (s = f c)) := by simp [eqKey, sames, D.same, str_eq]
    rw [he, List.findIdx?_cons]
    by_cases h : f c = s
    · have h' : s = f c := h.symm
      simp [h']
    · have h' : ¬ s = f c := fun e => h e.symm
      simp only [h, h', decide_false, Bool.false_eq_true, if_false]
      rw [ih]
      cases hq : l.findIdx? fun c => decide (f c = s) with
      | none => simp
      | some j => simp; congr; funext c; congr 1; omega

theorem find_keyC (l : List GClass) (s : ByteArray) : ∃ r, findKey [2] (vstr s) (entC l) 0 = some r ∧ r.map (·.2) = (findC l s).map fun c => vClass c := by
  refine ⟨_, find_key (fun c : GClass => c.name) (fun c => vClass c) s l 0, ?_⟩
  unfold findC
  rcases at_find (l := l) (s := s) with ⟨h1, h2⟩ | ⟨i, hi, h1, h2, h3, h4⟩
  · have : l.findIdx? (fun c : GClass => decide (c.name = s)) = none := by
      rw [List.findIdx?_eq_none_iff]; intro x hx; simpa using List.find?_eq_none.mp h1 x hx
    rw [this, h1]; rfl
  · have : l.findIdx? (fun c : GClass => decide (c.name = s)) = some i := by
      rw [List.findIdx?_eq_some_iff_getElem]
      exact ⟨hi, by simpa using h3, fun j hj => by simpa using h4 j hj⟩
    rw [this, h2]; simp [hi]

abbrev z6v : V := .agg [.b (.d (.str ⟨#[]⟩)), .b (.d (.bool false)), .b (.d (.str ⟨#[]⟩)), .b (.d (.sl [])), .b (.d (.sl [])), .b (.d (.sl []))]
def noC : GClass := ⟨⟨#[]⟩, false, ⟨#[]⟩, [], [], []⟩
/-- What the map of all classes tells. -/
theorem got_C (l : List GClass) (s : ByteArray) : ∃ r, findKey [2] (vstr s) (entC l) 0 = some r ∧ got z6v r = vClass ((findC l s).getD noC) ∧ r.isSome = (findC l s).isSome := by
  obtain ⟨r, h1, h2⟩ := find_keyC l s
  refine ⟨r, h1, ?_, ?_⟩
  · cases r with
    | none =>
      cases hf : findC l s with
      | none => rfl
      | some c => rw [hf] at h2; cases h2
    | some x =>
      cases hf : findC l s with
      | none => rw [hf] at h2; cases h2
      | some c =>
        rw [hf] at h2
        simp only [Option.map_some, Option.some.injEq] at h2
        obtain ⟨i, v⟩ := x
        simp only at h2
        subst h2
        simp [got, V.down, C.down]
  · have := congrArg Option.isSome h2
    simpa using this

/-- A tree lies at T, its map of all classes at A. -/
structure TreeAt (σ : List Ob) (T A M : Nat) (own E : Int) (names : List ByteArray) (l : List GClass) : Prop where
  t : σ[T]? = some (.cells [.b (.d (.int .i64 own)), .osl 1 (rows names), .b (.d (.int .i64 E)), .b (.map A), .b (.map M)])
  a : σ[A]? = some (.map (entC l))
theorem get_lt {α : Type} {l : List α} {i : Nat} {x : α} (h : l[i]? = some x) : i < l.length := (List.getElem?_eq_some_iff.mp h).1

theorem fn_super (c : GClass) (T : Nat) (σ : List Ob) (lo tr : Nat) (hlo : lo ≤ σ.length) (hσ : σ.all (Ob.closed σ.length) = true) : Fn fns 31 [vptr T, vClass c] σ lo tr = some (.tup [vstr (superL c), vbool (!decide (superL c = ⟨#[]⟩))], σ) := by
  rw [fn_eq t31 rfl rfl]
  have hm : max lo σ.length = σ.length := by omega
  have n1 : ¬ ((⟨#[79, 98, 106, 101, 99, 116]⟩ : ByteArray) = ⟨#[]⟩) := by decide
  unfold superL
  cases h1 : c.iface
  · by_cases h2 : c.name = sObject
    · simp [KF, params, f31, hm, h1, h2]
    · by_cases h3 : c.super = ⟨#[]⟩ <;> simp [KF, params, f31, hm, h1, h2, h3, n1]
  · simp [KF, params, f31, hm, h1]

/-- Whom a class comes of at once, as the program tells. -/
def nextP (c : GClass) : List ByteArray := c.ifaces ++ (if superL c = ⟨#[]⟩ then [] else [superL c])
theorem fn_next {σ : List Ob} {T A M : Nat} {own E : Int} {names : List ByteArray} {l : List GClass} (h : TreeAt σ T A M own E names l) (hc : ∀ c ∈ l, OkC c) (s : ByteArray) (lo tr : Nat) (hlo : lo ≤ σ.length) (hσ : ∀ k, σ.all (Ob.closed (σ.length + k)) = true) : Fn fns 44 [vptr T, vstr s] σ lo tr = some (.c (.osl 1 (rows (nextP ((findC l s).getD noC)))), σ) := by
  rw [fn_eq t44 rfl rfl]
  obtain ⟨r, h1, h2, h3⟩ := got_C l s
  have hT := get_lt h.t
  have hA := get_lt h.a
  have ht := (List.getElem?_eq_some_iff.mp h.t).2
  have ha := (List.getElem?_eq_some_iff.mp h.a).2
  generalize hcc : (findC l s).getD noC = c at h2 ⊢
  have hok : OkC c := by
    subst hcc
    cases hf : findC l s with
    | none => exact okC (by decide)
    | some c => exact hc c (find_mem hf).1
  have hi := hok.ifaces
  have hcl := fn_cloneS c.ifaces (by omega)
  have hs := fun σ lo tr hlo hσ => fn_super c T σ lo tr hlo hσ
  have hm : max lo σ.length = σ.length := by omega
  have q1 : c.ifaces.length + 1 ≤ 70368744177664 := by omega
  have q2 : (c.ifaces.length + 1) * 16 ≤ 70368744177664 := by omega
  unfold nextP
  by_cases hn : superL c = ⟨#[]⟩
  · simp [KF, params, f44, List.getElem?_append_left, List.getElem?_append_right, hT, hA, ht, ha, h1, h2, mapOf, keyShape, hcl, hs, hσ, hn, hm]
  · simp [KF, params, f44, List.getElem?_append_left, List.getElem?_append_right, hT, hA, ht, ha, h1, h2, mapOf, keyShape, hcl, hs, hσ, hn, hm, q1, q2]

theorem get_app {α : Type} {l : List α} {i : Nat} {x : α} (h : l[i]? = some x) (X : List α) : (l ++ X)[i]? = some x := by
  rw [List.getElem?_append_left (get_lt h)]; exact h
theorem TreeAt.app {σ : List Ob} {T A M : Nat} {own E : Int} {names : List ByteArray} {l : List GClass} (h : TreeAt σ T A M own E names l) (X : List Ob) : TreeAt (σ ++ X) T A M own E names l := ⟨get_app h.t X, get_app h.a X⟩

theorem fn_lost1 {σ : List Ob} {T A M q : Nat} {own E : Int} {names : List ByteArray} {l : List GClass} (h : TreeAt σ T A M own E names l) (hq : σ[q]? = some (.cells [.b (.ptr T 0)])) (s : ByteArray) (lo tr : Nat) (hlo : lo ≤ σ.length) : Fn fns 42 [vstr s, vptr q] σ lo tr = some (vbool (noIf l s), σ) := by
  rw [fn_eq t42 rfl rfl]
  have hm : max lo σ.length = σ.length := by omega
  obtain ⟨r, h1, h2, h3⟩ := got_C l s
  have hT := get_lt h.t
  have hA := get_lt h.a
  have hQ := get_lt hq
  have ht := (List.getElem?_eq_some_iff.mp h.t).2
  have ha := (List.getElem?_eq_some_iff.mp h.a).2
  have hq := (List.getElem?_eq_some_iff.mp hq).2
  have hn : noIf l s = match findC l s with | some x => !x.iface | none => true := rfl
  rw [hn]
  cases hf : findC l s with
  | none =>
    rw [hf] at h2 h3
    simp [KF, params, f42, List.getElem?_append_left, List.getElem?_append_right, hT, hA, hQ, ht, ha, hq, h1, h2, h3, mapOf, keyShape, hm]
  | some c =>
    rw [hf] at h2 h3
    cases hi : c.iface <;> simp [KF, params, f42, List.getElem?_append_left, List.getElem?_append_right, hT, hA, hQ, ht, ha, hq, h1, h2, h3, mapOf, keyShape, hm, hi]

theorem fn_lost {σ : List Ob} {T A M : Nat} {own E : Int} {names : List ByteArray} {l : List GClass} (h : TreeAt σ T A M own E names l) (c : GClass) (hok : OkC c) (lo tr : Nat) (hlo : lo ≤ σ.length) (hσ : ∀ k, σ.all (Ob.closed (σ.length + k)) = true) : Fn fns 26 [vptr T, vClass c] σ lo tr = some (vbool (lostB l c), σ) := by
  rw [fn_eq t26 rfl rfl, lostB_eq]
  have hi := hok.ifaces
  have hT := get_lt h.t
  have hA := get_lt h.a
  have ht := (List.getElem?_eq_some_iff.mp h.t).2
  have ha := (List.getElem?_eq_some_iff.mp h.a).2
  have hm : max lo σ.length = σ.length := by omega
  have hs := fun σ lo tr hlo hσ => fn_super c T σ lo tr hlo hσ
  have hTk : ∀ k, T < σ.length + k := fun k => by omega
  have hcont : ∀ (X : List Ob) (lo' tr' : Nat), lo' ≤ σ.length → X.all (Ob.closed (σ.length + (1 + X.length))) = true → Fn fns 27 [vsl c.ifaces, .c (.fn 42 [] [.ptr σ.length 0])] (σ ++ .cells [.b (.ptr T 0)] :: X) lo' tr' = some (vbool (c.ifaces.any (noIf l)), σ ++ .cells [.b (.ptr T 0)] :: X) := by
    intro X lo' tr' hlo' hX
    have hlen : (σ ++ Ob.cells [.b (.ptr T 0)] :: X).length = σ.length + (1 + X.length) := by simp; omega
    refine fn_contS c.ifaces 42 [] [.ptr σ.length 0] _ lo' tr' (by rw [hlen]; omega) (by simp [C.closed, B.closed]) (by rw [hlen]; simp [C.closed, B.closed]; omega) ?_ (by omega) (noIf l) (fun i hi tr'' => ?_)
    · rw [hlen]; simp only [List.all_append, List.all_cons, hσ, hX, Bool.true_and, Bool.and_true]; simp [Ob.closed, C.closed, B.closed]; omega
    · exact fn_lost1 (q := σ.length) (h.app _) (by simp) _ _ _ (Nat.le_refl _)
  by_cases hn : superL c = ⟨#[]⟩
  · simp [KF, params, f26, List.getElem?_append_left, List.getElem?_append_right, hT, hA, ht, ha, mapOf, keyShape, hs, hσ, hn, hm, bsOf, hTk, hcont]
  · obtain ⟨r, h1, h2, h3⟩ := got_C l (superL c)
    have hN : noSup l (superL c) = match findC l (superL c) with | some x => x.iface | none => true := rfl
    rw [hN]
    cases hf : findC l (superL c) with
    | none =>
      rw [hf] at h2 h3
      simp [KF, params, f26, List.getElem?_append_left, List.getElem?_append_right, hT, hA, ht, ha, mapOf, keyShape, hs, hσ, hn, hm, bsOf, hTk, hcont, h1, h2, h3]
    | some d =>
      rw [hf] at h2 h3
      cases hd : d.iface <;> simp [KF, params, f26, List.getElem?_append_left, List.getElem?_append_right, hT, hA, ht, ha, mapOf, keyShape, hs, hσ, hn, hm, bsOf, hTk, hcont, h1, h2, h3, hd]
end Go.Proofs.YthahhonmkhafkaaDoor.Am
