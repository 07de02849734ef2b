/- Functions that take functions; instructions. Written by wip/tools/hf.py. -/
import Derived.Test.YthahhonmkhafkaaDoorHierE
namespace Go.Proofs.YthahhonmkhafkaaDoor.Am
set_option linter.unusedSimpArgs false
set_option linter.unusedVariables false
set_option linter.unusedSectionVars false
open Go
attribute [local simp ↓] K_seq K_cond K_block K_region K_skip K_exit K_ret K_wrap KA_nil KA_none KA_some str_eq
attribute [local simp] beq_int bne_int dec_eqN dec_ltN dec_leN stepOp St.rd St.raw St.set St.took get_cons V.down C.down Env.keep binV unV arith isShift strs intOf optInt wrapEnd keptAt andK endOf frzV frz1 frzC frzCs frz1s resOf resOne resAll V.closed V.closed1 C.closed B.closed Ob.closed V.cells partsIn rep chunk datas C.data rowsOf getCells put_nil put_zero put_succ mayWrite C.plain eqV_bool eqV_agg eqV_pnn eqV_pnp eqV_ppn eqV_mnn eqV_mmn eqV_snn eqV_sen eqV_san eqV_sdn rs_len rs_getE rs_app rs_take rs_drop rs_all rs_each row_len str_nilP str_nilE str_nilB vagg row_Int row_Bool row_Str k_Int k_Bool k_Str snoc_Int snoc_Bool snoc_Str row_Type k_Type snoc_Type eta_Type sames_Type row_Field k_Field snoc_Field eta_Field sames_Field row_Instr k_Instr snoc_Instr eta_Instr sames_Instr row_Catch k_Catch snoc_Catch eta_Catch sames_Catch row_Method k_Method snoc_Method row_Class k_Class snoc_Class row_Program k_Program snoc_Program row_Slot k_Slot snoc_Slot eta_Slot sames_Slot row_State k_State snoc_State row_Val k_Val snoc_Val eta_Val sames_Val row_Obj k_Obj snoc_Obj row_Input k_Input snoc_Input row_Frame k_Frame snoc_Frame row_Run k_Run snoc_Run row_Way k_Way snoc_Way eta_Way sames_Way row_Task k_Task snoc_Task eta_Task sames_Task
--let RI delverref01.in
--let RS delverref01.Shape
--let RX delverref01.showInstr
--let SI show.in
--let PJ parse.Jump
--let PU parse.Num
--let PA parse.Names
--let SN show.named
--let SX show.instr
--let SC show.catch
--let SF show.field
--let XC slices.IndexFunc[[]api.Class,api.Class]
--let NC slices.ContainsFunc[[]api.Class,api.Class]
--let EC show.each[api.Class]
--let DC show.each[api.Class]$1
--let XS slices.IndexFunc[[]string,string]
--let NS slices.ContainsFunc[[]string,string]
--let ES show.each[string]
--let DS show.each[string]$1
--let XF slices.IndexFunc[[]api.Field,api.Field]
--let NF slices.ContainsFunc[[]api.Field,api.Field]
--let EF show.each[api.Field]
--let DF show.each[api.Field]$1
--let XM slices.IndexFunc[[]api.Method,api.Method]
--let NM slices.ContainsFunc[[]api.Method,api.Method]
--let EM show.each[api.Method]
--let DM show.each[api.Method]$1
--let XT slices.IndexFunc[[]api.Type,api.Type]
--let NT slices.ContainsFunc[[]api.Type,api.Type]
--let ET show.each[api.Type]
--let DT show.each[api.Type]$1
--let XI slices.IndexFunc[[]api.Instr,api.Instr]
--let NI slices.ContainsFunc[[]api.Instr,api.Instr]
--let EI show.each[api.Instr]
--let DI show.each[api.Instr]$1
--let XK slices.IndexFunc[[]api.Catch,api.Catch]
--let NK slices.ContainsFunc[[]api.Catch,api.Catch]
--let EK show.each[api.Catch]
--let DK show.each[api.Catch]$1

theorem fn_idxC (l : List GClass) (g : Nat) (fst cap : List B) (σ : List Ob) (lo tr : Nat) (hlo : lo ≤ σ.length) (hc : (C.fn g fst cap).closed 0 = false) (hf : (C.fn g fst cap).closed σ.length = true) (hσ : σ.all (Ob.closed σ.length) = true) (hs : l.length ≤ 1000000) (p : GClass → Bool)
    (hp : ∀ i (h : i < l.length), ∀ tr', Fn fns g (fst.map (fun b => .c (.b b)) ++ [vClass l[i]] ++ cap.map (fun b => .c (.b b))) σ σ.length tr' = some (vbool (p l[i]), σ)) : Fn fns 41 [vsl l, .c (.fn g fst cap)] σ lo tr = some (vint (idxI p l), σ) := by
  rw [fn_eq t41 rfl (by simp only [blindOk, List.all_cons, List.all_nil, V.closed, V.closed1, hc, Bool.false_and, Bool.and_false])]
  have hm : max lo σ.length = σ.length := by omega
  have L : ∀ (t : Nat) (k : AExit → St → Option (V × List Ob)), K fns ⟨σ.length, t⟩ f41_l0 ⟨[(0, vsl l), (1, .c (.fn g fst cap)), (7, vint l.length), (8, vint 0)], σ⟩ k = match l.findIdx? p with | some i => k .ret ⟨[(4, vint i)], σ⟩ | none => k (.exit 0) ⟨[], σ⟩ := fun t k =>
    scan_find (l := l) (p := p) (X := fun i => K fns ⟨σ.length, t⟩ f41_l0 ⟨[(0, vsl l), (1, .c (.fn g fst cap)), (7, vint l.length), (8, vint i)], σ⟩ k)
      (r := fun i => k .ret ⟨[(4, vint i)], σ⟩)
      (fun i hi => by
        have hw := wrap_succ (i := i) (by omega)
        have h1 := hp i hi
        simp only [C.closed] at hf
        simp only [List.append_assoc, List.singleton_append] at h1
        show K fns _ f41_l0 _ k = _
        rw [u41_l0]
        cases hq : p l[i] <;> simp only [hq] at h1 <;> simp [f41_b0, hi, hw, h1, hf, hσ])
      (by
        simp only [C.closed] at hf
        show K fns _ f41_l0 _ k = _; rw [u41_l0]; simp [f41_b0, hσ])
  unfold idxI
  cases hq : l.findIdx? p <;> simp [KF, params, f41, hm, L, hq]

theorem fn_contC (l : List GClass) (g : Nat) (fst cap : List B) (σ : List Ob) (lo tr : Nat) (hlo : lo ≤ σ.length) (hc : (C.fn g fst cap).closed 0 = false) (hf : (C.fn g fst cap).closed σ.length = true) (hσ : σ.all (Ob.closed σ.length) = true) (hs : l.length ≤ 1000000) (p : GClass → Bool)
    (hp : ∀ i (h : i < l.length), ∀ tr', Fn fns g (fst.map (fun b => .c (.b b)) ++ [vClass l[i]] ++ cap.map (fun b => .c (.b b))) σ σ.length tr' = some (vbool (p l[i]), σ)) : Fn fns 25 [vsl l, .c (.fn g fst cap)] σ lo tr = some (vbool (l.any p), σ) := by
  rw [fn_eq t25 rfl (by simp only [blindOk, List.all_cons, List.all_nil, V.closed, V.closed1, hc, Bool.false_and, Bool.and_false])]
  rw [← idxI_ge]
  have h1 := fun lo tr hlo => fn_idxC l g fst cap σ lo tr hlo hc hf hσ hs p hp
  have hm : max lo σ.length = σ.length := by omega
  simp [KF, params, f25, hm, h1]

theorem fn_eachdC (x : GClass) (g : Nat) (b : Bool) (lo tr : Nat) (h : ∀ σ lo tr, Fn fns g [vClass x] σ lo tr = some (vbool b, σ)) : Fn fns 46 [vClass x, vptr 0] [.cells [.fn g [] []]] lo tr = some (vbool (!b), [.cells [.fn g [] []]]) := by
  rw [fn_eq t46 rfl rfl]
  simp [KF, params, f46, h]
theorem fn_eachC (l : List GClass) (n : Int) (g : Nat) (p : GClass → Bool) (hs : l.length ≤ 1000000) (h : ∀ x ∈ l, ∀ σ lo tr, Fn fns g [vClass x] σ lo tr = some (vbool (p x), σ)) (σ : List Ob) (lo tr : Nat) : Fn fns 39 [vsl l, vint n, .c (.fn g [] [])] σ lo tr = some (vbool (decide ((l.length : Int) ≤ n) && l.all p), σ) := by
  refine fn_gen t39 rfl (σ1 := []) rfl rfl ?_ σ lo tr
  have h1 := fun lo tr hlo => fn_contC l 46 [] [.ptr 0 0] [.cells [.fn g [] []]] lo tr hlo rfl rfl rfl hs (fun x => !p x) (fun i hi tr' => fn_eachdC l[i] g (p l[i]) _ tr' (h _ (List.getElem_mem hi)))
  have ha : (l.any fun x => !p x) = !l.all p := by simp [List.all_eq_not_any_not]
  rw [ha] at h1
  by_cases hn : (l.length : Int) ≤ n
  · simp [KF, params, f39, hn, bsOf, h1]
  · simp [KF, params, f39, hn, bsOf]

theorem fn_idxS (l : List ByteArray) (g : Nat) (fst cap : List B) (σ : List Ob) (lo tr : Nat) (hlo : lo ≤ σ.length) (hc : (C.fn g fst cap).closed 0 = false) (hf : (C.fn g fst cap).closed σ.length = true) (hσ : σ.all (Ob.closed σ.length) = true) (hs : l.length ≤ 1000000) (p : ByteArray → Bool)
    (hp : ∀ i (h : i < l.length), ∀ tr', Fn fns g (fst.map (fun b => .c (.b b)) ++ [vstr l[i]] ++ cap.map (fun b => .c (.b b))) σ σ.length tr' = some (vbool (p l[i]), σ)) : Fn fns 43 [vsl l, .c (.fn g fst cap)] σ lo tr = some (vint (idxI p l), σ) := by
  rw [fn_eq t43 rfl (by simp only [blindOk, List.all_cons, List.all_nil, V.closed, V.closed1, hc, Bool.false_and, Bool.and_false])]
  have hm : max lo σ.length = σ.length := by omega
  have L : ∀ (t : Nat) (k : AExit → St → Option (V × List Ob)), K fns ⟨σ.length, t⟩ f43_l0 ⟨[(0, vsl l), (1, .c (.fn g fst cap)), (7, vint l.length), (8, vint 0)], σ⟩ k = match l.findIdx? p with | some i => k .ret ⟨[(4, vint i)], σ⟩ | none => k (.exit 0) ⟨[], σ⟩ := fun t k =>
    scan_find (l := l) (p := p) (X := fun i => K fns ⟨σ.length, t⟩ f43_l0 ⟨[(0, vsl l), (1, .c (.fn g fst cap)), (7, vint l.length), (8, vint i)], σ⟩ k)
      (r := fun i => k .ret ⟨[(4, vint i)], σ⟩)
      (fun i hi => by
        have hw := wrap_succ (i := i) (by omega)
        have h1 := hp i hi
        simp only [C.closed] at hf
        simp only [List.append_assoc, List.singleton_append] at h1
        show K fns _ f43_l0 _ k = _
        rw [u43_l0]
        cases hq : p l[i] <;> simp only [hq] at h1 <;> simp [f43_b0, hi, hw, h1, hf, hσ])
      (by
        simp only [C.closed] at hf
        show K fns _ f43_l0 _ k = _; rw [u43_l0]; simp [f43_b0, hσ])
  unfold idxI
  cases hq : l.findIdx? p <;> simp [KF, params, f43, hm, L, hq]

theorem fn_contS (l : List ByteArray) (g : Nat) (fst cap : List B) (σ : List Ob) (lo tr : Nat) (hlo : lo ≤ σ.length) (hc : (C.fn g fst cap).closed 0 = false) (hf : (C.fn g fst cap).closed σ.length = true) (hσ : σ.all (Ob.closed σ.length) = true) (hs : l.length ≤ 1000000) (p : ByteArray → Bool)
    (hp : ∀ i (h : i < l.length), ∀ tr', Fn fns g (fst.map (fun b => .c (.b b)) ++ [vstr l[i]] ++ cap.map (fun b => .c (.b b))) σ σ.length tr' = some (vbool (p l[i]), σ)) : Fn fns 27 [vsl l, .c (.fn g fst cap)] σ lo tr = some (vbool (l.any p), σ) := by
  rw [fn_eq t27 rfl (by simp only [blindOk, List.all_cons, List.all_nil, V.closed, V.closed1, hc, Bool.false_and, Bool.and_false])]
  rw [← idxI_ge]
  have h1 := fun lo tr hlo => fn_idxS l g fst cap σ lo tr hlo hc hf hσ hs p hp
  have hm : max lo σ.length = σ.length := by omega
  simp [KF, params, f27, hm, h1]

theorem fn_eachdS (x : ByteArray) (g : Nat) (b : Bool) (lo tr : Nat) (h : ∀ σ lo tr, Fn fns g [vstr x] σ lo tr = some (vbool b, σ)) : Fn fns 57 [vstr x, vptr 0] [.cells [.fn g [] []]] lo tr = some (vbool (!b), [.cells [.fn g [] []]]) := by
  rw [fn_eq t57 rfl rfl]
  simp [KF, params, f57, h]
theorem fn_eachS (l : List ByteArray) (n : Int) (g : Nat) (p : ByteArray → Bool) (hs : l.length ≤ 1000000) (h : ∀ x ∈ l, ∀ σ lo tr, Fn fns g [vstr x] σ lo tr = some (vbool (p x), σ)) (σ : List Ob) (lo tr : Nat) : Fn fns 48 [vsl l, vint n, .c (.fn g [] [])] σ lo tr = some (vbool (decide ((l.length : Int) ≤ n) && l.all p), σ) := by
  refine fn_gen t48 rfl (σ1 := []) rfl rfl ?_ σ lo tr
  have h1 := fun lo tr hlo => fn_contS l 57 [] [.ptr 0 0] [.cells [.fn g [] []]] lo tr hlo rfl rfl rfl hs (fun x => !p x) (fun i hi tr' => fn_eachdS l[i] g (p l[i]) _ tr' (h _ (List.getElem_mem hi)))
  have ha : (l.any fun x => !p x) = !l.all p := by simp [List.all_eq_not_any_not]
  rw [ha] at h1
  by_cases hn : (l.length : Int) ≤ n
  · simp [KF, params, f48, hn, bsOf, h1]
  · simp [KF, params, f48, hn, bsOf]

theorem fn_idxF (l : List GField) (g : Nat) (fst cap : List B) (σ : List Ob) (lo tr : Nat) (hlo : lo ≤ σ.length) (hc : (C.fn g fst cap).closed 0 = false) (hf : (C.fn g fst cap).closed σ.length = true) (hσ : σ.all (Ob.closed σ.length) = true) (hs : l.length ≤ 1000000) (p : GField → Bool)
    (hp : ∀ i (h : i < l.length), ∀ tr', Fn fns g (fst.map (fun b => .c (.b b)) ++ [vField l[i]] ++ cap.map (fun b => .c (.b b))) σ σ.length tr' = some (vbool (p l[i]), σ)) : Fn fns 72 [vsl l, .c (.fn g fst cap)] σ lo tr = some (vint (idxI p l), σ) := by
  rw [fn_eq t72 rfl (by simp only [blindOk, List.all_cons, List.all_nil, V.closed, V.closed1, hc, Bool.false_and, Bool.and_false])]
  have hm : max lo σ.length = σ.length := by omega
  have L : ∀ (t : Nat) (k : AExit → St → Option (V × List Ob)), K fns ⟨σ.length, t⟩ f72_l0 ⟨[(0, vsl l), (1, .c (.fn g fst cap)), (7, vint l.length), (8, vint 0)], σ⟩ k = match l.findIdx? p with | some i => k .ret ⟨[(4, vint i)], σ⟩ | none => k (.exit 0) ⟨[], σ⟩ := fun t k =>
    scan_find (l := l) (p := p) (X := fun i => K fns ⟨σ.length, t⟩ f72_l0 ⟨[(0, vsl l), (1, .c (.fn g fst cap)), (7, vint l.length), (8, vint i)], σ⟩ k)
      (r := fun i => k .ret ⟨[(4, vint i)], σ⟩)
      (fun i hi => by
        have hw := wrap_succ (i := i) (by omega)
        have h1 := hp i hi
        simp only [C.closed] at hf
        simp only [List.append_assoc, List.singleton_append] at h1
        show K fns _ f72_l0 _ k = _
        rw [u72_l0]
        cases hq : p l[i] <;> simp only [hq] at h1 <;> simp [f72_b0, hi, hw, h1, hf, hσ])
      (by
        simp only [C.closed] at hf
        show K fns _ f72_l0 _ k = _; rw [u72_l0]; simp [f72_b0, hσ])
  unfold idxI
  cases hq : l.findIdx? p <;> simp [KF, params, f72, hm, L, hq]

theorem fn_contF (l : List GField) (g : Nat) (fst cap : List B) (σ : List Ob) (lo tr : Nat) (hlo : lo ≤ σ.length) (hc : (C.fn g fst cap).closed 0 = false) (hf : (C.fn g fst cap).closed σ.length = true) (hσ : σ.all (Ob.closed σ.length) = true) (hs : l.length ≤ 1000000) (p : GField → Bool)
    (hp : ∀ i (h : i < l.length), ∀ tr', Fn fns g (fst.map (fun b => .c (.b b)) ++ [vField l[i]] ++ cap.map (fun b => .c (.b b))) σ σ.length tr' = some (vbool (p l[i]), σ)) : Fn fns 58 [vsl l, .c (.fn g fst cap)] σ lo tr = some (vbool (l.any p), σ) := by
  rw [fn_eq t58 rfl (by simp only [blindOk, List.all_cons, List.all_nil, V.closed, V.closed1, hc, Bool.false_and, Bool.and_false])]
  rw [← idxI_ge]
  have h1 := fun lo tr hlo => fn_idxF l g fst cap σ lo tr hlo hc hf hσ hs p hp
  have hm : max lo σ.length = σ.length := by omega
  simp [KF, params, f58, hm, h1]

theorem fn_eachdF (x : GField) (g : Nat) (b : Bool) (lo tr : Nat) (h : ∀ σ lo tr, Fn fns g [vField x] σ lo tr = some (vbool b, σ)) : Fn fns 59 [vField x, vptr 0] [.cells [.fn g [] []]] lo tr = some (vbool (!b), [.cells [.fn g [] []]]) := by
  rw [fn_eq t59 rfl rfl]
  simp [KF, params, f59, h]
theorem fn_eachF (l : List GField) (n : Int) (g : Nat) (p : GField → Bool) (hs : l.length ≤ 1000000) (h : ∀ x ∈ l, ∀ σ lo tr, Fn fns g [vField x] σ lo tr = some (vbool (p x), σ)) (σ : List Ob) (lo tr : Nat) : Fn fns 49 [vsl l, vint n, .c (.fn g [] [])] σ lo tr = some (vbool (decide ((l.length : Int) ≤ n) && l.all p), σ) := by
  refine fn_gen t49 rfl (σ1 := []) rfl rfl ?_ σ lo tr
  have h1 := fun lo tr hlo => fn_contF l 59 [] [.ptr 0 0] [.cells [.fn g [] []]] lo tr hlo rfl rfl rfl hs (fun x => !p x) (fun i hi tr' => fn_eachdF l[i] g (p l[i]) _ tr' (h _ (List.getElem_mem hi)))
  have ha : (l.any fun x => !p x) = !l.all p := by simp [List.all_eq_not_any_not]
  rw [ha] at h1
  by_cases hn : (l.length : Int) ≤ n
  · simp [KF, params, f49, hn, bsOf, h1]
  · simp [KF, params, f49, hn, bsOf]

theorem fn_idxM (l : List GMethod) (g : Nat) (fst cap : List B) (σ : List Ob) (lo tr : Nat) (hlo : lo ≤ σ.length) (hc : (C.fn g fst cap).closed 0 = false) (hf : (C.fn g fst cap).closed σ.length = true) (hσ : σ.all (Ob.closed σ.length) = true) (hs : l.length ≤ 1000000) (p : GMethod → Bool)
    (hp : ∀ i (h : i < l.length), ∀ tr', Fn fns g (fst.map (fun b => .c (.b b)) ++ [vMethod l[i]] ++ cap.map (fun b => .c (.b b))) σ σ.length tr' = some (vbool (p l[i]), σ)) : Fn fns 73 [vsl l, .c (.fn g fst cap)] σ lo tr = some (vint (idxI p l), σ) := by
  rw [fn_eq t73 rfl (by simp only [blindOk, List.all_cons, List.all_nil, V.closed, V.closed1, hc, Bool.false_and, Bool.and_false])]
  have hm : max lo σ.length = σ.length := by omega
  have L : ∀ (t : Nat) (k : AExit → St → Option (V × List Ob)), K fns ⟨σ.length, t⟩ f73_l0 ⟨[(0, vsl l), (1, .c (.fn g fst cap)), (7, vint l.length), (8, vint 0)], σ⟩ k = match l.findIdx? p with | some i => k .ret ⟨[(4, vint i)], σ⟩ | none => k (.exit 0) ⟨[], σ⟩ := fun t k =>
    scan_find (l := l) (p := p) (X := fun i => K fns ⟨σ.length, t⟩ f73_l0 ⟨[(0, vsl l), (1, .c (.fn g fst cap)), (7, vint l.length), (8, vint i)], σ⟩ k)
      (r := fun i => k .ret ⟨[(4, vint i)], σ⟩)
      (fun i hi => by
        have hw := wrap_succ (i := i) (by omega)
        have h1 := hp i hi
        simp only [C.closed] at hf
        simp only [List.append_assoc, List.singleton_append] at h1
        show K fns _ f73_l0 _ k = _
        rw [u73_l0]
        cases hq : p l[i] <;> simp only [hq] at h1 <;> simp [f73_b0, hi, hw, h1, hf, hσ])
      (by
        simp only [C.closed] at hf
        show K fns _ f73_l0 _ k = _; rw [u73_l0]; simp [f73_b0, hσ])
  unfold idxI
  cases hq : l.findIdx? p <;> simp [KF, params, f73, hm, L, hq]

theorem fn_contM (l : List GMethod) (g : Nat) (fst cap : List B) (σ : List Ob) (lo tr : Nat) (hlo : lo ≤ σ.length) (hc : (C.fn g fst cap).closed 0 = false) (hf : (C.fn g fst cap).closed σ.length = true) (hσ : σ.all (Ob.closed σ.length) = true) (hs : l.length ≤ 1000000) (p : GMethod → Bool)
    (hp : ∀ i (h : i < l.length), ∀ tr', Fn fns g (fst.map (fun b => .c (.b b)) ++ [vMethod l[i]] ++ cap.map (fun b => .c (.b b))) σ σ.length tr' = some (vbool (p l[i]), σ)) : Fn fns 61 [vsl l, .c (.fn g fst cap)] σ lo tr = some (vbool (l.any p), σ) := by
  rw [fn_eq t61 rfl (by simp only [blindOk, List.all_cons, List.all_nil, V.closed, V.closed1, hc, Bool.false_and, Bool.and_false])]
  rw [← idxI_ge]
  have h1 := fun lo tr hlo => fn_idxM l g fst cap σ lo tr hlo hc hf hσ hs p hp
  have hm : max lo σ.length = σ.length := by omega
  simp [KF, params, f61, hm, h1]

theorem fn_eachdM (x : GMethod) (g : Nat) (b : Bool) (lo tr : Nat) (h : ∀ σ lo tr, Fn fns g [vMethod x] σ lo tr = some (vbool b, σ)) : Fn fns 62 [vMethod x, vptr 0] [.cells [.fn g [] []]] lo tr = some (vbool (!b), [.cells [.fn g [] []]]) := by
  rw [fn_eq t62 rfl rfl]
  simp [KF, params, f62, h]
theorem fn_eachM (l : List GMethod) (n : Int) (g : Nat) (p : GMethod → Bool) (hs : l.length ≤ 1000000) (h : ∀ x ∈ l, ∀ σ lo tr, Fn fns g [vMethod x] σ lo tr = some (vbool (p x), σ)) (σ : List Ob) (lo tr : Nat) : Fn fns 51 [vsl l, vint n, .c (.fn g [] [])] σ lo tr = some (vbool (decide ((l.length : Int) ≤ n) && l.all p), σ) := by
  refine fn_gen t51 rfl (σ1 := []) rfl rfl ?_ σ lo tr
  have h1 := fun lo tr hlo => fn_contM l 62 [] [.ptr 0 0] [.cells [.fn g [] []]] lo tr hlo rfl rfl rfl hs (fun x => !p x) (fun i hi tr' => fn_eachdM l[i] g (p l[i]) _ tr' (h _ (List.getElem_mem hi)))
  have ha : (l.any fun x => !p x) = !l.all p := by simp [List.all_eq_not_any_not]
  rw [ha] at h1
  by_cases hn : (l.length : Int) ≤ n
  · simp [KF, params, f51, hn, bsOf, h1]
  · simp [KF, params, f51, hn, bsOf]

theorem fn_idxT (l : List GType) (g : Nat) (fst cap : List B) (σ : List Ob) (lo tr : Nat) (hlo : lo ≤ σ.length) (hc : (C.fn g fst cap).closed 0 = false) (hf : (C.fn g fst cap).closed σ.length = true) (hσ : σ.all (Ob.closed σ.length) = true) (hs : l.length ≤ 1000000) (p : GType → Bool)
    (hp : ∀ i (h : i < l.length), ∀ tr', Fn fns g (fst.map (fun b => .c (.b b)) ++ [vType l[i]] ++ cap.map (fun b => .c (.b b))) σ σ.length tr' = some (vbool (p l[i]), σ)) : Fn fns 84 [vsl l, .c (.fn g fst cap)] σ lo tr = some (vint (idxI p l), σ) := by
  rw [fn_eq t84 rfl (by simp only [blindOk, List.all_cons, List.all_nil, V.closed, V.closed1, hc, Bool.false_and, Bool.and_false])]
  have hm : max lo σ.length = σ.length := by omega
  have L : ∀ (t : Nat) (k : AExit → St → Option (V × List Ob)), K fns ⟨σ.length, t⟩ f84_l0 ⟨[(0, vsl l), (1, .c (.fn g fst cap)), (7, vint l.length), (8, vint 0)], σ⟩ k = match l.findIdx? p with | some i => k .ret ⟨[(4, vint i)], σ⟩ | none => k (.exit 0) ⟨[], σ⟩ := fun t k =>
    scan_find (l := l) (p := p) (X := fun i => K fns ⟨σ.length, t⟩ f84_l0 ⟨[(0, vsl l), (1, .c (.fn g fst cap)), (7, vint l.length), (8, vint i)], σ⟩ k)
      (r := fun i => k .ret ⟨[(4, vint i)], σ⟩)
      (fun i hi => by
        have hw := wrap_succ (i := i) (by omega)
        have h1 := hp i hi
        simp only [C.closed] at hf
        simp only [List.append_assoc, List.singleton_append] at h1
        show K fns _ f84_l0 _ k = _
        rw [u84_l0]
        cases hq : p l[i] <;> simp only [hq] at h1 <;> simp [f84_b0, hi, hw, h1, hf, hσ])
      (by
        simp only [C.closed] at hf
        show K fns _ f84_l0 _ k = _; rw [u84_l0]; simp [f84_b0, hσ])
  unfold idxI
  cases hq : l.findIdx? p <;> simp [KF, params, f84, hm, L, hq]

theorem fn_contT (l : List GType) (g : Nat) (fst cap : List B) (σ : List Ob) (lo tr : Nat) (hlo : lo ≤ σ.length) (hc : (C.fn g fst cap).closed 0 = false) (hf : (C.fn g fst cap).closed σ.length = true) (hσ : σ.all (Ob.closed σ.length) = true) (hs : l.length ≤ 1000000) (p : GType → Bool)
    (hp : ∀ i (h : i < l.length), ∀ tr', Fn fns g (fst.map (fun b => .c (.b b)) ++ [vType l[i]] ++ cap.map (fun b => .c (.b b))) σ σ.length tr' = some (vbool (p l[i]), σ)) : Fn fns 74 [vsl l, .c (.fn g fst cap)] σ lo tr = some (vbool (l.any p), σ) := by
  rw [fn_eq t74 rfl (by simp only [blindOk, List.all_cons, List.all_nil, V.closed, V.closed1, hc, Bool.false_and, Bool.and_false])]
  rw [← idxI_ge]
  have h1 := fun lo tr hlo => fn_idxT l g fst cap σ lo tr hlo hc hf hσ hs p hp
  have hm : max lo σ.length = σ.length := by omega
  simp [KF, params, f74, hm, h1]

theorem fn_eachdT (x : GType) (g : Nat) (b : Bool) (lo tr : Nat) (h : ∀ σ lo tr, Fn fns g [vType x] σ lo tr = some (vbool b, σ)) : Fn fns 75 [vType x, vptr 0] [.cells [.fn g [] []]] lo tr = some (vbool (!b), [.cells [.fn g [] []]]) := by
  rw [fn_eq t75 rfl rfl]
  simp [KF, params, f75, h]
theorem fn_eachT (l : List GType) (n : Int) (g : Nat) (p : GType → Bool) (hs : l.length ≤ 1000000) (h : ∀ x ∈ l, ∀ σ lo tr, Fn fns g [vType x] σ lo tr = some (vbool (p x), σ)) (σ : List Ob) (lo tr : Nat) : Fn fns 63 [vsl l, vint n, .c (.fn g [] [])] σ lo tr = some (vbool (decide ((l.length : Int) ≤ n) && l.all p), σ) := by
  refine fn_gen t63 rfl (σ1 := []) rfl rfl ?_ σ lo tr
  have h1 := fun lo tr hlo => fn_contT l 75 [] [.ptr 0 0] [.cells [.fn g [] []]] lo tr hlo rfl rfl rfl hs (fun x => !p x) (fun i hi tr' => fn_eachdT l[i] g (p l[i]) _ tr' (h _ (List.getElem_mem hi)))
  have ha : (l.any fun x => !p x) = !l.all p := by simp [List.all_eq_not_any_not]
  rw [ha] at h1
  by_cases hn : (l.length : Int) ≤ n
  · simp [KF, params, f63, hn, bsOf, h1]
  · simp [KF, params, f63, hn, bsOf]

theorem fn_idxI (l : List GInstr) (g : Nat) (fst cap : List B) (σ : List Ob) (lo tr : Nat) (hlo : lo ≤ σ.length) (hc : (C.fn g fst cap).closed 0 = false) (hf : (C.fn g fst cap).closed σ.length = true) (hσ : σ.all (Ob.closed σ.length) = true) (hs : l.length ≤ 1000000) (p : GInstr → Bool)
    (hp : ∀ i (h : i < l.length), ∀ tr', Fn fns g (fst.map (fun b => .c (.b b)) ++ [vInstr l[i]] ++ cap.map (fun b => .c (.b b))) σ σ.length tr' = some (vbool (p l[i]), σ)) : Fn fns 85 [vsl l, .c (.fn g fst cap)] σ lo tr = some (vint (idxI p l), σ) := by
  rw [fn_eq t85 rfl (by simp only [blindOk, List.all_cons, List.all_nil, V.closed, V.closed1, hc, Bool.false_and, Bool.and_false])]
  have hm : max lo σ.length = σ.length := by omega
  have L : ∀ (t : Nat) (k : AExit → St → Option (V × List Ob)), K fns ⟨σ.length, t⟩ f85_l0 ⟨[(0, vsl l), (1, .c (.fn g fst cap)), (7, vint l.length), (8, vint 0)], σ⟩ k = match l.findIdx? p with | some i => k .ret ⟨[(4, vint i)], σ⟩ | none => k (.exit 0) ⟨[], σ⟩ := fun t k =>
    scan_find (l := l) (p := p) (X := fun i => K fns ⟨σ.length, t⟩ f85_l0 ⟨[(0, vsl l), (1, .c (.fn g fst cap)), (7, vint l.length), (8, vint i)], σ⟩ k)
      (r := fun i => k .ret ⟨[(4, vint i)], σ⟩)
      (fun i hi => by
        have hw := wrap_succ (i := i) (by omega)
        have h1 := hp i hi
        simp only [C.closed] at hf
        simp only [List.append_assoc, List.singleton_append] at h1
        show K fns _ f85_l0 _ k = _
        rw [u85_l0]
        cases hq : p l[i] <;> simp only [hq] at h1 <;> simp [f85_b0, hi, hw, h1, hf, hσ])
      (by
        simp only [C.closed] at hf
        show K fns _ f85_l0 _ k = _; rw [u85_l0]; simp [f85_b0, hσ])
  unfold idxI
  cases hq : l.findIdx? p <;> simp [KF, params, f85, hm, L, hq]

theorem fn_contI (l : List GInstr) (g : Nat) (fst cap : List B) (σ : List Ob) (lo tr : Nat) (hlo : lo ≤ σ.length) (hc : (C.fn g fst cap).closed 0 = false) (hf : (C.fn g fst cap).closed σ.length = true) (hσ : σ.all (Ob.closed σ.length) = true) (hs : l.length ≤ 1000000) (p : GInstr → Bool)
    (hp : ∀ i (h : i < l.length), ∀ tr', Fn fns g (fst.map (fun b => .c (.b b)) ++ [vInstr l[i]] ++ cap.map (fun b => .c (.b b))) σ σ.length tr' = some (vbool (p l[i]), σ)) : Fn fns 76 [vsl l, .c (.fn g fst cap)] σ lo tr = some (vbool (l.any p), σ) := by
  rw [fn_eq t76 rfl (by simp only [blindOk, List.all_cons, List.all_nil, V.closed, V.closed1, hc, Bool.false_and, Bool.and_false])]
  rw [← idxI_ge]
  have h1 := fun lo tr hlo => fn_idxI l g fst cap σ lo tr hlo hc hf hσ hs p hp
  have hm : max lo σ.length = σ.length := by omega
  simp [KF, params, f76, hm, h1]

theorem fn_eachdI (x : GInstr) (g : Nat) (b : Bool) (lo tr : Nat) (h : ∀ σ lo tr, Fn fns g [vInstr x] σ lo tr = some (vbool b, σ)) : Fn fns 77 [vInstr x, vptr 0] [.cells [.fn g [] []]] lo tr = some (vbool (!b), [.cells [.fn g [] []]]) := by
  rw [fn_eq t77 rfl rfl]
  simp [KF, params, f77, h]
theorem fn_eachI (l : List GInstr) (n : Int) (g : Nat) (p : GInstr → Bool) (hs : l.length ≤ 1000000) (h : ∀ x ∈ l, ∀ σ lo tr, Fn fns g [vInstr x] σ lo tr = some (vbool (p x), σ)) (σ : List Ob) (lo tr : Nat) : Fn fns 65 [vsl l, vint n, .c (.fn g [] [])] σ lo tr = some (vbool (decide ((l.length : Int) ≤ n) && l.all p), σ) := by
  refine fn_gen t65 rfl (σ1 := []) rfl rfl ?_ σ lo tr
  have h1 := fun lo tr hlo => fn_contI l 77 [] [.ptr 0 0] [.cells [.fn g [] []]] lo tr hlo rfl rfl rfl hs (fun x => !p x) (fun i hi tr' => fn_eachdI l[i] g (p l[i]) _ tr' (h _ (List.getElem_mem hi)))
  have ha : (l.any fun x => !p x) = !l.all p := by simp [List.all_eq_not_any_not]
  rw [ha] at h1
  by_cases hn : (l.length : Int) ≤ n
  · simp [KF, params, f65, hn, bsOf, h1]
  · simp [KF, params, f65, hn, bsOf]

theorem fn_idxK (l : List GCatch) (g : Nat) (fst cap : List B) (σ : List Ob) (lo tr : Nat) (hlo : lo ≤ σ.length) (hc : (C.fn g fst cap).closed 0 = false) (hf : (C.fn g fst cap).closed σ.length = true) (hσ : σ.all (Ob.closed σ.length) = true) (hs : l.length ≤ 1000000) (p : GCatch → Bool)
    (hp : ∀ i (h : i < l.length), ∀ tr', Fn fns g (fst.map (fun b => .c (.b b)) ++ [vCatch l[i]] ++ cap.map (fun b => .c (.b b))) σ σ.length tr' = some (vbool (p l[i]), σ)) : Fn fns 87 [vsl l, .c (.fn g fst cap)] σ lo tr = some (vint (idxI p l), σ) := by
  rw [fn_eq t87 rfl (by simp only [blindOk, List.all_cons, List.all_nil, V.closed, V.closed1, hc, Bool.false_and, Bool.and_false])]
  have hm : max lo σ.length = σ.length := by omega
  have L : ∀ (t : Nat) (k : AExit → St → Option (V × List Ob)), K fns ⟨σ.length, t⟩ f87_l0 ⟨[(0, vsl l), (1, .c (.fn g fst cap)), (7, vint l.length), (8, vint 0)], σ⟩ k = match l.findIdx? p with | some i => k .ret ⟨[(4, vint i)], σ⟩ | none => k (.exit 0) ⟨[], σ⟩ := fun t k =>
    scan_find (l := l) (p := p) (X := fun i => K fns ⟨σ.length, t⟩ f87_l0 ⟨[(0, vsl l), (1, .c (.fn g fst cap)), (7, vint l.length), (8, vint i)], σ⟩ k)
      (r := fun i => k .ret ⟨[(4, vint i)], σ⟩)
      (fun i hi => by
        have hw := wrap_succ (i := i) (by omega)
        have h1 := hp i hi
        simp only [C.closed] at hf
        simp only [List.append_assoc, List.singleton_append] at h1
        show K fns _ f87_l0 _ k = _
        rw [u87_l0]
        cases hq : p l[i] <;> simp only [hq] at h1 <;> simp [f87_b0, hi, hw, h1, hf, hσ])
      (by
        simp only [C.closed] at hf
        show K fns _ f87_l0 _ k = _; rw [u87_l0]; simp [f87_b0, hσ])
  unfold idxI
  cases hq : l.findIdx? p <;> simp [KF, params, f87, hm, L, hq]

theorem fn_contK (l : List GCatch) (g : Nat) (fst cap : List B) (σ : List Ob) (lo tr : Nat) (hlo : lo ≤ σ.length) (hc : (C.fn g fst cap).closed 0 = false) (hf : (C.fn g fst cap).closed σ.length = true) (hσ : σ.all (Ob.closed σ.length) = true) (hs : l.length ≤ 1000000) (p : GCatch → Bool)
    (hp : ∀ i (h : i < l.length), ∀ tr', Fn fns g (fst.map (fun b => .c (.b b)) ++ [vCatch l[i]] ++ cap.map (fun b => .c (.b b))) σ σ.length tr' = some (vbool (p l[i]), σ)) : Fn fns 81 [vsl l, .c (.fn g fst cap)] σ lo tr = some (vbool (l.any p), σ) := by
  rw [fn_eq t81 rfl (by simp only [blindOk, List.all_cons, List.all_nil, V.closed, V.closed1, hc, Bool.false_and, Bool.and_false])]
  rw [← idxI_ge]
  have h1 := fun lo tr hlo => fn_idxK l g fst cap σ lo tr hlo hc hf hσ hs p hp
  have hm : max lo σ.length = σ.length := by omega
  simp [KF, params, f81, hm, h1]

theorem fn_eachdK (x : GCatch) (g : Nat) (b : Bool) (lo tr : Nat) (h : ∀ σ lo tr, Fn fns g [vCatch x] σ lo tr = some (vbool b, σ)) : Fn fns 82 [vCatch x, vptr 0] [.cells [.fn g [] []]] lo tr = some (vbool (!b), [.cells [.fn g [] []]]) := by
  rw [fn_eq t82 rfl rfl]
  simp [KF, params, f82, h]
theorem fn_eachK (l : List GCatch) (n : Int) (g : Nat) (p : GCatch → Bool) (hs : l.length ≤ 1000000) (h : ∀ x ∈ l, ∀ σ lo tr, Fn fns g [vCatch x] σ lo tr = some (vbool (p x), σ)) (σ : List Ob) (lo tr : Nat) : Fn fns 67 [vsl l, vint n, .c (.fn g [] [])] σ lo tr = some (vbool (decide ((l.length : Int) ≤ n) && l.all p), σ) := by
  refine fn_gen t67 rfl (σ1 := []) rfl rfl ?_ σ lo tr
  have h1 := fun lo tr hlo => fn_contK l 82 [] [.ptr 0 0] [.cells [.fn g [] []]] lo tr hlo rfl rfl rfl hs (fun x => !p x) (fun i hi tr' => fn_eachdK l[i] g (p l[i]) _ tr' (h _ (List.getElem_mem hi)))
  have ha : (l.any fun x => !p x) = !l.all p := by simp [List.all_eq_not_any_not]
  rw [ha] at h1
  by_cases hn : (l.length : Int) ≤ n
  · simp [KF, params, f67, hn, bsOf, h1]
  · simp [KF, params, f67, hn, bsOf]
end Go.Proofs.YthahhonmkhafkaaDoor.Am
