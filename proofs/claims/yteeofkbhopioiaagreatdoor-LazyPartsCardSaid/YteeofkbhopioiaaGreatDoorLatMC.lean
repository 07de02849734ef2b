/- Lemmas that the rows' proofs rest on; each states its own conditions. -/
import Derived.Test.YteeofkbhopioiaaGreatDoorLatMB
namespace Go.Proofs.YteeofkbhopioiaaGreatDoor.Am
set_option linter.unusedSimpArgs false
set_option linter.unusedVariables false
set_option linter.unusedSectionVars false
open Go
section
attribute [local simp ↓] K_seq K_cond K_block K_region K_skip K_exit K_ret K_wrap KA_nil KA_none KA_some str_eq
attribute [local simp] beq_int bne_int dec_eqN dec_ltN dec_leN stepOp St.rd St.raw St.set St.took get_cons V.down C.down Env.keep binV unV arith isShift strs intOf optInt wrapEnd keptAt andK endOf frzV frz1 frzC frzCs frz1s resOf resOne resAll V.closed V.closed1 C.closed B.closed Ob.closed V.cells partsIn rep chunk datas C.data rowsOf getCells put_nil put_zero put_succ mayWrite C.plain eqV_bool eqV_agg eqV_pnn eqV_pnp eqV_ppn eqV_mnn eqV_mmn eqV_snn eqV_sen eqV_san eqV_sdn rs_len rs_getE rs_app rs_take rs_drop rs_all rs_each row_len str_nilP str_nilE str_nilB vagg row_Int row_Bool row_Str k_Int k_Bool k_Str snoc_Int snoc_Bool snoc_Str row_Type k_Type snoc_Type eta_Type sames_Type row_Field k_Field snoc_Field eta_Field sames_Field row_Instr k_Instr snoc_Instr eta_Instr sames_Instr row_Catch k_Catch snoc_Catch eta_Catch sames_Catch row_Method k_Method snoc_Method row_Class k_Class snoc_Class row_Program k_Program snoc_Program row_Slot k_Slot snoc_Slot eta_Slot sames_Slot row_Way k_Way snoc_Way eta_Way sames_Way
abbrev cRow (p:GProgram) (d m:Int) (q:B) (e:Int) (r1 r2 r3 r4 r5:C):List C:=[.b (.d (.int .u32 d)),.b (.d (.int .i32 m)),.b (.d (.int .u32 0)),.b (.d (.sl (rows p.classes))),.b q,.b (.d (.int .i64 e)),r1,r2,r3,r4,r5]
abbrev cZero (p:GProgram) (m:Int):Ob:=.cells (cRow p 0 m .nilp 0 (.b .nilm) (.b .nilm) (.osl 4 []) (.b .nilm) (.b .nilm))
structure Done (p:GProgram) (X:Nat) (d m:Int) (S:List Ob):Prop where
 at_:∃ b r1 r2 r3 r4 r5,X < b∧S[X]?=some (.cells (cRow p d m (.ptr (b+3) 0) (layE p) r1 r2 r3 r4 r5))∧∃ σ,σ.length=b∧TreeOk σ S p
 ok:hierP p=0→∃ b c,Tab p X b c S d m (layE p) (tabsL (allL p))
 cl:∀ k,S.all (Ob.closed (S.length+k))=true
 no:hierP p≠0→∃ q e,S[X]?=some (.cells (cRow p d m q e (.b .nilm) (.b .nilm) (.osl 4 []) (.b .nilm) (.b .nilm)))
def But (X:Nat) (S S':List Ob):Prop:=S.length≤S'.length∧∀ i,i≠X→i < S.length→S'[i]?=S[i]?
def treeOf (S:List Ob) (X:Nat):Option C:=match S[X]? with | some (.cells cs)=>cs[4]? | _=>none
def Ahead (X n:Nat) (S:List Ob):Prop:=∃ b,n≤b∧treeOf S X=some (.b (.ptr (b+3) 0))
theorem low_at {X n b:Nat} {S:List Ob} {c0 c1 c2 c3:C} {cs:List C} (hb:n≤b) (h:S[X]?=some (.cells (c0 :: c1 :: c2 :: c3 :: .b (.ptr (b+3) 0) :: cs))):Ahead X n S:=⟨b,hb,by unfold treeOf;rw [h];rfl⟩
theorem fn_make {p:GProgram} (hp:OkP p) {X:Nat} {σ:List Ob} (hx0:σ[X]?=some (cZero p 1)) (hcl:∀ k,σ.all (Ob.closed (σ.length+k))=true) :
  ∃ S,Fn fns 73 [vptr X] σ 0 0=some (.tup [],S)∧Done p X 0 1 S∧But X σ S∧Ahead X σ.length S:=by
 obtain ⟨S,s1,s2⟩:=fn_of p hp (lo:=0) (tr:=0) (Nat.zero_le _) (Nat.zero_le _) hcl
 have hX:=get_lt hx0
 obtain ⟨J,hJ⟩:=s2.pre
 have hxS:S[X]?=some (cZero p 1):=by rw [hJ];exact get_app hx0 J
 have hXS:=get_lt hxS
 have hSl:σ.length≤S.length:=by rw [hJ];simp
 have hXg:=(List.getElem?_eq_some_iff.mp hxS).2
 have hx0g:=(List.getElem?_eq_some_iff.mp hx0).2
 have ne:∀ (i:Nat) (o:Ob),X≠i→(S.set X o)[i]?=S[i]?:=fun i o hi=>List.getElem?_set_ne hi
 by_cases hE:hierP p=0
 ·obtain ⟨az,_,hI⟩:=s2.ok hE
  have ht:=hI.t
  have htl:=get_lt ht
  have htg:=(List.getElem?_eq_some_iff.mp ht).2
  have n1:¬ σ.length+3=X:=by omega
  have n2:¬ X=σ.length+3:=by omega
  have hXc:X < S.length:=by omega
  have h0:Tab p X σ.length S.length (S.set X (cTab p 0 1 σ.length S.length 0 []) ++ [.map [],.map [],.map [],.map []]) 0 1 0 tabs0:=by
   have hl:(S.set X (cTab p 0 1 σ.length S.length 0 [])).length=S.length:=List.length_set ..
   refine ⟨⟨σ,S,rfl,rfl,s2,fun i a b=>?_⟩,hX,?_,?_,?_,?_,?_,fun k=>?_⟩
   ·rw [List.getElem?_append_left (by omega),ne i _ (by omega)]
   ·rw [List.getElem?_append_left (by omega),List.getElem?_set_self hXS];rfl
   ·rw [List.getElem?_append_right (by omega),hl];simp;rfl
   ·rw [List.getElem?_append_right (by omega),hl];simp;rfl
   ·rw [List.getElem?_append_right (by omega),hl];simp;rfl
   ·rw [List.getElem?_append_right (by omega),hl];simp;rfl
   ·rw [List.all_append,List.length_append,hl,Bool.and_eq_true]
    refine ⟨?_,by simp [Ob.closed]⟩
    have h1:=s2.cl (4+k)
    refine all_set (by simpa [Nat.add_assoc] using h1) ?_
    simp [Ob.closed,C.closed,B.closed];omega
  obtain ⟨S1,a1,a3,a2⟩:=make_names hp hE (namesOf (allL p)).length 0 _ tabs0 (Nat.zero_add _) (by exact ⟨fun k=>by simp [lookA,tabs0],fun k=>by simp [lookA,tabs0],rfl,fun k=>by simp [lookA,tabs0],fun k=>by simp [lookA,tabs0]⟩) h0
  rw [List.drop_zero,show (namesOf (allL p)).foldl (makeStep (allL p)) tabs0=tabsL (allL p) from rfl] at a1
  have hS1:=get_lt a1.w
  have h2:=a1.cellsApp (cs:=[.fn 92 [.ptr X 0] [],.fn 93 [.ptr X 0] [],.fn 94 [.ptr X 0] []]) (fun k=>by have:=get_lt a1.x;simp [C.closed,B.closed];omega)
  obtain ⟨S2,b1,b3,b2⟩:=make_checks (A:=S1.length) hp hE (small_all hp hE) h2 (by omega) (by simp)
  have hLE:layE p=chksT p (tabsL (allL p)):=by rw [layE,if_pos hE]
  rw [← hLE] at b1
  refine ⟨S2,?_,⟨⟨σ.length,_,_,_,_,_,hX,b1.x,b1.tr⟩,fun _=>⟨_,_,b1⟩,b1.cl,fun h=>absurd hE h⟩,?_⟩
  case refine_2 =>
   have hst:Stay X S.length S S2:=((((Stay.refl X S.length S).set (.inl rfl) _).app _).trans a3).trans (((Stay.refl X S.length S1).app _).trans b3)
   exact ⟨⟨Nat.le_trans hSl hst.1,fun i hi hl=>by rw [hst.2 i hi (.inl (by omega)) (by omega),hJ];exact List.getElem?_append_left hl⟩,low_at (Nat.le_refl _) b1.x⟩
  rw [fn_eq t73 rfl rfl]
  have hx1:=get_lt a1.x
  simp only [cTab,rs_nil] at a2
  simp only [Int.natCast_zero] at a2
  simp [KF,params,f73,hX,hx0g,s1,hXS,hXg,htl,htg,List.getElem_set,List.set_set,List.getElem?_append_left,List.getElem?_append_right,List.set_append_left,List.set_append_right,n1,n2,hE,hXc,a2,b2,hx1,bsOf]
 ·obtain ⟨own,names,l,hT⟩:=s2.t
  have ht:=hT.t
  have htl:=get_lt ht
  have htg:=(List.getElem?_eq_some_iff.mp ht).2
  have hset:∀ (o:Ob),(∀ k,o.closed (S.length+k)=true)→TreeOk ((S.set X o).take σ.length) (S.set X o) p:=fun o ho=>s2.keep (fun i a _=>ne i o (by omega)) (by simp) (fun k=>by rw [List.length_set];exact all_set (s2.cl k) (ho k))
  refine ⟨S.set X (.cells (cRow p 0 1 (.ptr (σ.length+3) 0) (hierP p) (.b .nilm) (.b .nilm) (.osl 4 []) (.b .nilm) (.b .nilm))),?_,⟨?_,fun h=>absurd h hE,fun k=>?_,fun _=>⟨_,_,List.getElem?_set_self hXS⟩⟩,⟨by rw [List.length_set];exact hSl,fun i hi hl=>by rw [ne i _ (fun e=>hi e.symm),hJ];exact List.getElem?_append_left hl⟩,low_at (Nat.le_refl _) (List.getElem?_set_self hXS)⟩
  ·rw [fn_eq t73 rfl rfl]
   have n1:¬ σ.length+3=X:=by omega
   have n2:¬ X=σ.length+3:=by omega
   simp [KF,params,f73,hX,hx0g,s1,hXS,hXg,htl,htg,List.getElem_set,List.set_set,n1,n2,hE]
  ·refine ⟨σ.length,.b .nilm,.b .nilm,.osl 4 [],.b .nilm,.b .nilm,hX,?_,_,?_,hset _ fun k=>?_⟩
   ·rw [List.getElem?_set_self hXS,layE,if_neg hE]
   ·simp;omega
   ·simp [Ob.closed,C.closed,B.closed];omega
  ·rw [List.length_set]
   refine all_set (s2.cl k) ?_
   simp [Ob.closed,C.closed,B.closed];omega
section
variable {p:GProgram} {X:Nat} {S σ:List Ob}
theorem Done.turn {d m:Int} (h:Done p X d m S) (d' m':Int):∃ q e r1 r2 r3 r4 r5,S[X]?=some (.cells (cRow p d m q e r1 r2 r3 r4 r5))∧Done p X d' m' (S.set X (.cells (cRow p d' m' q e r1 r2 r3 r4 r5))):=by
 obtain ⟨b,r1,r2,r3,r4,r5,hb,hx,σ,rfl,hT⟩:=h.at_
 have hX:=get_lt hx
 have hcl:∀ k,(S.set X (.cells (cRow p d' m' (.ptr (σ.length+3) 0) (layE p) r1 r2 r3 r4 r5))).all (Ob.closed ((S.set X (.cells (cRow p d' m' (.ptr (σ.length+3) 0) (layE p) r1 r2 r3 r4 r5))).length+k))=true:=fun k=>by
  rw [List.length_set]
  refine all_set (h.cl k) ?_
  have h1:=List.all_eq_true.mp (h.cl k) _ (List.mem_of_getElem? hx)
  simp only [Ob.closed,List.all_cons,C.closed,B.closed,Bool.true_and,Bool.and_true] at h1 ⊢
  exact h1
 refine ⟨_,_,_,_,_,_,_,hx,⟨⟨σ.length,r1,r2,r3,r4,r5,hb,List.getElem?_set_self hX,_,?_,hT.keep (S':=S.set X (.cells (cRow p d' m' (.ptr (σ.length+3) 0) (layE p) r1 r2 r3 r4 r5))) (fun i a _=>List.getElem?_set_ne (by omega)) (by simp) hcl⟩,fun hE=>?_,hcl,fun hE=>?_⟩⟩
 ·obtain ⟨J,hJ⟩:=hT.pre
  rw [hJ];simp
 ·obtain ⟨b',c,hb'⟩:=h.ok hE
  generalize tabsL (allL p)=t at hb' ⊢
  have:=hb'.setX d' m' (layE p) t.st
  have he:=hb'.x
  rw [hx] at he
  simp only [Option.some.injEq,Ob.cells.injEq,List.cons.injEq,C.b.injEq,true_and,and_true] at he
  obtain ⟨e1,e2,e3,e4,e5,e6⟩:=he
  refine ⟨b',c,?_⟩
  rw [e1,e2,e3,e4,e5,e6]
  exact this
 ·obtain ⟨q,e,hn⟩:=h.no hE
  rw [hx] at hn
  simp only [Option.some.injEq,Ob.cells.injEq,List.cons.injEq,C.b.injEq,true_and,and_true] at hn
  obtain ⟨_,_,e1,e2,e3,e4,e5⟩:=hn
  rw [e1,e2,e3,e4,e5]
  exact ⟨_,_,List.getElem?_set_self hX⟩
theorem fn_made (hp:OkP p) (hx0:σ[X]?=some (cZero p 0)) (hcl:∀ k,σ.all (Ob.closed (σ.length+k))=true):∃ S,Fn fns 51 [vptr X] σ 0 0=some (vptr X,S)∧Done p X 1 0 S∧But X σ S∧Ahead X σ.length S:=by
 have hX:=get_lt hx0
 have hXg:=(List.getElem?_eq_some_iff.mp hx0).2
 obtain ⟨S,s1,s2,s3,s4⟩:=fn_make hp (X:=X) (σ:=σ.set X (cZero p 1)) (List.getElem?_set_self hX) (fun k=>by
  rw [List.length_set]
  exact all_set (hcl k) (by simp [Ob.closed,C.closed,B.closed]))
 obtain ⟨q,e,r1,r2,r3,r4,r5,hx,hD⟩:=s2.turn 1 0
 refine ⟨_,?_,hD,⟨by rw [List.length_set];simpa using s3.1,fun i hi hl=>?_⟩,?_⟩
 case refine_2=>rw [List.getElem?_set_ne (fun e=>hi e.symm),s3.2 i hi (by simpa using hl),List.getElem?_set_ne (fun e=>hi e.symm)]
 case refine_3 =>
  obtain ⟨b,hb,ht⟩:=s4
  unfold treeOf at ht
  rw [hx] at ht
  simp only [List.getElem?_cons_succ,List.getElem?_cons_zero,Option.some.injEq,C.b.injEq] at ht
  subst ht
  exact low_at (by simpa using hb) (List.getElem?_set_self (get_lt hx))
 have hS:=get_lt hx
 have hSg:=(List.getElem?_eq_some_iff.mp hx).2
 have ho:=fn_once (args:=[vptr X,.c (.fn 73 [.ptr X 0] [])]) (σ:=σ) (lo:=0) (tr:=0) (r:=(.tup [],S.set X (.cells (cRow p 1 0 q e r1 r2 r3 r4 r5)))) (by
  unfold onceRun
  simp [getCells,hX,hXg,s1,hS,hSg])
 rw [fn_eq t51 rfl rfl]
 simp [KF,params,f51,hX,hXg,ho,bsOf]
theorem fn_made1 (h:Done p X 1 0 S) (lo tr:Nat):Fn fns 51 [vptr X] S lo tr=some (vptr X,S):=by
 obtain ⟨b,r1,r2,r3,r4,r5,hb,hx,hT⟩:=h.at_
 have hS:=get_lt hx
 have hSg:=(List.getElem?_eq_some_iff.mp hx).2
 have ho:=fn_once (args:=[vptr X,.c (.fn 73 [.ptr X 0] [])]) (σ:=S) (lo:=lo) (tr:=tr) (r:=(.tup [],S)) (by
  unfold onceRun
  simp [getCells,hS,hSg])
 rw [fn_eq t51 rfl rfl]
 simp [KF,params,f51,hS,hSg,ho,bsOf]
end
section
variable {p:GProgram} {X:Nat} {S σ:List Ob}
theorem Done.app (h:Done p X 1 0 S) (J:List Ob) (hc:∀ k,(S ++ J).all (Ob.closed ((S ++ J).length+k))=true):Done p X 1 0 (S ++ J):=by
 obtain ⟨b,r1,r2,r3,r4,r5,hb,hx,σ,rfl,hT⟩:=h.at_
 obtain ⟨I,hI⟩:=hT.pre
 refine ⟨⟨σ.length,r1,r2,r3,r4,r5,hb,get_app hx J,_,?_,hT.keep (S':=S ++ J) (fun i _ a=>List.getElem?_append_left a) (by simp) hc⟩,fun hE=>?_,hc,fun hE=>?_⟩
 ·rw [hI];simp
 ·obtain ⟨b,c,h1⟩:=h.ok hE
  exact ⟨b,c,h1.app J hc⟩
 ·obtain ⟨q,e,h1⟩:=h.no hE
  exact ⟨q,e,get_app h1 J⟩
theorem Done.cells (h:Done p X 1 0 S) {cs:List C} (hc:∀ k,cs.all (C.closed (S.length+(1+k)))=true):Done p X 1 0 (S ++ [.cells cs]) :=
 h.app _ fun k=>by
  rw [List.all_append,List.length_append,List.length_singleton,Nat.add_assoc,h.cl]
  simpa [Ob.closed] using hc k
theorem Done.low (h:Done p X 1 0 S) {n:Nat} (hl:Ahead X n S) {i:Nat} {o:Ob} (hi:i < n) (hX:i≠X) (ho:∀ k,o.closed (S.length+k)=true):Done p X 1 0 (S.set i o):=by
 obtain ⟨a,ha,hta⟩:=hl
 have ne:∀ j,i≠j→(S.set i o)[j]?=S[j]?:=fun j hj=>List.getElem?_set_ne hj
 have hcl:∀ k,(S.set i o).all (Ob.closed ((S.set i o).length+k))=true:=fun k=>by rw [List.length_set];exact all_set (h.cl k) (ho k)
 obtain ⟨b,r1,r2,r3,r4,r5,hb,hx,σ,rfl,hT⟩:=h.at_
 unfold treeOf at hta
 have hab:a=σ.length:=by
  rw [hx] at hta
  simpa using hta.symm
 subst hab
 refine ⟨⟨σ.length,r1,r2,r3,r4,r5,hb,by rw [ne X hX];exact hx,_,?_,hT.keep (S':=S.set i o) (fun j a _=>ne j (by omega)) (by simp) hcl⟩,fun hE=>?_,hcl,fun hE=>?_⟩
 ·obtain ⟨J,hJ⟩:=hT.pre
  rw [hJ];simp
 ·obtain ⟨b,c,h1⟩:=h.ok hE
  have hab:σ.length=b:=by
   rw [h1.x] at hta
   simpa using hta.symm
  subst hab
  have hbc:=h1.bc
  obtain ⟨τ,S0,t1,t2,t3,t4⟩:=h1.tree
  exact ⟨_,c,⟨τ,S0,t1,t2,t3,fun j u v=>by rw [ne j (by omega)];exact t4 j u v⟩,h1.xb,by rw [ne X hX];exact h1.x,by rw [ne _ (by omega)];exact h1.r,by rw [ne _ (by omega)];exact h1.l,by rw [ne _ (by omega)];exact h1.f,by rw [ne _ (by omega)];exact h1.w,hcl⟩
 ·obtain ⟨q,e,h1⟩:=h.no hE
  exact ⟨q,e,by rw [ne X hX];exact h1⟩
theorem Ahead.app {n:Nat} (h:Ahead X n S) (J:List Ob):Ahead X n (S ++ J):=by
 obtain ⟨a,ha,ht⟩:=h
 refine ⟨a,ha,?_⟩
 unfold treeOf at *
 cases hq:S[X]? with
 | none=>rw [hq] at ht;cases ht
 | some o=>rw [hq] at ht;rw [get_app hq J];exact ht
def Avail (p:GProgram) (X:Nat) (S:List Ob):Prop:=(S[X]?=some (cZero p 0)∧∀ k,S.all (Ob.closed (S.length+k))=true)∨Done p X 1 0 S
theorem Avail.lt (h:Avail p X S):X < S.length:=by
 rcases h with ⟨h,_⟩ | h
 ·exact get_lt h
 ·obtain ⟨b,r1,r2,r3,r4,r5,hb,hx,_⟩:=h.at_
  exact get_lt hx
theorem Avail.cl (h:Avail p X S):∀ k,S.all (Ob.closed (S.length+k))=true:=by
 rcases h with h | h
 ·exact h.2
 ·exact h.cl
theorem Avail.cells (h:Avail p X S) {cs:List C} (hc:∀ k,cs.all (C.closed (S.length+(1+k)))=true):Avail p X (S ++ [.cells cs]):=by
 rcases h with ⟨h1,h2⟩ | h
 ·refine .inl ⟨get_app h1 _,fun k=>?_⟩
  rw [List.all_append,List.length_append,List.length_singleton,Nat.add_assoc,h2]
  simpa [Ob.closed] using hc k
 ·exact .inr (h.cells hc)
theorem made_av (hp:OkP p) (h:Avail p X σ):∃ S,Fn fns 51 [vptr X] σ 0 0=some (vptr X,S)∧Done p X 1 0 S∧But X σ S:=by
 rcases h with ⟨h1,h2⟩ | h
 ·obtain ⟨S,s1,s2,s3,_⟩:=fn_made hp h1 h2
  exact ⟨S,s1,s2,s3⟩
 ·exact ⟨_,fn_made1 h 0 0,h,Nat.le_refl _,fun _ _ _=>rfl⟩
theorem fn_tabE (hp:OkP p) (h:Avail p X σ):∃ S,Fn fns 26 [vptr X] σ 0 0=some (vint (layE p),S)∧Done p X 1 0 S∧But X σ S:=by
 obtain ⟨S,s1,s2,s3⟩:=made_av hp h
 have hX:=h.lt
 obtain ⟨b,r1,r2,r3,r4,r5,hb,hx,_⟩:=s2.at_
 have h1:=get_lt hx
 have h2:=(List.getElem?_eq_some_iff.mp hx).2
 refine ⟨S,?_,s2,s3⟩
 rw [fn_eq t26 rfl rfl]
 simp [KF,params,f26,hX,s1,h1,h2]
theorem fn_tabE1 (h:Done p X 1 0 S) (lo tr:Nat):Fn fns 26 [vptr X] S lo tr=some (vint (layE p),S):=by
 have s1:=fn_made1 h lo tr
 obtain ⟨b,r1,r2,r3,r4,r5,hb,hx,_⟩:=h.at_
 have h1:=get_lt hx
 have h2:=(List.getElem?_eq_some_iff.mp hx).2
 rw [fn_eq t26 rfl rfl]
 simp [KF,params,f26,s1,h1,h2]
theorem fn_tabTree (h:Done p X 1 0 S):∃ σ,TreeOk σ S p∧∀ lo tr,Fn fns 34 [vptr X] S lo tr=some (vptr (σ.length+3),S):=by
 have s1:=fun lo tr=>fn_made1 h lo tr
 obtain ⟨b,r1,r2,r3,r4,r5,hb,hx,σ,rfl,hT⟩:=h.at_
 have h1:=get_lt hx
 have h2:=(List.getElem?_eq_some_iff.mp hx).2
 refine ⟨σ,hT,fun lo tr=>?_⟩
 rw [fn_eq t34 rfl rfl]
 simp [KF,params,f34,s1,h1,h2]
theorem layE_hier (h:layE p=0):hierP p=0:=by
 unfold layE at h
 split at h
 ·assumption
 ·exact h
theorem far_ne {q l off:Nat} (h:q≠l):farFrom q (.c (.b (.ptr l off)))=true:=by
 show (!Nat.beq l q)=true
 cases hb:Nat.beq l q with
 | false=>rfl
 | true=>exact absurd (Nat.eq_of_beq_eq_true hb).symm h
end
theorem fn_layOf (p:GProgram) (σ:List Ob) (lo tr:Nat) (hlo:lo≤σ.length):Fn fns 25 [vProgram p] σ lo tr=some (vptr (σ.length+1),σ ++ [cP p,cZero p 0]):=by
 rw [fn_eq t25 rfl rfl]
 simp [KF,params,f25,hlo]
section
variable {p:GProgram} {X:Nat} {S σ:List Ob}
theorem But.box {cs:List C} (hX:X < σ.length) (h:But X (σ ++ [.cells cs]) S):S[σ.length]?=some (.cells cs):=by
 rw [h.2 _ (by omega) (by simp)];simp
theorem But.old {J:List Ob} (h:But X (σ ++ J) S):But X σ S:=⟨by have:=h.1;simp at this;omega,fun i a b=>by rw [h.2 i a (by simp;omega)];exact List.getElem?_append_left b⟩
end
section
variable {p:GProgram} {X:Nat} {S σ:List Ob}
end
theorem av_new (p:GProgram) (S:List Ob) (h:∀ k,S.all (Ob.closed (S.length+k))=true):Avail p (S.length+1) (S ++ [cP p,cZero p 0]):=by
 refine .inl ⟨by simp [List.getElem?_append_right],fun k=>?_⟩
 rw [List.all_append,List.length_append,List.length_cons,List.length_singleton,Nat.add_assoc,h]
 simp [Ob.closed,C.closed,B.closed]
section
variable {p:GProgram} {X:Nat} {S σ:List Ob}
abbrev cTy (t:GType):Ob:=.cells [.b (.d (.int .i64 t.kind)),.b (.d (.str t.name))]
end
theorem fn_types (a b:List GType) (ha:a.length≤1000000) (hb:b.length≤1000000) (σ:List Ob) (lo tr:Nat):Fn fns 15 [vsl a,vsl b] σ lo tr=some (vbool (decide (a=b)),σ):=by
 refine fn_gen t15 rfl (σ1:=[]) rfl rfl ?_ σ lo tr
 by_cases hl:a.length=b.length
 ·have hl':(a.length:Int)=b.length:=by omega
  have L:∀ k:AExit→St→Option (V × List Ob),K fns ⟨0,0⟩ f15_l0 ⟨[(0,vsl a),(1,vsl b),(5,vint 0)],[]⟩ k=if a=b then k (.exit 0) ⟨[],[]⟩ else k .ret ⟨[(4,vbool false)],[]⟩:=fun k =>
   scan_eq (a:=a) (b:=b) (X:=fun i=>K fns ⟨0,0⟩ f15_l0 ⟨[(0,vsl a),(1,vsl b),(5,vint i)],[]⟩ k) hl
    (fun i hi hj=>by
     have hw:=wrap_succ (i:=i) (by omega)
     show K fns _ f15_l0 _ k=_
     rw [u15_l0]
     by_cases e:a[i]=b[i]
     ·simp [f15_b0,hi,hj,hw,e]
     ·simp [f15_b0,hi,hj,hw,e])
    (by show K fns _ f15_l0 _ k=_;rw [u15_l0];simp [f15_b0])
  by_cases e:a=b
  ·subst e
   simp [KF,params,f15,L]
  ·simp [KF,params,f15,hl',L,e]
 ·have hl':¬ (a.length:Int)=b.length:=by omega
  have e:¬ a=b:=fun e=>hl (by rw [e])
  simp [KF,params,f15,hl',e]
def likeB (a b:GMethod):Bool:=decide (a.params=b.params) && decide (a.ret=b.ret)
theorem fn_refAlike (a b:GMethod) (ha:OkM a) (hb:OkM b) (σ:List Ob) (lo tr:Nat):Fn fns 64 [vMethod a,vMethod b] σ lo tr=some (vbool (likeB a b),σ):=by
 refine fn_gen t64 rfl (σ1:=[]) rfl rfl ?_ σ lo tr
 have he:=fn_types a.params b.params (by have:=ha.params;omega) (by have:=hb.params;omega)
 unfold likeB
 cases h2:decide (a.params=b.params)<;>rw [h2] at he
 all_goals simp [KF,params,f64,he]
def namesB (l:List GClass) (t:GType):Bool:=(!decide (t.kind=3) && !decide (t.kind=5)) || decide (0≤atI l t.name)
theorem fn_refNamed (l:List GClass) (hl:l.length≤1000000) (t:GType) (σ:List Ob) (lo tr:Nat):Fn fns 62 [vsl l,vType t] σ lo tr=some (vbool (namesB l t),σ):=by
 refine fn_gen t62 rfl (σ1:=[]) rfl rfl ?_ σ lo tr
 have ha:=fn_at l t.name hl
 unfold namesB
 by_cases h3:t.kind=3
 ·simp [KF,params,f62,h3,ha]
 by_cases h5:t.kind=5
 ·simp [KF,params,f62,h5,ha]
 ·simp [KF,params,f62,h3,h5]
theorem fn_own (x:GClass) (hx:x.methods.length≤1000000) (n:ByteArray) (σ:List Ob) (lo tr:Nat):Fn fns 61 [vClass x,vstr n] σ lo tr=some (vint (idxI (fun m:GMethod=>decide (m.name=n)) x.methods),σ):=by
 refine fn_gen t61 rfl (σ1:=[]) rfl rfl ?_ σ lo tr
 have L:∀ k:AExit→St→Option (V × List Ob),K fns ⟨0,0⟩ f61_l0 ⟨[(1,vstr n),(2,vptr 0),(5,vint 0)],[cC x]⟩ k=match x.methods.findIdx? (fun m:GMethod=>decide (m.name=n)) with | some i=>k .ret ⟨[(4,vint i)],[cC x]⟩ | none=>k (.exit 0) ⟨[],[cC x]⟩:=fun k =>
  scan_find (l:=x.methods) (p:=fun m:GMethod=>decide (m.name=n)) (X:=fun i=>K fns ⟨0,0⟩ f61_l0 ⟨[(1,vstr n),(2,vptr 0),(5,vint i)],[cC x]⟩ k)
   (r:=fun i=>k .ret ⟨[(4,vint i)],[cC x]⟩)
   (fun i hi=>by
    have hw:=wrap_succ (i:=i) (by omega)
    show K fns _ f61_l0 _ k=_
    rw [u61_l0]
    by_cases hc:x.methods[i].name=n<;>simp [f61_b0,hi,hc,hw])
   (by show K fns _ f61_l0 _ k=_;rw [u61_l0];simp [f61_b0])
 unfold idxI
 cases hf:x.methods.findIdx? (fun m:GMethod=>decide (m.name=n))<;>simp [KF,params,f61,L,hf]
theorem at_cls {l:List GClass} {s:ByteArray} (hs:s ∈ namesOf l):∃ (i:Nat) (h:i < l.length),atI l s=i∧l[i]=clsN l s∧(clsN l s).name=s:=by
 obtain ⟨c,f1,f2,f3⟩:=find_name hs
 rcases at_find (l:=l) (s:=s) with ⟨h,_⟩ | ⟨i,h,h1,h2,h3,_⟩
 ·have f1':l.find? (fun c:GClass=>decide (c.name=s))=some c:=f1
  rw [f1'] at h;cases h
 ·have f1':l.find? (fun c:GClass=>decide (c.name=s))=some c:=f1
  have hc:clsN l s=c:=by rw [clsN,f1];rfl
  rw [h2] at f1'
  cases f1'
  exact ⟨i,h,h1,hc.symm,by rw [hc];exact f3⟩
theorem supN_cls {l:List GClass} {s:ByteArray} (hs:s ∈ namesOf l):supN l s=superL (clsN l s):=by
 obtain ⟨c,f1,f2,f3⟩:=find_name hs
 rw [supN,clsN,f1];rfl
theorem name_pos {p:GProgram} (h:hierP p=0) {s:ByteArray} (hs:s ∈ namesOf (allL p)):s≠⟨#[]⟩:=by
 obtain ⟨c,hc,rfl⟩:=List.mem_map.mp hs
 rcases List.mem_append.mp hc with a | a
 ·have:∀ c ∈ baseL,c.name≠⟨#[]⟩:=by decide
  exact this c a
 ·have hb:=prog_of h
  simp only [progB,Bool.and_eq_true,List.all_eq_true] at hb
  have:=hb.2 c a
  simp only [classB,Bool.and_eq_true] at this
  intro e
  rw [e] at this
  have h0:freshB (⟨#[]⟩:ByteArray)=false:=by decide
  rw [h0] at this
  exact absurd this.1 (by decide)
section
variable {p:GProgram} (hp:OkP p) (hP:hierP p=0)
include hp hP
theorem row_loop (k:AExit→St→Option (V × List Ob)):∀ s ∈ namesOf (allL p),∀ acc:List GClass,acc.length+(rowL (allL p) s).length≤1000 →
  K fns ⟨0,0⟩ f75_l0 ⟨[(0,vsl (allL p)),(1,vstr s),(5,.c (.osl 6 (rows acc)))],[]⟩ k=k (.exit 0) ⟨[(5,.c (.osl 6 (rows (acc ++ (rowL (allL p) s).map (clsN (allL p))))))],[]⟩:=by
 have hL:=all_len hp
 refine chain_ind hp hP fun s hs ih acc hacc=>?_
 have hat:=fn_at (allL p) s (by omega)
 obtain ⟨i,hi,h1,h2,h3⟩:=at_cls hs
 rw [h1] at hat
 have hsup:=fn_superOf (clsN (allL p) s)
 rw [← supN_cls hs] at hsup
 have hne:=name_pos hP hs
 rw [rowL_eq hp hP hs] at hacc ⊢
 rw [List.map_cons]
 generalize clsN (allL p) s=cl at *
 have q1:acc.length+1≤70368744177664:=by simp only [List.length_cons] at hacc;omega
 have q2:(acc.length+1) * 112≤70368744177664:=by omega
 rw [u75_l0]
 by_cases hn:supN (allL p) s=⟨#[]⟩
 ·simp only [hn,if_true] at hsup ⊢
  simp [f75_b0,hne,hat,hi,h2,hsup,q1,q2]
  rw [u75_l0]
  simp [f75_b0]
 ·have:=ih hn (acc ++ [cl]) (by simp only [hn,if_false,List.length_cons] at hacc;simp;omega)
  simp only [hn,if_false]
  rw [List.append_assoc,List.singleton_append] at this
  simp [f75_b0,hne,hat,hi,h2,hsup,q1,q2,this]
theorem fn_row {s:ByteArray} (hs:s ∈ namesOf (allL p)∨s=⟨#[]⟩) (σ:List Ob) (lo tr:Nat):Fn fns 75 [vsl (allL p),vstr s] σ lo tr=some (.c (.osl 6 (rows (if s=⟨#[]⟩ then [] else (rowL (allL p) s).map (clsN (allL p))))),σ):=by
 refine fn_gen t75 rfl (σ1:=[]) rfl rfl ?_ σ lo tr
 have hL:=all_len hp
 rcases hs with hs | rfl
 ·have L:=fun k=>row_loop hp hP k s hs [] (by have:=rowL_len (allL p) s;simp;omega)
  rw [if_neg (name_pos hP hs)]
  rw [List.nil_append,rs_nil] at L
  simp [KF,params,f75,L]
 ·simp [KF,params,f75]
  rw [u75_l0]
  simp [f75_b0]
  rfl
end
def slF (s:ByteArray) (fl:List GField):List GSlot:=(fl.filter fun f=>!f.static_).map fun f=>⟨s,f.name,f.type_⟩
theorem slots_in (R:List GClass) (i:Nat) (hi:i < R.length) (hR:R.length≤1000) (hf:R[i].fields.length≤14) (k:AExit→St→Option (V × List Ob)):∀ (n j:Nat) (acc:List GSlot),j+n=R[i].fields.length→acc.length+n≤100000 →
  K fns ⟨0,0⟩ f56_l0 ⟨[(5,.c (.osl 4 (rows acc))),(6,vsl R),(7,vint i),(8,vint j)],[]⟩ k=k (.exit 2) ⟨[(5,.c (.osl 4 (rows (acc ++ slF R[i].name (R[i].fields.drop j))))),(6,vsl R),(7,vint i)],[]⟩:=by
 intro n
 generalize hx:R[i]=x at hf ⊢
 induction n with
 | zero =>
  intro j acc hj hacc
  have hj':j=x.fields.length:=by omega
  subst hj'
  rw [u56_l0]
  simp [f56_b0,hi,hx,slF]
 | succ n ih =>
  intro j acc hj hacc
  have hlt:j < x.fields.length:=by omega
  have hw:=wrap_succ (i:=j) (by omega)
  have hdr:x.fields.drop j=x.fields[j] :: x.fields.drop (j+1):=List.drop_eq_getElem_cons hlt
  rw [hdr]
  generalize hy:x.fields[j]=f
  have q1:acc.length+1≤70368744177664:=by omega
  have q2:(acc.length+1) * 56≤70368744177664:=by omega
  cases hs:f.static_
  ·have e:slF x.name (f :: x.fields.drop (j+1))=⟨x.name,f.name,f.type_⟩ :: slF x.name (x.fields.drop (j+1)):=by simp [slF,hs]
   have:=ih (j+1) (acc ++ [⟨x.name,f.name,f.type_⟩]) (by omega) (by simp;omega)
   rw [List.append_assoc,List.singleton_append] at this
   rw [e,← this,u56_l0]
   simp [f56_b0,hi,hx,hlt,hy,hs,hw,q1,q2]
  ·have e:slF x.name (f :: x.fields.drop (j+1))=slF x.name (x.fields.drop (j+1)):=by simp [slF,hs]
   have:=ih (j+1) acc (by omega) (by omega)
   rw [e,← this,u56_l0]
   simp [f56_b0,hi,hx,hlt,hy,hs,hw]
theorem slots_out (R:List GClass) (hR:R.length≤1000) (hf:∀ x ∈ R,x.fields.length≤14) (k:AExit→St→Option (V × List Ob)):∀ (n:Nat) (acc:List GSlot),n≤R.length→acc.length+14 * n≤50000 →
  K fns ⟨0,0⟩ f56_l1 ⟨[(5,.c (.osl 4 (rows acc))),(6,vsl R),(7,vint ((n:Int) - 1))],[]⟩ k=k (.exit 0) ⟨[(5,.c (.osl 4 (rows (acc ++ (R.take n).reverse.flatMap fun x=>slF x.name x.fields))))],[]⟩:=by
 intro n
 induction n with
 | zero =>
  intro acc _ _
  rw [u56_l1]
  simp [f56_b1]
 | succ n ih =>
  intro acc hn hacc
  have hi:n < R.length:=by omega
  have hfl:=hf _ (List.getElem_mem hi)
  have hin:=slots_in R n hi hR hfl
  have ht:R.take (n+1)=R.take n ++ [R[n]]:=by rw [List.take_add_one,List.getElem?_eq_getElem hi];rfl
  have hsl:(slF R[n].name R[n].fields).length≤14:=by
   have:=List.length_filter_le (fun f:GField=>!f.static_) R[n].fields
   simp only [slF,List.length_map];omega
  have:=ih (acc ++ slF R[n].name R[n].fields) (by omega) (by simp;omega)
  have hin':=fun k=>hin k R[n].fields.length 0 acc (by omega) (by omega)
  simp only [List.drop_zero,Int.natCast_zero] at hin'
  have e1:((n+1:Nat):Int) - 1=n:=by omega
  have hw:IntKind.i64.wrap ((n:Int) - 1)=(n:Int) - 1:=by
   cases n with
   | zero=>decide
   | succ m =>
    have e2:((m+1:Nat):Int) - 1=(m:Nat):=by omega
    rw [e2,wrap_nat (by omega) (by omega)]
  have hge:(0:Int)≤n:=by omega
  rw [ht,List.reverse_append,List.reverse_singleton,List.singleton_append,List.flatMap_cons,← List.append_assoc,← this,e1,u56_l1]
  simp [f56_b1,hge,hin',hw]
section
variable {p:GProgram} (hp:OkP p) (hP:hierP p=0)
include hp hP
def slotsO (l:List GClass) (s:ByteArray):List GSlot:=if s=⟨#[]⟩ then [] else slotsR l (rowL l s)
theorem fn_slotsOf {s:ByteArray} (hs:s ∈ namesOf (allL p)∨s=⟨#[]⟩) (σ:List Ob) (lo tr:Nat):Fn fns 56 [vsl (allL p),vstr s] σ lo tr=some (.c (.osl 4 (rows (slotsO (allL p) s))),σ):=by
 refine fn_gen t56 rfl (σ1:=[]) rfl rfl ?_ σ lo tr
 have hrow:=fn_row hp hP hs
 have hL:=all_len hp
 have hrl:=rowL_len (allL p) s
 have hR:(if s=⟨#[]⟩ then [] else (rowL (allL p) s).map (clsN (allL p))).length≤101:=by split<;>simp;omega
 have hc:∀ x ∈ (if s=⟨#[]⟩ then [] else (rowL (allL p) s).map (clsN (allL p))),x.fields.length≤14:=by
  intro x hx
  split at hx
  ·cases hx
  ·obtain ⟨a,_,rfl⟩:=List.mem_map.mp hx
   exact (cls_ok hp a).fields
 have L:=fun k=>slots_out _ (by omega) hc k _ [] (Nat.le_refl _) (by simp only [List.length_nil];omega)
 have e:((if s=⟨#[]⟩ then [] else (rowL (allL p) s).map (clsN (allL p))).reverse.flatMap fun x=>slF x.name x.fields)=slotsO (allL p) s:=by
  unfold slotsO slotsR
  rcases hs with hs | rfl
  ·rw [if_neg (name_pos hP hs),if_neg (name_pos hP hs),← List.map_reverse,List.flatMap_map]
   have:∀ l:List ByteArray,(∀ x ∈ l,x ∈ namesOf (allL p))→(l.flatMap fun a=>slF (clsN (allL p) a).name (clsN (allL p) a).fields)=l.flatMap (slN (allL p)):=by
    intro l
    induction l with
    | nil=>intro _;rfl
    | cons a l ih =>
     intro h
     obtain ⟨i,_,_,_,h3⟩:=at_cls (h a List.mem_cons_self)
     rw [List.flatMap_cons,List.flatMap_cons,ih fun x hx=>h x (List.mem_cons_of_mem _ hx),h3]
     rfl
   exact this _ fun x hx=>rowL_sub hp hP hs x (by simpa using hx)
  ·simp
 rw [List.take_length,List.nil_append,e,rs_nil] at L
 generalize (if s=⟨#[]⟩ then [] else (rowL (allL p) s).map (clsN (allL p)))=R at *
 have hw:IntKind.i64.wrap ((R.length:Int) - 1)=(R.length:Int) - 1:=wrap_small (by omega) (by omega)
 simp [KF,params,f56,hrow,hw,L]
end
theorem idx_find {α:Type} (q:α→Bool) (l:List α):(l.find? q=none∧idxI q l = -1)∨∃ (i:Nat) (h:i < l.length),idxI q l=i∧l.find? q=some l[i]:=by
 unfold idxI
 cases h:l.findIdx? q with
 | none =>
  left
  rw [List.findIdx?_eq_none_iff] at h
  exact ⟨List.find?_eq_none.mpr fun x hx=>by simp [h x hx],rfl⟩
 | some i =>
  right
  rw [List.findIdx?_eq_some_iff_getElem] at h
  obtain ⟨h1,h2,h3⟩:=h
  refine ⟨i,h1,rfl,?_⟩
  rw [List.find?_eq_some_iff_getElem]
  exact ⟨h2,i,h1,rfl,fun j hj=>by simpa using h3 j hj⟩
abbrev zM:GMethod:=⟨⟨#[]⟩,false,false,[],⟨0,⟨#[]⟩⟩,0,[],[]⟩
abbrev zOb:Ob:=.cells [.b (.d (.str ⟨#[]⟩)),.b (.d (.bool false)),.b (.d (.bool false)),.osl 2 [],.b (.d (.int .i64 0)),.b (.d (.str ⟨#[]⟩)),.b (.d (.int .i64 0)),.osl 4 [],.osl 4 []]
def metC:List GClass→ByteArray→Option (ByteArray × GMethod)
 | [],_=>none
 | x :: r,n=>match x.methods.find? (fun m=>decide (m.name=n)) with
  | some m=>some (x.name,m)
  | none=>metC r n
theorem met_loop (R:List GClass) (hR:R.length≤1000) (hf:∀ x ∈ R,OkC x) (nm:ByteArray) (k:AExit→St→Option (V × List Ob)):∀ (n i:Nat),i+n=R.length →
  K fns ⟨0,0⟩ f63_l0 ⟨[(2,vstr nm),(7,vptr 0),(8,vsl R),(9,vint i)],[zOb]⟩ k=(metC (R.drop i) nm).elim (k (.exit 0) ⟨[(7,vptr 0)],[zOb]⟩) fun r=>k .ret ⟨[(6,vstr r.1),(7,vptr 0)],[cM r.2]⟩:=by
 intro n
 induction n with
 | zero =>
  intro i hi
  have hi':i=R.length:=by omega
  subst hi'
  rw [u63_l0]
  simp [f63_b0,metC]
 | succ n ih =>
  intro i hi
  have hlt:i < R.length:=by omega
  have hw:=wrap_succ (i:=i) (by omega)
  have hdr:R.drop i=R[i] :: R.drop (i+1):=List.drop_eq_getElem_cons hlt
  have hok:=hf _ (List.getElem_mem hlt)
  rw [hdr]
  generalize hx:R[i]=x at hok
  have ho:=fn_own x (by have:=hok.methods;omega) nm
  unfold metC
  rcases idx_find (fun m:GMethod=>decide (m.name=nm)) x.methods with ⟨h1,h2⟩ | ⟨j,hj,h1,h2⟩
  ·rw [h2] at ho
   rw [h1,← ih (i+1) (by omega),u63_l0]
   simp [f63_b0,hlt,hx,hw,ho]
  ·rw [h1] at ho
   have htw:=fn_twinMethod x.methods[j] (hok.ms _ (List.getElem_mem hj))
   rw [h2,u63_l0]
   generalize hm:x.methods[j]=m at *
   simp [f63_b0,hlt,hx,hw,ho,hj,hm,htw]
section
variable {p:GProgram} (hp:OkP p) (hP:hierP p=0)
include hp hP
def metO (l:List GClass) (s n:ByteArray):Option (ByteArray × GMethod):=if s=⟨#[]⟩ then none else metR l (rowL l s) n
theorem metC_R (n:ByteArray):∀ r:List ByteArray,(∀ x ∈ r,x ∈ namesOf (allL p))→metC (r.map (clsN (allL p))) n=metR (allL p) r n
 | [],_=>rfl
 | a :: r,h=>by
  obtain ⟨i,_,_,_,h3⟩:=at_cls (h a List.mem_cons_self)
  rw [List.map_cons,metC,metR,metC_R n r fun x hx=>h x (List.mem_cons_of_mem _ hx),h3]
  cases (clsN (allL p) a).methods.find? (fun m=>decide (m.name=n))<;>rfl
theorem fn_refMet {s:ByteArray} (hs:s ∈ namesOf (allL p)∨s=⟨#[]⟩) (n:ByteArray) (σ:List Ob) (lo tr:Nat):Fn fns 63 [vsl (allL p),vstr s,vstr n] σ lo tr=some (.tup [vstr ((metO (allL p) s n).elim ⟨#[]⟩ (·.1)),vMethod ((metO (allL p) s n).elim zM (·.2))],σ):=by
 refine fn_gen t63 rfl (σ1:=[]) rfl rfl ?_ σ lo tr
 have hrow:=fn_row hp hP hs
 have hL:=all_len hp
 have hrl:=rowL_len (allL p) s
 have hR:(if s=⟨#[]⟩ then [] else (rowL (allL p) s).map (clsN (allL p))).length≤101:=by split<;>simp;omega
 have hc:∀ x ∈ (if s=⟨#[]⟩ then [] else (rowL (allL p) s).map (clsN (allL p))),OkC x:=by
  intro x hx
  split at hx
  ·cases hx
  ·obtain ⟨a,_,rfl⟩:=List.mem_map.mp hx
   exact cls_ok hp a
 have L:=fun k=>met_loop _ (by omega) hc n k _ 0 (Nat.zero_add _)
 have e:metC (if s=⟨#[]⟩ then [] else (rowL (allL p) s).map (clsN (allL p))) n=metO (allL p) s n:=by
  unfold metO
  rcases hs with hs | rfl
  ·rw [if_neg (name_pos hP hs),if_neg (name_pos hP hs)]
   exact metC_R hp hP n _ (rowL_sub hp hP hs)
  ·simp [metC]
 rw [List.drop_zero,e,Int.natCast_zero] at L
 generalize (if s=⟨#[]⟩ then [] else (rowL (allL p) s).map (clsN (allL p)))=R at *
 cases hq:metO (allL p) s n with
 | none =>
  rw [hq] at L
  simp only [Option.elim] at L ⊢
  simp [KF,params,f63,hrow,L]
  exact ⟨rfl,rfl,rfl⟩
 | some r =>
  rw [hq] at L
  simp only [Option.elim] at L ⊢
  simp [KF,params,f63,hrow,L]
end
end
end Go.Proofs.YteeofkbhopioiaaGreatDoor.Am
