/- Lemmas that the rows' proofs rest on; each states its own conditions. -/
import Derived.Test.YteeofkbhopioiaaGreatDoorLazMA
namespace Go.Proofs.YteeofkbhopioiaaGreatDoor.Am
set_option linter.unusedSimpArgs false
set_option linter.unusedVariables false
set_option linter.unusedSectionVars false
open Go
section
attribute [local simp ↓] K_seq K_cond K_block K_region K_skip K_exit K_ret K_wrap KA_nil KA_none KA_some str_eq
attribute [local simp] beq_int bne_int dec_eqN dec_ltN dec_leN stepOp St.rd St.raw St.set St.took get_cons V.down C.down Env.keep binV unV arith isShift strs intOf optInt wrapEnd keptAt andK endOf frzV frz1 frzC frzCs frz1s resOf resOne resAll V.closed V.closed1 C.closed B.closed Ob.closed V.cells partsIn rep chunk datas C.data rowsOf getCells put_nil put_zero put_succ mayWrite C.plain eqV_bool eqV_agg eqV_pnn eqV_pnp eqV_ppn eqV_mnn eqV_mmn eqV_snn eqV_sen eqV_san eqV_sdn rs_len rs_getE rs_app rs_take rs_drop rs_all rs_each row_len str_nilP str_nilE str_nilB vagg row_Int row_Bool row_Str k_Int k_Bool k_Str snoc_Int snoc_Bool snoc_Str row_Type k_Type snoc_Type eta_Type sames_Type row_Field k_Field snoc_Field eta_Field sames_Field row_Instr k_Instr snoc_Instr eta_Instr sames_Instr row_Catch k_Catch snoc_Catch eta_Catch sames_Catch row_Method k_Method snoc_Method row_Class k_Class snoc_Class row_Program k_Program snoc_Program row_Slot k_Slot snoc_Slot eta_Slot sames_Slot row_Way k_Way snoc_Way eta_Way sames_Way
theorem wi_len' {p:GProgram} (hp:OkP p) (t:GType) (L:List GType) (o:Int):(waysI p t L o 0).length≤L.length+200:=by
 have h1:=there_len p t L 0
 have h2:=kinds_len hp t.name
 unfold waysI newF
 rw [List.length_cons,List.length_append]
 split
 ·simp;omega
 ·split
  ·rw [List.length_map];omega
  ·rw [List.length_map,List.length_range];omega
theorem mod4 (a:Int):∃ k:Nat,k < 4∧IntKind.i64.wrap ((IntKind.u64.wrap a).tmod 4)=(k:Int):=(pick_ix a (m:=4) (by decide) (by decide)).2
theorem un_in (x y:List GWay) (hy:y.length≤100000) (i:Nat) (hi:i < x.length) (S:List Ob) (hS:S.all (Ob.closed S.length)=true) (k:AExit→St→Option (V × List Ob)):∀ (n j:Nat) (b:Bool),j+n=y.length →
  K fns ⟨0,0⟩ f4_l0 ⟨[(11,vsl x),(13,vsl y),(15,vint i),(16,vbool b),(17,vint j)],S⟩ k=k (.exit 2) ⟨[(11,vsl x),(13,vsl y),(15,vint i),(16,vbool (b || (y.drop j).any fun w=>decide (x[i]=w)))],S⟩:=by
 intro n
 induction n with
 | zero =>
  intro j b hj
  have hj':j=y.length:=by omega
  subst hj'
  rw [List.drop_length,List.any_nil,Bool.or_false,u4_l0]
  simp [f4_b0,hS,-List.all_eq_true]
 | succ n ih =>
  intro j b hj
  have hlt:j < y.length:=by omega
  have hw:=wrap_succ (i:=j) (by omega)
  have hdr:y.drop j=y[j] :: y.drop (j+1):=List.drop_eq_getElem_cons hlt
  have:=ih (j+1) (b || decide (x[i]=y[j])) (by omega)
  rw [Bool.or_assoc] at this
  rw [hdr,List.any_cons,← this,u4_l0]
  generalize hu:x[i]=u
  generalize hv:y[j]=v
  cases b
  ·by_cases e:u=v
   ·subst e
    simp [f4_b0,hi,hlt,hu,hv,hw,hS,-List.all_eq_true]
   ·simp [f4_b0,hi,hlt,hu,hv,hw,hS,e,-List.all_eq_true]
  ·simp [f4_b0,hi,hlt,hu,hv,hw,hS,-List.all_eq_true]
theorem un_out (x y:List GWay) (hx:x.length≤100000) (hy:y.length≤100000) (hxy:∀ w ∈ x,w ∈ y) (S:List Ob) (hS:S.all (Ob.closed S.length)=true) (k:AExit→St→Option (V × List Ob)) :
  K fns ⟨0,0⟩ f4_l1 ⟨[(11,vsl x),(13,vsl y),(15,vint (0:Nat))],S⟩ k=k (.exit 0) ⟨[],S⟩:=by
 have h1:=scan_on (n:=x.length) (X:=fun i=>K fns ⟨0,0⟩ f4_l1 ⟨[(11,vsl x),(13,vsl y),(15,vint i)],S⟩ k)
  (fun i hi=>by
   have hw:=wrap_succ (i:=i) (by omega)
   have hin:=fun k=>un_in x y hy i hi S hS k y.length 0 false (Nat.zero_add _)
   have ha:(y.any fun w=>decide (x[i]=w))=true:=List.any_eq_true.mpr ⟨x[i],hxy _ (List.getElem_mem hi),by simp⟩
   rw [List.drop_zero,ha] at hin
   simp only [Int.natCast_zero,Bool.or_true] at hin
   show K fns _ f4_l1 _ k=_
   rw [u4_l1]
   simp [f4_b1,hi,hw,hin,hS,-List.all_eq_true])
 refine h1.trans ?_
 show K fns _ f4_l1 _ k=_
 rw [u4_l1]
 simp [f4_b1,hS,-List.all_eq_true]
set_option maxRecDepth 4000 in
theorem fn_lazUnder (p:GProgram) (a b:ByteArray) (L:List GType) (o:Int) (σ:List Ob) (lo tr:Nat):Fn fns 4 [vProgram p,vstr a,vstr b,vsl L,vint o] σ lo tr=some (vbool true,σ):=by
 refine fn_gen t4 rfl (σ1:=[]) rfl rfl ?_ σ lo tr
 cases hv:heavy p
 case true=>simp [KF,params,f4,fn_heavy,hv]
 by_cases la:(60:Int) < a.size
 ·simp [KF,params,f4,fn_heavy,hv,la]
 by_cases lb:(60:Int) < b.size
 ·simp [KF,params,f4,fn_heavy,hv,la,lb]
 by_cases lc:(3:Int) < L.length
 ·have lc':3 < L.length:=by omega
  simp [KF,params,f4,fn_heavy,hv,la,lb,lc,lc']
 have lc':¬ 3 < L.length:=by omega
 have hp:=okP hv
 have hly:=fn_refLayout p hp
 rw [← lay_eq hp] at hly
 by_cases hE:layE p=0
 case neg=>simp [KF,params,f4,fn_heavy,hv,la,lb,lc,lc',hly,hE]
 have hP:=layE_hier hE
 rw [hE] at hly
 have hun:=fn_refUnder p hp a b
 rw [refU_eq hp hP] at hun
 cases hu:underP p a b with
 | false =>
  rw [hu] at hun
  simp [KF,params,f4,fn_heavy,hv,la,lb,lc,lc',hly,hun]
 | true =>
  rw [hu] at hun
  obtain ⟨o',ho1,ho2⟩:=mod4 o
  have ha:=under_names hu
  have hb:b ∈ namesOf (allL p):=by
   rcases (under_iff hp hP ha b).mp hu with rfl | h
   ·exact obj_in p
   ·exact h.names (sane_of hp hP).whole ha
  have hX:∀ c ∈ namesOf (allL p),waysX p ⟨3,c⟩ L o' 0=0:=fun c hc=>by
   have hn:namedT p ⟨3,c⟩=true:=by
    unfold namedT
    simp only [true_or,if_true]
    rw [← names_some];exact decide_eq_true hc
   unfold waysX
   rw [if_pos hE,if_pos hn,if_neg (by omega)]
  have h1:=fn_lazyWays p hp ⟨3,a⟩ L (by omega) o' 0
  have h2:=fn_lazyWays p hp ⟨3,b⟩ L (by omega) o' 0
  have e1:waysP p ⟨3,a⟩ L o' 0=waysI p ⟨3,a⟩ L o' 0:=by unfold waysP;rw [if_pos (hX a ha)]
  have e2:waysP p ⟨3,b⟩ L o' 0=waysI p ⟨3,b⟩ L o' 0:=by unfold waysP;rw [if_pos (hX b hb)]
  rw [e1,hX a ha] at h1
  rw [e2,hX b hb] at h2
  have hs:=ways_up hp hE hu L o' 0
  have l1:=wi_len' hp ⟨3,a⟩ L o'
  have l2:=wi_len' hp ⟨3,b⟩ L o'
  have hle:=hs.length_le
  have Lo:=fun k=>un_out (waysI p ⟨3,a⟩ L o' 0) (waysI p ⟨3,b⟩ L o' 0) (by omega) (by omega) (fun w hw=>hs.subset hw) [cP p] (by simp [Ob.closed,C.closed,B.closed]) k
  simp only [Int.natCast_zero] at Lo
  generalize waysI p ⟨3,a⟩ L o' 0=x at *
  generalize waysI p ⟨3,b⟩ L o' 0=y at *
  have hle':¬ ((y.length:Nat):Int) < x.length:=by omega
  have hle2:¬ y.length < x.length:=by omega
  simp [KF,params,f4,fn_heavy,hv,la,lb,lc,lc',hly,hun,ho2,h1,h2,hle',hle2,Lo,fn_wakesL]
end
end Go.Proofs.YteeofkbhopioiaaGreatDoor.Am
