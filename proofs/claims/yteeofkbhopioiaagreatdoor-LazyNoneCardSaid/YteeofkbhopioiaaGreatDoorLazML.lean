/- Lemmas that the rows' proofs rest on; each states its own conditions. -/
import Derived.Test.YteeofkbhopioiaaGreatDoorLazMK
import Derived.Test.YteeofkbhopioiaaGreatDoorLazMA
namespace Go.Proofs.YteeofkbhopioiaaGreatDoor.Am
set_option linter.unusedSimpArgs false
set_option linter.unusedVariables false
set_option linter.unusedSectionVars false
open Go
section
attribute [local simp ↓] K_seq K_cond K_block K_region K_skip K_exit K_ret K_wrap KA_nil KA_none KA_some str_eq
attribute [local simp] beq_int bne_int dec_eqN dec_ltN dec_leN stepOp St.rd St.raw St.set St.took get_cons V.down C.down Env.keep binV unV arith isShift strs intOf optInt wrapEnd keptAt andK endOf frzV frz1 frzC frzCs frz1s resOf resOne resAll V.closed V.closed1 C.closed B.closed Ob.closed V.cells partsIn rep chunk datas C.data rowsOf getCells put_nil put_zero put_succ mayWrite C.plain eqV_bool eqV_agg eqV_pnn eqV_pnp eqV_ppn eqV_mnn eqV_mmn eqV_snn eqV_sen eqV_san eqV_sdn rs_len rs_getE rs_app rs_take rs_drop rs_all rs_each row_len str_nilP str_nilE str_nilB vagg row_Int row_Bool row_Str k_Int k_Bool k_Str snoc_Int snoc_Bool snoc_Str row_Type k_Type snoc_Type eta_Type sames_Type row_Field k_Field snoc_Field eta_Field sames_Field row_Instr k_Instr snoc_Instr eta_Instr sames_Instr row_Catch k_Catch snoc_Catch eta_Catch sames_Catch row_Method k_Method snoc_Method row_Class k_Class snoc_Class row_Program k_Program snoc_Program row_Slot k_Slot snoc_Slot eta_Slot sames_Slot row_Way k_Way snoc_Way eta_Way sames_Way
theorem none_loop (x y:List GWay) (hy:y.length≤100000) (hq:∀ i (hi:i < y.length),(decide (y[i].kind=3) || decide (y[i].kind=4))=decide (x.length≤i)) (l:Int) (p:GProgram) (t:GType) (k:AExit→St→Option (V × List Ob)) :
  K fns ⟨0,0⟩ f6_l0 ⟨[(3,vint l),(4,vptr 0),(5,vptr 1),(9,vsl x),(11,vsl y),(13,vint (0:Nat))],[cP p,cTy t]⟩ k=k (.exit 0) ⟨[(3,vint l),(4,vptr 0),(5,vptr 1),(9,vsl x),(11,vsl y)],[cP p,cTy t]⟩:=by
 have h1:=scan_on (n:=y.length) (X:=fun i=>K fns ⟨0,0⟩ f6_l0 ⟨[(3,vint l),(4,vptr 0),(5,vptr 1),(9,vsl x),(11,vsl y),(13,vint i)],[cP p,cTy t]⟩ k)
  (fun i hi=>by
   have hw:=wrap_succ (i:=i) (by omega)
   have h:=hq i hi
   show K fns _ f6_l0 _ k=_
   rw [u6_l0]
   generalize hk:y[i].kind=a at h
   by_cases hx:x.length≤i
   ·have hx':(x.length:Int)≤i:=by omega
    by_cases a3:a=3
    ·subst a3
     simp [f6_b0,hi,hw,hk,hx,hx']
    ·have a4:a=4:=by simpa [a3,hx] using h
     subst a4
     simp [f6_b0,hi,hw,hk,hx,hx']
   ·have hx':¬ (x.length:Int)≤i:=by omega
    have h':¬ a=3∧¬ a=4:=by simpa [hx] using h
    simp [f6_b0,hi,hw,hk,hx,hx',h'.1,h'.2])
 refine h1.trans ?_
 show K fns _ f6_l0 _ k=_
 rw [u6_l0]
 simp [f6_b0]
set_option maxRecDepth 4000 in
theorem fn_lazNone (p:GProgram) (t:GType) (L:List GType) (l:Int) (σ:List Ob) (lo tr:Nat):Fn fns 6 [vProgram p,vType t,vsl L,vint l] σ lo tr=some (vbool true,σ):=by
 refine fn_gen t6 rfl (σ1:=[]) rfl rfl ?_ σ lo tr
 cases hv:heavy p
 case true=>simp [KF,params,f6,fn_heavy,hv]
 by_cases la:(60:Int) < t.name.size
 ·simp [KF,params,f6,fn_heavy,hv,la]
 by_cases lc:(3:Int)≤L.length
 ·have lc':3≤L.length:=by omega
  simp [KF,params,f6,fn_heavy,hv,la,lc,lc']
 have lc':¬ 3≤L.length:=by omega
 have hp:=okP hv
 have hly:=fn_refLayout p hp
 rw [← lay_eq hp] at hly
 by_cases hE:layE p=0
 case neg=>simp [KF,params,f6,fn_heavy,hv,la,lc,lc',hly,hE]
 have hP:=layE_hier hE
 rw [hE] at hly
 obtain ⟨m,hm1,hm2⟩:=mod4 l
 have h1:=fn_lazyWays p hp t L (by omega) L.length m
 have h2:=fn_lazyWays p hp t L (by omega) (L.length+1) m
 have hkk:=fn_kinds p hp t.name
 cases hn:namedT p t with
 | false =>
  have hX:∀ o,waysX p t L o m=8:=fun o=>by unfold waysX;rw [if_pos hE,if_neg (by rw [hn];simp)]
  have hW:∀ o,waysP p t L o m=[]:=fun o=>by unfold waysP;rw [hX];rfl
  rw [hX,hW] at h1 h2
  have w0:IntKind.i64.wrap 0=0:=by decide
  have w1:IntKind.i64.wrap ((L.length:Int)+1)=(L.length:Int)+1:=wrap_succ (i:=L.length) (by omega)
  simp only [vsl,rs_nil] at h1 h2
  simp [KF,params,f6,rs_nil,fn_heavy,hv,la,lc,lc',hly,hm2,h1,h2,w0,w1,fn_wakesL]
 | true =>
  have hX:∀ o:Int,0≤o→o≤3→waysX p t L o m=0:=fun o a b=>by unfold waysX;rw [if_pos hE,if_pos hn,if_neg (by omega)]
  have hW:∀ o:Int,0≤o→o≤3→waysP p t L o m=waysI p t L o m:=fun o a b=>by unfold waysP;rw [if_pos (hX o a b)]
  rw [hX _ (by omega) (by omega),hW _ (by omega) (by omega)] at h1
  rw [hX _ (by omega) (by omega),hW _ (by omega) (by omega),ways_more] at h2
  have w1:IntKind.i64.wrap ((L.length:Int)+1)=(L.length:Int)+1:=wrap_succ (i:=L.length) (by omega)
  have hnl:=new_len p t m
  have hkl:=kinds_len hp t.name
  have hfl:(waysI p t L L.length m).length≤200:=by
   rw [ways_full,List.length_cons]
   have:=there_len p t L 0
   omega
  have hq:∀ i (hi:i < (waysI p t L L.length m ++ newF p t m).length),(decide ((waysI p t L L.length m ++ newF p t m)[i].kind=3) || decide ((waysI p t L L.length m ++ newF p t m)[i].kind=4))=decide ((waysI p t L L.length m).length≤i):=fun i hi=>by
   by_cases hlt:i < (waysI p t L L.length m).length
   ·have:=full_kind (List.getElem_mem hlt)
    rw [List.getElem_append_left hlt,decide_eq_false this.1,decide_eq_false this.2,decide_eq_false (by omega)];rfl
   ·rw [List.getElem_append_right (by omega),decide_eq_true (show (waysI p t L L.length m).length≤i by omega)]
    rcases new_kind (List.getElem_mem (l:=newF p t m) (n:=i - (waysI p t L L.length m).length) (by rw [List.length_append] at hi;omega)) with h | h<;>rw [h.1]<;>rfl
  have hnl2:(newF p t m).length≤200:=by rw [hnl];split<;>omega
  have Lo:=fun k=>none_loop (waysI p t L L.length m) (waysI p t L L.length m ++ newF p t m) (by rw [List.length_append];omega) hq m p t k
  simp only [Int.natCast_zero] at Lo
  have h5:=fn_waysEq (waysI p t L L.length m) (waysI p t L L.length m) (by omega) (by omega)
  simp only [decide_true] at h5
  have htk:(waysI p t L L.length m ++ newF p t m).take (waysI p t L L.length m).length=waysI p t L L.length m:=by simp
  have hla:(waysI p t L L.length m ++ newF p t m).length=(waysI p t L L.length m).length+(newF p t m).length:=List.length_append
  have hkc:(newF p t m).length=if t.kind=3 then (kindsP p t.name).length else m+1:=by rw [hnl];split<;>omega
  generalize waysI p t L L.length m=x at *
  generalize newF p t m=z at *
  generalize x ++ z=y at *
  generalize kindsP p t.name=Q at *
  have g1:¬ ((y.length:Nat):Int) < x.length:=by omega
  have g2:x.length≤y.length:=by omega
  have g3:((x.length:Nat):Int)≤y.length:=by omega
  obtain ⟨tk,tn⟩:=t
  simp only at hkc hkk
  by_cases k3:tk=3
  ·subst k3
   rw [if_pos rfl] at hkc
   have e:IntKind.i64.wrap ((x.length:Int)+(Q.length:Int))=y.length:=by rw [← hkc,← Int.natCast_add,← hla];exact wrap_nat (by omega) (by omega)
   have w2:IntKind.i64.wrap ((m:Int)+1)=(m:Int)+1:=wrap_succ (i:=m) (by omega)
   simp [KF,params,f6,fn_heavy,hv,la,lc,lc',hly,hm2,h1,h2,w1,w2,g1,g2,g3,htk,h5,Lo,hkk,e,fn_wakesL]
  ·rw [if_neg k3] at hkc
   have e:IntKind.i64.wrap ((x.length:Int)+((m:Int)+1))=y.length:=by
    have e2:(x.length:Int)+((m:Int)+1)=((x.length+(m+1):Nat):Int):=by omega
    rw [e2,← hkc,← hla];exact wrap_nat (by omega) (by omega)
   have w2:IntKind.i64.wrap ((m:Int)+1)=(m:Int)+1:=wrap_succ (i:=m) (by omega)
   simp [KF,params,f6,fn_heavy,hv,la,lc,lc',hly,hm2,h1,h2,w1,w2,g1,g2,g3,htk,h5,Lo,k3,e,fn_wakesL]
end
end Go.Proofs.YteeofkbhopioiaaGreatDoor.Am
