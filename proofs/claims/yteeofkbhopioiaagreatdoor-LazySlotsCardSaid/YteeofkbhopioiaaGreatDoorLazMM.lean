/- Lemmas that the rows' proofs rest on; each states its own conditions. -/
import Derived.Test.YteeofkbhopioiaaGreatDoorLazMK
import Derived.Test.YteeofkbhopioiaaGreatDoorLazMA
namespace Go.Proofs.YteeofkbhopioiaaGreatDoor.Am
set_option linter.unusedSimpArgs false
set_option linter.unusedVariables false
set_option linter.unusedSectionVars false
open Go
section
attribute [local simp ↓] K_seq K_cond K_block K_region K_skip K_exit K_ret K_wrap KA_nil KA_none KA_some str_eq
attribute [local simp] beq_int bne_int dec_eqN dec_ltN dec_leN stepOp St.rd St.raw St.set St.took get_cons V.down C.down Env.keep binV unV arith isShift strs intOf optInt wrapEnd keptAt andK endOf frzV frz1 frzC frzCs frz1s resOf resOne resAll V.closed V.closed1 C.closed B.closed Ob.closed V.cells partsIn rep chunk datas C.data rowsOf getCells put_nil put_zero put_succ mayWrite C.plain eqV_bool eqV_agg eqV_pnn eqV_pnp eqV_ppn eqV_mnn eqV_mmn eqV_snn eqV_sen eqV_san eqV_sdn rs_len rs_getE rs_app rs_take rs_drop rs_all rs_each row_len str_nilP str_nilE str_nilB vagg row_Int row_Bool row_Str k_Int k_Bool k_Str snoc_Int snoc_Bool snoc_Str row_Type k_Type snoc_Type eta_Type sames_Type row_Field k_Field snoc_Field eta_Field sames_Field row_Instr k_Instr snoc_Instr eta_Instr sames_Instr row_Catch k_Catch snoc_Catch eta_Catch sames_Catch row_Method k_Method snoc_Method row_Class k_Class snoc_Class row_Program k_Program snoc_Program row_Slot k_Slot snoc_Slot eta_Slot sames_Slot row_Way k_Way snoc_Way eta_Way sames_Way
theorem ord_loop (p:GProgram) (t:GType) (l:List GWay) (hl:l.length≤100000) (K0:List ByteArray) (k:AExit→St→Option (V × List Ob)):∀ (n i at_:Nat) (a:GWay),i+n=l.length→1≤i→at_≤i→l[i - 1]?=some a→ordB K0 a at_ (l.drop i)=true →
  K fns ⟨0,0⟩ f7_l0 ⟨[(11,vsl l),(13,vsl K0),(14,vint at_),(15,vint i)],[cP p,cTy t]⟩ k=k (.exit 0) ⟨[],[cP p,cTy t]⟩:=by
 intro n
 induction n with
 | zero =>
  intro i at_ a hi _ _ _ _
  have hi':i=l.length:=by omega
  subst hi'
  rw [u7_l0]
  simp [f7_b0]
 | succ n ih =>
  intro i at_ a hi h1 hat ha ho
  have hlt:i < l.length:=by omega
  have hw:=wrap_succ (i:=i) (by omega)
  have hwa:=wrap_succ (i:=at_) (by omega)
  have hdr:l.drop i=l[i] :: l.drop (i+1):=List.drop_eq_getElem_cons hlt
  have hlt1:i - 1 < l.length:=by omega
  have ha':l[i - 1]=a:=(List.getElem?_eq_some_iff.mp ha).2
  have e1:IntKind.i64.wrap ((i:Int) - 1)=((i - 1:Nat):Int):=by
   have:(i:Int) - 1=((i - 1:Nat):Int):=by omega
   rw [this];exact wrap_nat (by omega) (by omega)
  rw [hdr] at ho
  unfold ordB at ho
  rw [Bool.and_eq_true] at ho
  obtain ⟨hp1,hp2⟩:=ho
  have hget:l[i]?=some l[i]:=List.getElem?_eq_getElem hlt
  have hnx:∀ at2:Nat,at2≤i+1→ordB K0 l[i] at2 (l.drop (i+1))=true→K fns ⟨0,0⟩ f7_l0 ⟨[(11,vsl l),(13,vsl K0),(14,vint at2),(15,vint ((i+1:Nat):Int))],[cP p,cTy t]⟩ k=k (.exit 0) ⟨[],[cP p,cTy t]⟩:=fun at2 h2 h3=>ih (i+1) at2 l[i] (by omega) (by omega) h2 (by rw [Nat.add_sub_cancel];exact hget) h3
  obtain ⟨b,hb⟩:∃ b,l[i]=b:=⟨_,rfl⟩
  simp only [hb] at hp1 hp2 hnx
  obtain ⟨ak,an,atk,atn⟩:=a
  obtain ⟨bk,bn,btk,btn⟩:=b
  unfold pairB at hp1
  simp only at hp1 hp2
  have c1:¬ bk < ak:=by
   intro h;rw [decide_eq_true h] at hp1;simp at hp1
  by_cases b3:bk=3
  ·subst b3
   rw [if_pos rfl,Bool.and_eq_true] at hp2
   obtain ⟨q1,q2⟩:=hp2
   cases hk:K0[at_]? with
   | none=>rw [hk] at q1;cases q1
   | some s =>
    rw [hk] at q1
    have hs:(⟨btk,btn⟩:GType)=⟨3,s⟩:=by simpa using q1
    cases hs
    have ka:=get_lt hk
    have kg:=(List.getElem?_eq_some_iff.mp hk).2
    have ka':¬ (K0.length:Int)≤at_:=by omega
    have ka2:¬ K0.length≤at_:=by omega
    rw [← hnx (at_+1) (by omega) q2,u7_l0]
    by_cases e:ak=3
    ·subst e
     simp [f7_b0,hlt,hlt1,ha',hb,e1,hw,hwa,ka,kg,ka',ka2]
    ·simp [f7_b0,hlt,hlt1,ha',hb,e1,hw,hwa,ka,kg,ka',ka2,c1,e]
  ·rw [if_neg b3] at hp2
   rw [← hnx at_ (by omega) hp2,u7_l0]
   by_cases e:ak=bk
   ·subst e
    have c2:¬ bn≤an:=by
     intro h;rw [decide_eq_true h] at hp1;simp [b3] at hp1
    simp [f7_b0,hlt,hlt1,ha',hb,e1,hw,b3,c2]
   ·simp [f7_b0,hlt,hlt1,ha',hb,e1,hw,b3,c1,e]
set_option maxRecDepth 4000 in
theorem fn_lazOrder (p:GProgram) (t:GType) (L:List GType) (o l:Int) (σ:List Ob) (lo tr:Nat):Fn fns 7 [vProgram p,vType t,vsl L,vint o,vint l] σ lo tr=some (vbool true,σ):=by
 refine fn_gen t7 rfl (σ1:=[]) rfl rfl ?_ σ lo tr
 cases hv:heavy p
 case true=>simp [KF,params,f7,fn_heavy,hv]
 by_cases la:(60:Int) < t.name.size
 ·simp [KF,params,f7,fn_heavy,hv,la]
 by_cases lc:(3:Int) < L.length
 ·have lc':3 < L.length:=by omega
  simp [KF,params,f7,fn_heavy,hv,la,lc,lc']
 have lc':¬ 3 < L.length:=by omega
 have hp:=okP hv
 obtain ⟨o',ho1,ho2⟩:=mod4 o
 obtain ⟨m,hm1,hm2⟩:=mod4 l
 have h1:=fn_lazyWays p hp t L (by omega) o' m
 have hkk:=fn_kinds p hp t.name
 have hwl:waysX p t L o' m=0→waysP p t L o' m=waysI p t L o' m:=fun h=>by unfold waysP;rw [if_pos h]
 have hwn:waysX p t L o' m≠0→waysP p t L o' m=[]:=fun h=>by unfold waysP;rw [if_neg h]
 have hlen:(waysI p t L o' m).length≤L.length+200:=by
  have h1:=there_len p t L 0
  have h2:=kinds_len hp t.name
  unfold waysI newF
  rw [List.length_cons,List.length_append]
  split
  ·simp;omega
  ·split
   ·rw [List.length_map];omega
   ·rw [List.length_map,List.length_range];omega
 have hord:=ord_ways p t L o' m
 generalize hX:waysX p t L o' m=X at *
 generalize waysP p t L o' m=W at *
 by_cases h0:X=0
 ·subst h0
  have hW:=hwl rfl
  subst hW
  have Lo:=fun k=>ord_loop p t (waysI p t L o' m) (by omega) (kindsP p t.name) k ((waysI p t L o' m).length - 1) 1 0 ⟨1,0,tyZ⟩ (by unfold waysI;simp;omega) (Nat.le_refl _) (by decide) (by unfold waysI;rfl) (by unfold waysI;exact hord)
  have e1:((1:Nat):Int)=1:=rfl
  simp only [Int.natCast_zero,e1] at Lo
  unfold waysI at *
  generalize thereF p t 0 L ++ (if (o':Int)≤L.length then [] else newF p t m)=R at *
  generalize kindsP p t.name=Q at *
  have g1:¬ ((R.length:Int)+1=0):=by omega
  simp [KF,params,f7,fn_heavy,hv,la,lc,lc',ho2,hm2,h1,hkk,Lo,g1,fn_wakesL]
 ·have hW:=hwn h0
  subst hW
  simp only [vsl,rs_nil] at h1
  simp [KF,params,f7,rs_nil,fn_heavy,hv,la,lc,lc',ho2,hm2,h1,h0,fn_wakesL]
theorem slaw_l0 (p:GProgram) (c:GClass) (q:Nat) (hq:q≤3) (S8:List GType) (e:Int) (k:AExit→St→Option (V × List Ob)) :
  K fns ⟨0,0⟩ f8_l0 ⟨[(2,vint q),(3,vptr 0),(7,vptr 1),(8,vsl S8),(9,vint e),(10,vsl (List.replicate q (⟨3,c.name⟩:GType))),(12,vsl (List.replicate q (⟨2,⟨#[]⟩⟩:GType))),(14,vint (0:Nat))],[cP p,cC c]⟩ k=k (.exit 0) ⟨[(3,vptr 0),(7,vptr 1),(8,vsl S8),(9,vint e)],[cP p,cC c]⟩:=by
 have h1:=scan_on (n:=q) (X:=fun i=>K fns ⟨0,0⟩ f8_l0 ⟨[(2,vint q),(3,vptr 0),(7,vptr 1),(8,vsl S8),(9,vint e),(10,vsl (List.replicate q (⟨3,c.name⟩:GType))),(12,vsl (List.replicate q (⟨2,⟨#[]⟩⟩:GType))),(14,vint i)],[cP p,cC c]⟩ k)
  (fun i hi=>by
   have hw:=wrap_succ (i:=i) (by omega)
   have g1:i < (List.replicate q (⟨3,c.name⟩:GType)).length:=by simpa using hi
   have g2:(List.replicate q (⟨3,c.name⟩:GType))[i]'g1=⟨3,c.name⟩:=by simp
   have g3:i < (List.replicate q (⟨2,⟨#[]⟩⟩:GType)).length:=by simpa using hi
   have g4:(List.replicate q (⟨2,⟨#[]⟩⟩:GType))[i]'g3=⟨2,⟨#[]⟩⟩:=by simp
   generalize List.replicate q (⟨3,c.name⟩:GType)=R at *
   generalize List.replicate q (⟨2,⟨#[]⟩⟩:GType)=I at *
   show K fns _ f8_l0 _ k=_
   rw [u8_l0]
   simp [f8_b0,hi,hw,g1,g2,g3,g4])
 refine h1.trans ?_
 show K fns _ f8_l0 _ k=_
 rw [u8_l0]
 simp [f8_b0]
theorem slaw_l1 (S:List Ob) (hS:S.all (Ob.closed S.length)=true) (Q:List GSlot) (hQ:Q.length≤100000) (k:AExit→St→Option (V × List Ob)) :
  K fns ⟨0,0⟩ f8_l1 ⟨[(8,vsl (Q.map (·.type_))),(15,vsl Q),(17,vint (0:Nat))],S⟩ k=k (.exit 2) ⟨[],S⟩:=by
 have h1:=scan_on (n:=Q.length) (X:=fun i=>K fns ⟨0,0⟩ f8_l1 ⟨[(8,vsl (Q.map (·.type_))),(15,vsl Q),(17,vint i)],S⟩ k)
  (fun i hi=>by
   have hw:=wrap_succ (i:=i) (by omega)
   have g1:i < (Q.map (·.type_)).length:=by simpa using hi
   have g2:(Q.map (·.type_))[i]'g1=Q[i].type_:=by simp
   generalize Q.map (·.type_)=T at *
   generalize hu:Q[i]=u at g2
   show K fns _ f8_l1 _ k=_
   rw [u8_l1]
   simp [f8_b1,hi,hw,hu,g1,g2,hS,-List.all_eq_true])
 refine h1.trans ?_
 show K fns _ f8_l1 _ k=_
 rw [u8_l1]
 simp [f8_b1,hS,-List.all_eq_true]
set_option maxRecDepth 8000 in
set_option maxHeartbeats 1600000 in
theorem fn_lazSlots (p:GProgram) (a n:Int) (σ:List Ob) (lo tr:Nat):Fn fns 8 [vProgram p,vint a,vint n] σ lo tr=some (vbool true,σ):=by
 refine fn_gen t8 rfl (σ1:=[]) rfl rfl ?_ σ lo tr
 cases hv:heavy p
 case true=>simp [KF,params,f8,fn_heavy,hv]
 have hp:=okP hv
 have hly:=fn_refLayout p hp
 rw [← lay_eq hp] at hly
 by_cases hE:layE p=0
 case neg=>simp [KF,params,f8,fn_heavy,hv,hly,hE]
 have hP:=layE_hier hE
 rw [hE] at hly
 by_cases h0:p.classes.length=0
 case pos =>
  have h0i:((p.classes.length:Nat):Int)=0:=by omega
  simp [KF,params,f8,fn_heavy,hv,hly,h0i]
 have hL:=hp.len
 obtain ⟨q,hq1,hq2⟩:=mod4 n
 obtain ⟨w1,kx,kx1,kx2⟩:=pick_ix a (m:=p.classes.length) (by omega) (by omega)
 have hne:¬ ((p.classes.length:Nat):Int)=0:=by omega
 have hne2:¬ p.classes=[]:=fun h=>by rw [h] at h0;simp at h0
 obtain ⟨o1,o2,o3⟩:=own_name hp hP kx1
 have hin:ownB p p.classes[kx].name=true:=by
  unfold ownB;exact decide_eq_true (List.mem_map.mpr ⟨_,List.getElem_mem kx1,rfl⟩)
 obtain ⟨c,gx⟩:∃ x,p.classes[kx]=x:=⟨_,rfl⟩
 simp only [gx] at o1 o2 o3 hin
 have hsome:(findC (allL p) c.name).isSome=true:=by rw [← names_some];exact decide_eq_true o1
 have hcb:clsB p c.name = !c.iface:=by unfold clsB;rw [decide_eq_true o1,o2];rfl
 have h1:=fn_lazySlots p hp ⟨3,0,⟨3,c.name⟩⟩
 have h2:=fn_lazySlots p hp ⟨4,q,⟨5,c.name⟩⟩
 have h3:=fn_lazySlots p hp ⟨4,q,⟨4,⟨#[]⟩⟩⟩
 have ok1:wayOk p ⟨3,0,⟨3,c.name⟩⟩ = !c.iface:=by unfold wayOk;rw [hin,hcb];simp
 have q0:(0:Int)≤q:=by omega
 have q3:(q:Int)≤3:=by omega
 have ok2:wayOk p ⟨4,q,⟨5,c.name⟩⟩=true:=by unfold wayOk namedT;simp [hsome,q0,q3]
 have ok3:wayOk p ⟨4,q,⟨4,⟨#[]⟩⟩⟩=true:=by unfold wayOk namedT;simp [q0,q3]
 have x1:slotWX p ⟨3,0,⟨3,c.name⟩⟩=if c.iface then 1 else 0:=by unfold slotWX;rw [if_pos hE,ok1];cases c.iface<;>rfl
 have x2:slotWX p ⟨4,q,⟨5,c.name⟩⟩=0:=by unfold slotWX;rw [if_pos hE,ok2];rfl
 have x3:slotWX p ⟨4,q,⟨4,⟨#[]⟩⟩⟩=0:=by unfold slotWX;rw [if_pos hE,ok3];rfl
 have y2:slotWP p ⟨4,q,⟨5,c.name⟩⟩=List.replicate q ⟨3,c.name⟩:=by unfold slotWP;rw [x2,if_pos rfl];unfold slotW;rw [if_neg (by show ¬ (4:Int)=3;decide)];rfl
 have y3:slotWP p ⟨4,q,⟨4,⟨#[]⟩⟩⟩=List.replicate q ⟨2,⟨#[]⟩⟩:=by unfold slotWP;rw [x3,if_pos rfl];unfold slotW;rw [if_neg (by show ¬ (4:Int)=3;decide)];rfl
 rw [x2,y2] at h2
 rw [x3,y3] at h3
 have l2:(List.replicate q (⟨3,c.name⟩:GType)).length=q:=List.length_replicate
 have l3:(List.replicate q (⟨2,⟨#[]⟩⟩:GType)).length=q:=List.length_replicate
 have L0:=fun S8 e k=>slaw_l0 p c q (by omega) S8 e k
 simp only [Int.natCast_zero] at L0
 generalize List.replicate q (⟨3,c.name⟩:GType)=R at *
 generalize List.replicate q (⟨2,⟨#[]⟩⟩:GType)=I at *
 cases hi:c.iface with
 | true =>
  rw [hi,if_pos rfl] at x1
  have y1:slotWP p ⟨3,0,⟨3,c.name⟩⟩=[]:=by unfold slotWP;rw [x1,if_neg (by decide)]
  rw [x1,y1] at h1
  have L0:=fun k=>L0 [] 1 k
  simp only [vsl,rs_nil,cC,hi] at h1 L0
  simp [KF,params,f8,rs_nil,fn_heavy,hv,hly,h0,hne,hne2,w1,kx1,kx2,gx,hi,hq2,h1,h2,h3,l2,l3,L0,fn_wakesL]
 | false =>
  rw [hi] at x1 hcb
  simp only [Bool.false_eq_true,if_false] at x1
  have hcb:clsB p c.name=true:=hcb
  have y1:slotWP p ⟨3,0,⟨3,c.name⟩⟩=(slotsO (allL p) c.name).map (·.type_):=by unfold slotWP;rw [x1,if_pos rfl];unfold slotW;rw [if_pos rfl]
  rw [x1,y1] at h1
  have h4:=fn_laySlots p hp c.name
  have z1:slotsP p c.name=slotsO (allL p) c.name:=by unfold slotsP;rw [if_pos ⟨hE,hcb⟩]
  have z2:slotsX p c.name=0:=by unfold slotsX;rw [if_pos hE,if_pos hcb]
  rw [z1,z2] at h4
  have hlen:=slots_len hp hP hcb
  have L1:=fun k=>slaw_l1 [cP p,cC c] (by simp [Ob.closed,C.closed,B.closed]) (slotsO (allL p) c.name) hlen k
  simp only [Int.natCast_zero] at L1
  have hml:((slotsO (allL p) c.name).map (·.type_)).length=(slotsO (allL p) c.name).length:=List.length_map ..
  have L0:=fun k=>L0 ((slotsO (allL p) c.name).map (·.type_)) 0 k
  generalize slotsO (allL p) c.name=Q at *
  generalize Q.map (·.type_)=T at *
  simp only [cC,hi] at L0 L1
  simp [KF,params,f8,fn_heavy,hv,hly,h0,hne,hne2,w1,kx1,kx2,gx,hi,hq2,h1,h2,h3,h4,l2,l3,hml,L0,L1,fn_wakesL]
end
end Go.Proofs.YteeofkbhopioiaaGreatDoor.Am
