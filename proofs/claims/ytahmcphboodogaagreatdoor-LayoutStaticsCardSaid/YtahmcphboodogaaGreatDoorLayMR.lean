/- Lemmas that the rows' proofs rest on; each states its own conditions. -/
import Derived.Test.YtahmcphboodogaaGreatDoorLayMB
namespace Go.Proofs.YtahmcphboodogaaGreatDoor.Am
set_option linter.unusedSimpArgs false
set_option linter.unusedVariables false
set_option linter.unusedSectionVars false
open Go
section
attribute [local simp ↓] K_seq JdI JcH JbK JdG JdH K_ret JdF JdJ JcJ JcI JbR
attribute [local simp] JcG JcF JcD JcB JcC Jaa St.rd St.raw St.set St.took JbG V.down C.down Env.keep binV unV arith Jb0 strs intOf JbO Jbh JcP andK endOf frzV frz1 frzC frzCs frz1s resOf Jb3 JcN V.closed V.closed1 C.closed B.closed Ob.closed V.cells JaO rep chunk datas C.data JbS Jai Jcm JbD JbE JaC C.plain JbJ JcA Jcx Jcw Jcv Jcy Jcz Jcr Jcs Jcu Jct Jc8 Jch Jdx Jcg Jcj Jdy Jci Jck Jbp Jbz JbA vagg Jb8 Jbs Jb7 k_Int JdB k_Str JbC Jbc JbB Jbq Jdz Jba JbH JaX Ja4 Jco JaU Jbf JaK Ja3 Jcn JaT Jbe JaJ Ja5 Jcq JaW Jbg JaL JaQ JbF JaI Ja0 Jcp JaV JaE Jbd JaA Jbr JdA Jbb JbI JaY
section
variable {p:GProgram} {S0:List GSlot} {e0:Int}
def stG (n:ByteArray) (l:List GField):List GSlot:=(l.filter fun f=>f.static_).map fun f=>⟨n,f.name,f.type_⟩
def nonS (l:List GField):Nat:=(l.filter fun f=>!f.static_).length
theorem st_in (i:Nat) (x:GClass) (hx:OkC x) (k:AExit→St→Option (V × List Ob)):∀ (n j:Nat) (acc:List GSlot) (c:Nat),j+n=x.fields.length→acc.length+n≤100000→c+n≤1000 →
  K fns ⟨0,0⟩ f5_l0 ⟨[(1,vptr 0),(3,vsl S0),(4,vint e0),(5,.c (.osl 4 (rows acc))),(6,vint i),(7,vptr 1),(8,vint c),(9,vint j)],[cP p,cC x]⟩ k =
   k (.exit 2) ⟨[(1,vptr 0),(3,vsl S0),(4,vint e0),(5,.c (.osl 4 (rows (acc ++ stG x.name (x.fields.drop j))))),(6,vint i),(7,vptr 1),(8,vint (c+nonS (x.fields.drop j):Nat))],[cP p,cC x]⟩:=by
 intro n
 have hf:=hx.fields
 induction n with
 | zero =>
  intro j acc c hj hacc hc
  have hj':j=x.fields.length:=by omega
  subst hj'
  rw [u5_l0]
  simp [f5_b0,stG,nonS]
 | succ n ih =>
  intro j acc c hj hacc hc
  have hlt:j < x.fields.length:=by omega
  have hw:=Jac (i:=j) (by omega)
  have hwc:=Jac (i:=c) (by omega)
  have hdr:x.fields.drop j=x.fields[j] :: x.fields.drop (j+1):=List.drop_eq_getElem_cons hlt
  rw [hdr]
  generalize hy:x.fields[j]=f
  have q1:acc.length+1≤70368744177664:=by omega
  have q2:(acc.length+1) * 56≤70368744177664:=by omega
  cases hs:f.static_
  ·have e:stG x.name (f :: x.fields.drop (j+1))=stG x.name (x.fields.drop (j+1)):=by simp [stG,hs]
   have e2:c+nonS (f :: x.fields.drop (j+1))=(c+1)+nonS (x.fields.drop (j+1)):=by simp [nonS,hs];omega
   have:=ih (j+1) acc (c+1) (by omega) (by omega) (by omega)
   rw [e,e2,← this,u5_l0]
   simp [f5_b0,hlt,hy,hs,hw,hwc]
  ·have e:stG x.name (f :: x.fields.drop (j+1))=⟨x.name,f.name,f.type_⟩ :: stG x.name (x.fields.drop (j+1)):=by simp [stG,hs]
   have e2:nonS (f :: x.fields.drop (j+1))=nonS (x.fields.drop (j+1)):=by simp [nonS,hs]
   have:=ih (j+1) (acc ++ [⟨x.name,f.name,f.type_⟩]) c (by omega) (by simp;omega) (by omega)
   rw [List.append_assoc,List.singleton_append] at this
   rw [e,e2,← this,u5_l0]
   simp [f5_b0,hlt,hy,hs,hw,q1,q2]
def ownS (s:ByteArray) (l:List GSlot):Nat:=(l.filter fun x=>decide (x.owner=s)).length
theorem own_cons (s:ByteArray) (a:GSlot) (l:List GSlot):ownS s (a :: l)=if a.owner=s then ownS s l+1 else ownS s l:=by
 unfold ownS
 by_cases h:a.owner=s<;>simp [h]
theorem st_count (i:Nat) (x:GClass) (acc:List GSlot) (L:List GSlot) (hL:L.length≤100000) (k:AExit→St→Option (V × List Ob)):∀ (n j:Nat),j+n=L.length →
  K fns ⟨0,0⟩ f5_l1 ⟨[(1,vptr 0),(3,vsl S0),(4,vint e0),(5,.c (.osl 4 (rows acc))),(6,vint i),(7,vptr 1),(8,vint (ownS x.name (L.drop j))),(10,vsl L),(12,vint j)],[cP p,cC x]⟩ k =
   k (.exit 4) ⟨[(1,vptr 0),(3,vsl S0),(4,vint e0),(5,.c (.osl 4 (rows acc))),(6,vint i),(8,vint 0)],[cP p,cC x]⟩:=by
 intro n
 induction n with
 | zero =>
  intro j hj
  have hj':j=L.length:=by omega
  subst hj'
  rw [u5_l1]
  simp [f5_b1,ownS]
 | succ n ih =>
  intro j hj
  have hlt:j < L.length:=by omega
  have hw:=Jac (i:=j) (by omega)
  have hdr:L.drop j=L[j] :: L.drop (j+1):=List.drop_eq_getElem_cons hlt
  rw [hdr]
  have hle:ownS x.name (L.drop (j+1))≤100000:=by
   unfold ownS
   have:=List.length_filter_le (fun z:GSlot=>decide (z.owner=x.name)) (L.drop (j+1))
   rw [List.length_drop] at this
   omega
  have:=ih (j+1) (by omega)
  by_cases ho:L[j].owner=x.name
  ·have e:ownS x.name (L[j] :: L.drop (j+1))=ownS x.name (L.drop (j+1))+1:=by rw [own_cons,if_pos ho]
   rw [e,← this,u5_l1]
   generalize ownS x.name (L.drop (j+1))=q at *
   have hwq:IntKind.i64.wrap (q:Int)=q:=JcQ (by omega) (by omega)
   simp [f5_b1,hlt,hw,ho,hwq]
  ·have e:ownS x.name (L[j] :: L.drop (j+1))=ownS x.name (L.drop (j+1)):=by rw [own_cons,if_neg ho]
   rw [e,← this,u5_l1]
   simp [f5_b1,hlt,hw,ho]
theorem st_out (hp:OkP p) (hE:layE p=0) (k:AExit→St→Option (V × List Ob)):∀ (n i:Nat) (acc:List GSlot),i+n=p.classes.length→acc.length+14 * n≤50000 →
  K fns ⟨0,0⟩ f5_l2 ⟨[(1,vptr 0),(3,vsl S0),(4,vint e0),(5,.c (.osl 4 (rows acc))),(6,vint i)],[cP p]⟩ k=k (.exit 0) ⟨[(3,vsl S0),(4,vint e0),(5,.c (.osl 4 (rows (acc ++ (p.classes.drop i).flatMap stC))))],[cP p]⟩:=by
 have hpl:=hp.len
 have hP:=JaF hE
 intro n
 induction n with
 | zero =>
  intro i acc hi _
  have hi':i=p.classes.length:=by omega
  subst hi'
  rw [u5_l2]
  simp [f5_b2]
 | succ n ih =>
  intro i acc hi hacc
  have hlt:i < p.classes.length:=by omega
  have hw:=Jac (i:=i) (by omega)
  have hdr:p.classes.drop i=p.classes[i] :: p.classes.drop (i+1):=List.drop_eq_getElem_cons hlt
  have hok:=hp.cs _ (List.getElem_mem hlt)
  obtain ⟨o1,o2,_⟩:=own_name hp hP hlt
  rw [hdr]
  generalize hy:p.classes[i]=x at hok o1 o2
  have hin:=fun k=>st_in (p:=p) (S0:=S0) (e0:=e0) i x hok k x.fields.length 0 acc 0 (by omega) (by have:=hok.fields;omega) (by have:=hok.fields;omega)
  simp only [List.drop_zero,Int.natCast_zero,Nat.zero_add] at hin
  have hsl:(stG x.name x.fields).length≤14:=by
   have:=List.length_filter_le (fun f:GField=>f.static_) x.fields
   have:=hok.fields
   simp only [stG,List.length_map];omega
  have:=ih (i+1) (acc ++ stG x.name x.fields) (by omega) (by simp;omega)
  have e:stG x.name x.fields=stC x:=rfl
  have hlay:=JdO p hp x.name
  rw [List.flatMap_cons,← e,← List.append_assoc,← this,u5_l2]
  cases hi:x.iface with
  | true =>
   simp only [cC,hi] at hin
   simp [f5_b2,hlt,hy,hin,hw,hi]
  | false =>
   have hcb:clsB p x.name=true:=Ja6.mpr ⟨o1,by rw [o2,hi]⟩
   have e1:Jc7 p x.name=JaD (allL p) x.name:=by unfold Jc7;rw [if_pos ⟨hE,hcb⟩]
   have e2:Jc6 p x.name=0:=by unfold Jc6;rw [if_pos hE,if_pos hcb]
   rw [e1,e2] at hlay
   have hic:isCls p x.name:=by unfold isCls;rw [o2,hi]
   have hcnt:ownS x.name (JaD (allL p) x.name)=nonS x.fields:=by
    have:=own_count hp hP o1 hic
    unfold slN at this
    rw [o2,List.length_map] at this
    exact this
   have hle:nonS x.fields≤(JaD (allL p) x.name).length:=by rw [← hcnt];exact List.length_filter_le _ _
   have hc:=fun k=>st_count (p:=p) (S0:=S0) (e0:=e0) i x (acc ++ stG x.name x.fields) (JaD (allL p) x.name) (slots_len hp hP hcb) k _ 0 (Nat.zero_add _)
   rw [List.drop_zero,hcnt] at hc
   generalize JaD (allL p) x.name=Q at *
   generalize nonS x.fields=m at *
   have hlt2:¬ ((Q.length:Nat):Int) < m:=by omega
   simp only [cC,hi,Int.natCast_zero] at hin hc
   simp [f5_b2,hlt,hy,hin,hw,hi,hlay,hlt2,hc,-List.append_assoc]
end
set_option maxRecDepth 4000 in
theorem fn_staticsLaw (p:GProgram) (σ:List Ob) (lo tr:Nat):Fn fns 5 [Jar p] σ lo tr=some (vbool true,σ):=by
 refine Jah t5 rfl (σ1:=[]) rfl rfl ?_ σ lo tr
 cases hv:heavy p
 case true=>simp [KF,params,f5,JaB,hv]
 have hp:=okP hv
 have hly:=Jdt p hp
 rw [← lay_eq hp] at hly
 by_cases hE:layE p=0
 case neg=>simp [KF,params,f5,JaB,hv,hly,hE]
 rw [hE] at hly
 have hst:=fn_layStatics p hp
 have e1:statP p=stL p:=by unfold statP;rw [if_pos hE]
 rw [e1,hE] at hst
 have L:=fun k=>st_out (S0:=stL p) (e0:=0) hp hE k _ 0 [] (Nat.zero_add _) (by have:=hp.len;simp only [List.length_nil];omega)
 rw [List.drop_zero,List.nil_append,Jao] at L
 simp only [Int.natCast_zero] at L
 have e2:p.classes.flatMap stC=stL p:=rfl
 rw [e2] at L
 have hl:=st_len hp
 have heq:=fn_slotsEq (stL p) (stL p) (by omega) (by omega)
 simp only [decide_true] at heq
 generalize stL p=s at *
 simp [KF,params,f5,JaB,hv,hly,hst,L,heq,Ja1]
end
end Go.Proofs.YtahmcphboodogaaGreatDoor.Am
