/- Lemmas that the rows' proofs rest on; each states its own conditions. -/
import Derived.Test.YtahmcphboodogaaGreatDoorLayMB
namespace Go.Proofs.YtahmcphboodogaaGreatDoor.Am
set_option linter.unusedSimpArgs false
set_option linter.unusedVariables false
set_option linter.unusedSectionVars false
open Go
section
attribute [local simp ↓] K_seq JdI JcH JbK JdG JdH K_ret JdF JdJ JcJ JcI JbR
attribute [local simp] JcG JcF JcD JcB JcC Jaa St.rd St.raw St.set St.took JbG V.down C.down Env.keep binV unV arith Jb0 strs intOf JbO Jbh JcP andK endOf frzV frz1 frzC frzCs frz1s resOf Jb3 JcN V.closed V.closed1 C.closed B.closed Ob.closed V.cells JaO rep chunk datas C.data JbS Jai Jcm JbD JbE JaC C.plain JbJ JcA Jcx Jcw Jcv Jcy Jcz Jcr Jcs Jcu Jct Jc8 Jch Jdx Jcg Jcj Jdy Jci Jck Jbp Jbz JbA vagg Jb8 Jbs Jb7 k_Int JdB k_Str JbC Jbc JbB Jbq Jdz Jba JbH JaX Ja4 Jco JaU Jbf JaK Ja3 Jcn JaT Jbe JaJ Ja5 Jcq JaW Jbg JaL JaQ JbF JaI Ja0 Jcp JaV JaE Jbd JaA Jbr JdA Jbb JbI JaY
section
variable {p:GProgram} (hp:OkP p) (hE:layE p=0)
include hp hE
theorem call_face {k:Nat} (hk:k < p.classes.length) (hi:p.classes[k].iface=true) {m:GMethod} (hm:m ∈ p.classes[k].methods):callP p p.classes[k].name m.name=some m:=by
 have hP:=JaF hE
 obtain ⟨o1,o2,_⟩:=own_name hp hP hk
 unfold callP
 rw [if_pos hE]
 unfold callE
 rw [if_pos o1]
 unfold rawC
 rw [o2,hi,if_pos rfl,look_eq hp hP o1,o2,dup_first hE (List.getElem_mem hk) hm]
 have:=face_static hp hE (List.mem_append_right _ (List.getElem_mem hk)) hi hm
 simp [this]
theorem kinds_cls {a s:ByteArray} (h:s ∈ kindsP p a):clsB p s=true∧Jb5 p s a=true∧∃ x ∈ p.classes,x.name=s∧x.iface=false:=by
 have hP:=JaF hE
 unfold kindsP at h
 rw [if_pos hP] at h
 obtain ⟨h1,h2⟩:=List.mem_filter.mp h
 simp only [Bool.and_eq_true] at h2
 have e:(Jab (allL p)).drop 8=p.classes.map (·.name):=rfl
 rw [e] at h1
 obtain ⟨x,hx,rfl⟩:=List.mem_map.mp h1
 have hin:x ∈ allL p:=List.mem_append_right _ hx
 have hcl:=Jd2 hp hP hin
 have hi:x.iface=false:=by
  have:=h2.1
  unfold plainP at this
  have h3:((findC (allL p) x.name).getD noC)=x:=hcl
  rw [h3] at this
  simpa using this
 exact ⟨Ja6.mpr ⟨List.mem_map.mpr ⟨x,hin,rfl⟩,by rw [hcl,hi]⟩,h2.2,x,hx,rfl,hi⟩
theorem face_kept {k:Nat} (hk:k < p.classes.length) (hi:p.classes[k].iface=true) {m:GMethod} (hm:m ∈ p.classes[k].methods) {s:ByteArray} (hs:s ∈ kindsP p p.classes[k].name) :
  ∃ r,metT p s m.name=some r∧callP p s m.name=some r.2∧r.1≠⟨#[]⟩∧r.2.static_=false∧r.2.abstract_=false∧r.2.params=m.params∧r.2.ret=m.ret∧OkM r.2:=by
 have hP:=JaF hE
 obtain ⟨hc,hu,x,hx,rfl,hxi⟩:=kinds_cls hp hE hs
 have hn:=(Ja6.mp hc).1
 have hsn:=JbN hp hP
 have hr:p.classes[k].name ∈ Ja8 (allL p) x.name:=by
  rw [JcO hsn.len (Jce hp) hsn.whole hn]
  rcases (under_iff hp hP hn _).mp hu with h | h
  ·exact absurd h (class_at hP hk).2
  ·exact h
 obtain ⟨r,r1,r2,r3⟩:=keep_faces hp hE hx hxi (List.mem_append_right _ (List.getElem_mem hk)) hi hr hm
 obtain ⟨q1,q2,q3⟩:=met_from hp hP hn r1
 have hic:isCls p x.name:=(Ja6.mp hc).2
 have hrn:=JcZ hp hP hn _ q1
 obtain ⟨c,f1,f2,f3⟩:=JaN hrn
 have hcl:clsN (allL p) r.1=c:=by rw [clsN,f1];rfl
 have hab:=not_abstract hE f2 (by rw [← hcl];exact q2)
 have hrc:c.iface=false:=by have:=(row_rch hp hP hn hic _ q1).2;unfold isCls at this;rw [hcl] at this;exact this
 unfold likeB at r3
 simp only [Bool.and_eq_true,decide_eq_true_eq] at r3
 refine ⟨r,?_,?_,JaZ hP hrn,r2,by rw [hab,hrc],r3.1,r3.2,(cls_ok hp r.1).ms _ q2⟩
 ·unfold metT;rw [if_pos ⟨hE,hc⟩];exact r1
 ·unfold callP callE rawC
  rw [if_pos hE,if_pos hn,(Ja6.mp hc).2,r1]
  simp [r2]
end
set_option maxRecDepth 4000 in
theorem faces_loop {p:GProgram} (hp:OkP p) (hE:layE p=0) {kx:Nat} (hk:kx < p.classes.length) (hi:p.classes[kx].iface=true) {m:GMethod} (hm:m ∈ p.classes[kx].methods) (hmo:OkM m) (c:GClass) (k:AExit→St→Option (V × List Ob)) :
  K fns ⟨0,0⟩ f8_l0 ⟨[(3,vptr 0),(8,vptr 2),(11,vsl (kindsP p p.classes[kx].name)),(12,vint (0:Nat))],[cP p,cC c,cM m,cM m]⟩ k=k (.exit 0) ⟨[],[cP p,cC c,cM m,cM m]⟩:=by
 have hlen:(kindsP p p.classes[kx].name).length≤100:=by
  unfold kindsP
  split
  ·have:=List.length_filter_le (fun s=>plainP p s && Jb5 p s p.classes[kx].name) ((Jab (allL p)).drop 8)
   have hL:=Ja7 hp
   have h2:((Jab (allL p)).drop 8).length≤100:=by rw [List.length_drop,Jab,List.length_map];omega
   exact Nat.le_trans this h2
  ·simp
 have hkept:=fun s hs=>face_kept hp hE hk hi hm (s:=s) hs
 generalize kindsP p p.classes[kx].name=L at *
 have h1:=scan_on (n:=L.length) (X:=fun i=>K fns ⟨0,0⟩ f8_l0 ⟨[(3,vptr 0),(8,vptr 2),(11,vsl L),(12,vint i)],[cP p,cC c,cM m,cM m]⟩ k)
  (fun i hj=>by
   have hw:=Jac (i:=i) (by omega)
   obtain ⟨r,r1,r2,r3,r4,r5,r6,r7,r8⟩:=hkept L[i] (List.getElem_mem hj)
   have h3:=Jbv p hp L[i] m.name
   have h4:=fn_layCall p hp L[i] m.name
   have h5:=Jdi _ r8
   have h6:=fn_typesR m.params (by have:=hmo.params;omega)
   rw [r1] at h3
   rw [r2] at h4
   simp only [Option.elim,Option.isSome_some,Option.getD_some] at h3 h4
   obtain ⟨w,x⟩:=r
   obtain ⟨a1,a2,a3,a4,a5,a6,a7,a8⟩:=x
   simp only at r3 r4 r5 r6 r7
   subst r4 r5 r6 r7
   show K fns _ f8_l0 _ k=_
   rw [u8_l0]
   simp [f8_b0,hj,hw,h3,h4,h5,h6,r3])
 refine h1.trans ?_
 show K fns _ f8_l0 _ k=_
 rw [u8_l0]
 simp [f8_b0]
set_option maxRecDepth 4000 in
theorem fn_facesLaw (p:GProgram) (a b:Int) (σ:List Ob) (lo tr:Nat):Fn fns 8 [Jar p,vint a,vint b] σ lo tr=some (vbool true,σ):=by
 refine Jah t8 rfl (σ1:=[]) rfl rfl ?_ σ lo tr
 cases hv:heavy p
 case true=>simp [KF,params,f8,JaB,hv]
 have hp:=okP hv
 have hly:=Jdt p hp
 rw [← lay_eq hp] at hly
 by_cases hE:layE p=0
 case neg=>simp [KF,params,f8,JaB,hv,hly,hE]
 have hP:=JaF hE
 rw [hE] at hly
 by_cases h0:p.classes.length=0
 case pos =>
  have h0i:((p.classes.length:Nat):Int)=0:=by omega
  simp [KF,params,f8,JaB,hv,hly,h0i]
 have hL:=hp.len
 obtain ⟨w1,kx,kx1,kx2⟩:=pick_ix a (m:=p.classes.length) (by omega) (by omega)
 have hne:¬ ((p.classes.length:Nat):Int)=0:=by omega
 have hne2:¬ p.classes=[]:=fun h=>by rw [h] at h0;simp at h0
 have hok:=hp.cs _ (List.getElem_mem kx1)
 cases hi:p.classes[kx].iface with
 | false =>
  obtain ⟨x,gx⟩:∃ x,p.classes[kx]=x:=⟨_,rfl⟩
  rw [gx] at hi
  simp [KF,params,f8,JaB,hv,hly,hne,hne2,h0,w1,kx1,kx2,gx,hi,Ja1]
 | true =>
  by_cases m0:p.classes[kx].methods.length=0
  ·obtain ⟨x,gx⟩:∃ x,p.classes[kx]=x:=⟨_,rfl⟩
   rw [gx] at hi m0
   have m0':x.methods=[]:=List.length_eq_zero_iff.mp m0
   simp [KF,params,f8,Jao,JaB,hv,hly,hne,hne2,h0,w1,kx1,kx2,gx,hi,m0,m0',Ja1]
  ·have hml:=hok.methods
   obtain ⟨w2,ky,ky1,ky2⟩:=pick_ix b (m:=p.classes[kx].methods.length) (by omega) (by omega)
   have hmm:=List.getElem_mem ky1
   have hmo:=hok.ms _ hmm
   have hcf:=call_face hp hE kx1 hi hmm
   have h1:=fn_layCall p hp p.classes[kx].name (p.classes[kx].methods[ky]).name
   rw [hcf] at h1
   have h2:=fn_kinds p hp p.classes[kx].name
   have h3:=fn_typesR (p.classes[kx].methods[ky]).params (by have:=hmo.params;omega)
   have L:=fun k=>faces_loop hp hE kx1 hi hmm hmo p.classes[kx] k
   simp only [Int.natCast_zero] at L
   generalize kindsP p p.classes[kx].name=K at *
   obtain ⟨x,gx⟩:∃ x,p.classes[kx]=x:=⟨_,rfl⟩
   have ky1':ky < x.methods.length:=by rw [← gx];exact ky1
   simp only [gx] at hi m0 w2 ky2 hcf h1 h2 h3 L hmo
   obtain ⟨m,gm⟩:∃ m,x.methods[ky]=m:=⟨_,rfl⟩
   simp only [gm] at hcf h1 h3 L hmo
   simp only [Option.getD_some,Option.isSome_some] at h1
   simp only [cC,hi] at L
   have hne3:¬ ((x.methods.length:Nat):Int)=0:=by omega
   have hne4:¬ x.methods=[]:=fun h=>by rw [h] at m0;simp at m0
   simp [KF,params,f8,JaB,hv,hly,hne,hne2,h0,w1,kx1,kx2,gx,hi,m0,hne3,hne4,w2,ky1',ky2,gm,h1,h2,h3,L,Ja1]
end
end Go.Proofs.YtahmcphboodogaaGreatDoor.Am
