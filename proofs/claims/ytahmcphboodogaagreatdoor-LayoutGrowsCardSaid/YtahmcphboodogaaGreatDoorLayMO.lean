/- Lemmas that the rows' proofs rest on; each states its own conditions. -/
import Derived.Test.YtahmcphboodogaaGreatDoorLayMB
namespace Go.Proofs.YtahmcphboodogaaGreatDoor.Am
set_option linter.unusedSimpArgs false
set_option linter.unusedVariables false
set_option linter.unusedSectionVars false
open Go
section
attribute [local simp ↓] K_seq JdI JcH JbK JdG JdH K_ret JdF JdJ JcJ JcI JbR
attribute [local simp] JcG JcF JcD JcB JcC Jaa St.rd St.raw St.set St.took JbG V.down C.down Env.keep binV unV arith Jb0 strs intOf JbO Jbh JcP andK endOf frzV frz1 frzC frzCs frz1s resOf Jb3 JcN V.closed V.closed1 C.closed B.closed Ob.closed V.cells JaO rep chunk datas C.data JbS Jai Jcm JbD JbE JaC C.plain JbJ JcA Jcx Jcw Jcv Jcy Jcz Jcr Jcs Jcu Jct Jc8 Jch Jdx Jcg Jcj Jdy Jci Jck Jbp Jbz JbA vagg Jb8 Jbs Jb7 k_Int JdB k_Str JbC Jbc JbB Jbq Jdz Jba JbH JaX Ja4 Jco JaU Jbf JaK Ja3 Jcn JaT Jbe JaJ Ja5 Jcq JaW Jbg JaL JaQ JbF JaI Ja0 Jcp JaV JaE Jbd JaA Jbr JdA Jbb JbI JaY
section
variable {p:GProgram} {c:GClass} {x y:List GSlot}
theorem grows_in (hx:x.length≤100000) (hn:∀ i k (hi:i < x.length) (hk:k < i),x[i].name≠(x[k]'(by omega)).name) (i:Nat) (hi:i < x.length) (k:AExit→St→Option (V × List Ob)) :
  K fns ⟨0,0⟩ f9_l0 ⟨[(2,vptr 0),(6,vptr 1),(7,vsl x),(11,vsl y),(13,vint i),(14,vint (0:Nat))],[cP p,cC c]⟩ k=k (.exit 2) ⟨[(2,vptr 0),(6,vptr 1),(7,vsl x),(11,vsl y),(13,vint i)],[cP p,cC c]⟩:=by
 have h1:=scan_on (n:=i) (X:=fun j=>K fns ⟨0,0⟩ f9_l0 ⟨[(2,vptr 0),(6,vptr 1),(7,vsl x),(11,vsl y),(13,vint i),(14,vint j)],[cP p,cC c]⟩ k)
  (fun j hj=>by
   have hw:=Jac (i:=j) (by omega)
   have hd:=hn i j hi hj
   have hjx:j < x.length:=by omega
   have hij:(j:Int) < i:=by omega
   show K fns _ f9_l0 _ k=_
   rw [u9_l0]
   generalize hq:x[i].name=a at hd
   generalize hr:x[j].name=b at hd
   simp [f9_b0,hj,hij,hi,hjx,hw,hq,hr,hd])
 refine h1.trans ?_
 show K fns _ f9_l0 _ k=_
 rw [u9_l0]
 simp [f9_b0]
theorem grows_out (hp:OkP p) (hx:x.length≤100000) (hn:∀ i k (hi:i < x.length) (hk:k < i),x[i].name≠(x[k]'(by omega)).name) (hu:∀ i (hi:i < x.length),Jb5 p c.name x[i].owner=true) (ho:∀ i (hi:i < x.length),y.length≤i→x[i].owner=c.name) (k:AExit→St→Option (V × List Ob)) :
  K fns ⟨0,0⟩ f9_l1 ⟨[(2,vptr 0),(6,vptr 1),(7,vsl x),(11,vsl y),(13,vint (0:Nat))],[cP p,cC c]⟩ k=k (.exit 0) ⟨[],[cP p,cC c]⟩:=by
 have h1:=scan_on (n:=x.length) (X:=fun i=>K fns ⟨0,0⟩ f9_l1 ⟨[(2,vptr 0),(6,vptr 1),(7,vsl x),(11,vsl y),(13,vint i)],[cP p,cC c]⟩ k)
  (fun i hi=>by
   have hw:=Jac (i:=i) (by omega)
   have hin:=fun k=>grows_in (p:=p) (c:=c) (y:=y) hx hn i hi k
   have hun:=fn_under p hp c.name x[i].owner
   rw [hu i hi] at hun
   have ho:=ho i hi
   simp only [Int.natCast_zero] at hin
   show K fns _ f9_l1 _ k=_
   rw [u9_l1]
   by_cases hy:y.length≤i
   ·have hy':(y.length:Int)≤i:=by omega
    have ho:=ho hy
    rw [ho] at hun
    simp [f9_b1,hi,hw,hy,hy',ho,hun,hin]
   ·have hy':¬ (y.length:Int)≤i:=by omega
    simp [f9_b1,hi,hw,hy,hy',hun,hin])
 refine h1.trans ?_
 show K fns _ f9_l1 _ k=_
 rw [u9_l1]
 simp [f9_b1]
end
theorem sup_none {p:GProgram} (hp:OkP p) (hP:hierP p=0) {c:GClass} (hc:c ∈ allL p) (hi:c.iface=false) (e:supN (allL p) c.name=⟨#[]⟩):JaD (allL p) c.name=[]:=by
 have hs:c.name ∈ Jab (allL p):=List.mem_map.mpr ⟨_,hc,rfl⟩
 have hcl:=Jd2 hp hP hc
 rw [slots_grow hp hP hs,e]
 rw [JdK hs,hcl] at e
 have hn:c.name=Jax:=by
  unfold Jan at e
  split at e
  ·rename_i h
   rcases h with h | h
   ·rw [hi] at h;cases h
   ·exact h
  ·split at e
   ·exact absurd e (by decide)
   ·rename_i h;exact absurd e h
 have ho:cls Jax ⟨#[]⟩ ∈ allL p:=List.mem_append_left _ (by simp [baseL])
 have:=Jd2 hp hP ho
 unfold slN
 rw [hn]
 have h2:clsN (allL p) Jax=cls Jax ⟨#[]⟩:=this
 rw [h2]
 rfl
set_option maxRecDepth 4000 in
theorem fn_growsLaw (p:GProgram) (a:Int) (σ:List Ob) (lo tr:Nat):Fn fns 9 [Jar p,vint a] σ lo tr=some (vbool true,σ):=by
 refine Jah t9 rfl (σ1:=[]) rfl rfl ?_ σ lo tr
 cases hv:heavy p
 case true=>simp [KF,params,f9,JaB,hv]
 have hp:=okP hv
 have hly:=Jdt p hp
 rw [← lay_eq hp] at hly
 by_cases hE:layE p=0
 case neg=>simp [KF,params,f9,JaB,hv,hly,hE]
 have hP:=JaF hE
 rw [hE] at hly
 have hall:=fn_all p hp
 have hL:=Ja7 hp
 have h0:0 < (allL p).length:=by simp [allL,baseL]
 obtain ⟨w1,kx,kx1,kx2⟩:=pick_ix a h0 (by omega)
 have hne:¬ ((allL p).length:Int)=0:=by omega
 have hne':¬ (allL p).length=0:=by omega
 have hne2:¬ allL p=[]:=fun h=>by rw [h] at h0;simp at h0
 obtain ⟨c,gx⟩:∃ x,(allL p)[kx]=x:=⟨_,rfl⟩
 have hc:c ∈ allL p:=by rw [← gx];exact List.getElem_mem kx1
 have hs:c.name ∈ Jab (allL p):=List.mem_map.mpr ⟨c,hc,rfl⟩
 have hcl:=Jd2 hp hP hc
 have hsl:=JdO p hp c.name
 have hsu:=fn_super_ p hp c.name
 rw [supP_N hP] at hsu
 cases hi:c.iface with
 | true =>
  have hcb:¬ clsB p c.name=true:=fun h=>by have:=(Ja6.mp h).2;rw [hcl,hi] at this;cases this
  have e1:Jc7 p c.name=[]:=by unfold Jc7;rw [if_neg fun h=>hcb h.2]
  have e2:Jc6 p c.name=5:=by unfold Jc6;rw [if_pos hE,if_neg hcb]
  rw [e1,e2] at hsl
  generalize allL p=l at *
  simp only [vsl,Jao] at hsl
  simp [KF,params,f9,JaB,hv,hly,hall,hne,hne',hne2,w1,kx1,kx2,gx,hi,hsl,Ja1]
 | false =>
  have hcb:clsB p c.name=true:=Ja6.mpr ⟨hs,by rw [hcl,hi]⟩
  have e1:Jc7 p c.name=JaD (allL p) c.name:=by unfold Jc7;rw [if_pos ⟨hE,hcb⟩]
  have e2:Jc6 p c.name=0:=by unfold Jc6;rw [if_pos hE,if_pos hcb]
  rw [e1,e2] at hsl
  by_cases hsn:supN (allL p) c.name=⟨#[]⟩
  ·rw [sup_none hp hP hc hi hsn] at hsl
   rw [hsn] at hsu
   generalize allL p=l at *
   simp only [vsl,Jao] at hsl
   simp [KF,params,f9,JaB,hv,hly,hall,hne,hne',hne2,w1,kx1,kx2,gx,hi,hsl,hsu,Ja1]
  ·have hso:=Jd9 hp hP hs hsn
   have hsc:clsB p (supN (allL p) c.name)=true:=Ja6.mpr ⟨hso,(Jea hp hP hs hsn).2⟩
   have hsl2:=JdO p hp (supN (allL p) c.name)
   have e3:Jc7 p (supN (allL p) c.name)=JaD (allL p) (supN (allL p) c.name):=by unfold Jc7;rw [if_pos ⟨hE,hsc⟩]
   have e4:Jc6 p (supN (allL p) c.name)=0:=by unfold Jc6;rw [if_pos hE,if_pos hsc]
   rw [e3,e4] at hsl2
   have hg:=slots_grow hp hP hs
   have hlen:=slots_len hp hP hcb
   have hnd:=slots_nodup hp hE hs (by rw [hcl,hi])
   have hown:=slots_owner hp hP hs
   have hic:isCls p c.name:=by unfold isCls;rw [hcl,hi]
   have hun:∀ z ∈ JaD (allL p) c.name,Jb5 p c.name z.owner=true:=fun z hz=>(under_row hp hP hs hic (row_rch hp hP hs hic _ (hown z hz)).2).mpr (hown z hz)
   have hsd:decide (supN (allL p) c.name=(⟨#[]⟩:ByteArray))=false:=decide_eq_false hsn
   rw [hsd] at hsu
   have hslo:=sl_owner (l:=allL p) (s:=c.name)
   generalize slN (allL p) c.name=z at *
   generalize JaD (allL p) c.name=x at *
   generalize supN (allL p) c.name=s at *
   generalize JaD (allL p) s=y at *
   subst hg
   have hyl:y.length≤100000:=by simp only [List.length_append] at hlen;omega
   have heq:=fn_slotsEq y y (by omega) (by omega)
   simp only [decide_true] at heq
   have L:=fun k=>grows_out (c:=c) (y:=y) hp hlen (fun i k hi hk e=>by
    rw [List.Nodup,List.pairwise_iff_getElem] at hnd
    have:=hnd k i (by simp only [List.length_map];omega) (by simpa using hi) hk
    simp only [List.getElem_map] at this
    exact this e.symm) (fun i hi=>hun _ (List.getElem_mem hi)) (fun i hi hy=>by
    rw [List.getElem_append_right hy]
    exact hslo _ (List.getElem_mem _)) k
   simp only [Int.natCast_zero] at L
   have hle:y.length≤(y ++ z).length:=by simp
   have htk:(y ++ z).take y.length=y:=by simp
   have hle2:¬ ((y ++ z).length:Int) < y.length:=by omega
   have hle3:(y.length:Int)≤(y ++ z).length:=by omega
   generalize allL p=l at *
   generalize y ++ z=x at *
   simp only [cC,hi] at L
   simp [KF,params,f9,JaB,hv,hly,hall,hne,hne',hne2,w1,kx1,kx2,gx,hi,hsl,hsu,hsl2,hle,hle2,hle3,htk,heq,L,Ja1]
end
end Go.Proofs.YtahmcphboodogaaGreatDoor.Am
