/- Lemmas that the rows' proofs rest on; each states its own conditions. -/
import Derived.Test.YtahmcphboodogaaGreatDoorLayMB
namespace Go.Proofs.YtahmcphboodogaaGreatDoor.Am
set_option linter.unusedSimpArgs false
set_option linter.unusedVariables false
set_option linter.unusedSectionVars false
open Go
section
attribute [local simp ↓] K_seq JdI JcH JbK JdG JdH K_ret JdF JdJ JcJ JcI JbR
attribute [local simp] JcG JcF JcD JcB JcC Jaa St.rd St.raw St.set St.took JbG V.down C.down Env.keep binV unV arith Jb0 strs intOf JbO Jbh JcP andK endOf frzV frz1 frzC frzCs frz1s resOf Jb3 JcN V.closed V.closed1 C.closed B.closed Ob.closed V.cells JaO rep chunk datas C.data JbS Jai Jcm JbD JbE JaC C.plain JbJ JcA Jcx Jcw Jcv Jcy Jcz Jcr Jcs Jcu Jct Jc8 Jch Jdx Jcg Jcj Jdy Jci Jck Jbp Jbz JbA vagg Jb8 Jbs Jb7 k_Int JdB k_Str JbC Jbc JbB Jbq Jdz Jba JbH JaX Ja4 Jco JaU Jbf JaK Ja3 Jcn JaT Jbe JaJ Ja5 Jcq JaW Jbg JaL JaQ JbF JaI Ja0 Jcp JaV JaE Jbd JaA Jbr JdA Jbb JbI JaY
theorem at_cls2 (l:List GClass) (s:ByteArray):(s ∉ Jab l∧atI l s = -1)∨∃ (i:Nat) (h:i < l.length),s ∈ Jab l∧atI l s=i∧l[i]=clsN l s∧(clsN l s).name=s:=by
 by_cases hs:s ∈ Jab l
 ·obtain ⟨i,h,h1,h2,h3⟩:=at_cls hs
  exact .inr ⟨i,h,hs,h1,h2,h3⟩
 ·refine .inl ⟨hs,?_⟩
  rcases Jd8 (l:=l) (s:=s) with ⟨_,h2⟩ | ⟨i,h,_,_,h3,_⟩
  ·exact h2
  ·exact absurd (List.mem_map.mpr ⟨l[i],List.getElem_mem h,h3⟩) hs
theorem fn_refClass (p:GProgram) (hp:OkP p) (s:ByteArray) (σ:List Ob) (lo tr:Nat):Fn fns 23 [Jar p,vstr s] σ lo tr=some (vbool (clsB p s),σ):=by
 have hall:=fn_refAll p hp
 have hL:=Ja7 hp
 have hat:=fn_at (allL p) s (by omega)
 refine Jah t23 rfl (σ1:=[]) rfl rfl ?_ σ lo tr
 unfold clsB
 rcases at_cls2 (allL p) s with ⟨hs,h1⟩ | ⟨i,hi,hs,h1,h2,h3⟩
 ·rw [h1] at hat
  simp [KF,params,f23,hall,hat,hs]
 ·rw [h1] at hat
  have h0:(0:Int)≤i:=by omega
  cases hq:(clsN (allL p) s).iface
  all_goals simp [KF,params,f23,hall,hat,hs,hi,h2,h0,hq]
theorem fn_refSlots (p:GProgram) (hp:OkP p) (hP:hierP p=0) (s:ByteArray) (hs:s ∈ Jab (allL p)) (σ:List Ob) (lo tr:Nat):Fn fns 25 [Jar p,vstr s] σ lo tr=some (.c (.osl 4 (rows (JaD (allL p) s))),σ):=by
 have hall:=fn_refAll p hp
 have h1:=fn_slotsOf hp hP (.inl hs)
 refine Jah t25 rfl (σ1:=[]) rfl rfl ?_ σ lo tr
 simp [KF,params,f25,hall,h1]
def staF (n:ByteArray) (l:List GField):List GSlot:=(l.filter fun f=>f.static_).map fun f=>⟨n,f.name,f.type_⟩
theorem stat_in (p:GProgram) (i:Nat) (x:GClass) (hx:OkC x) (k:AExit→St→Option (V × List Ob)):∀ (n j:Nat) (acc:List GSlot),j+n=x.fields.length→acc.length+n≤100000 →
  K fns ⟨0,0⟩ f22_l0 ⟨[(1,vptr 0),(3,.c (.osl 4 (rows acc))),(4,vint i),(5,vptr 1),(6,vint j)],[cP p,cC x]⟩ k=k (.exit 2) ⟨[(1,vptr 0),(3,.c (.osl 4 (rows (acc ++ staF x.name (x.fields.drop j))))),(4,vint i)],[cP p,cC x]⟩:=by
 intro n
 have hf:=hx.fields
 induction n with
 | zero =>
  intro j acc hj hacc
  have hj':j=x.fields.length:=by omega
  subst hj'
  rw [u22_l0]
  simp [f22_b0,staF]
 | succ n ih =>
  intro j acc hj hacc
  have hlt:j < x.fields.length:=by omega
  have hw:=Jac (i:=j) (by omega)
  have hdr:x.fields.drop j=x.fields[j] :: x.fields.drop (j+1):=List.drop_eq_getElem_cons hlt
  rw [hdr]
  generalize hy:x.fields[j]=f
  have q1:acc.length+1≤70368744177664:=by omega
  have q2:(acc.length+1) * 56≤70368744177664:=by omega
  cases hs:f.static_
  ·have e:staF x.name (f :: x.fields.drop (j+1))=staF x.name (x.fields.drop (j+1)):=by simp [staF,hs]
   have:=ih (j+1) acc (by omega) (by omega)
   rw [e,← this,u22_l0]
   simp [f22_b0,hlt,hy,hs,hw]
  ·have e:staF x.name (f :: x.fields.drop (j+1))=⟨x.name,f.name,f.type_⟩ :: staF x.name (x.fields.drop (j+1)):=by simp [staF,hs]
   have:=ih (j+1) (acc ++ [⟨x.name,f.name,f.type_⟩]) (by omega) (by simp;omega)
   rw [List.append_assoc,List.singleton_append] at this
   rw [e,← this,u22_l0]
   simp [f22_b0,hlt,hy,hs,hw,q1,q2]
theorem stat_out (p:GProgram) (hp:OkP p) (k:AExit→St→Option (V × List Ob)):∀ (n i:Nat) (acc:List GSlot),i+n=p.classes.length→acc.length+14 * n≤50000 →
  K fns ⟨0,0⟩ f22_l1 ⟨[(1,vptr 0),(3,.c (.osl 4 (rows acc))),(4,vint i)],[cP p]⟩ k=k (.exit 0) ⟨[(3,.c (.osl 4 (rows (acc ++ (p.classes.drop i).flatMap stC))))],[cP p]⟩:=by
 have hpl:=hp.len
 intro n
 induction n with
 | zero =>
  intro i acc hi _
  have hi':i=p.classes.length:=by omega
  subst hi'
  rw [u22_l1]
  simp [f22_b1]
 | succ n ih =>
  intro i acc hi hacc
  have hlt:i < p.classes.length:=by omega
  have hw:=Jac (i:=i) (by omega)
  have hdr:p.classes.drop i=p.classes[i] :: p.classes.drop (i+1):=List.drop_eq_getElem_cons hlt
  have hok:=hp.cs _ (List.getElem_mem hlt)
  rw [hdr]
  generalize hy:p.classes[i]=x at hok
  have hin:=fun k=>stat_in p i x hok k x.fields.length 0 acc (by omega) (by have:=hok.fields;omega)
  simp only [List.drop_zero,Int.natCast_zero] at hin
  have hsl:(staF x.name x.fields).length≤14:=by
   have:=List.length_filter_le (fun f:GField=>f.static_) x.fields
   have:=hok.fields
   simp only [staF,List.length_map];omega
  have:=ih (i+1) (acc ++ staF x.name x.fields) (by omega) (by simp;omega)
  have e:staF x.name x.fields=stC x:=rfl
  rw [List.flatMap_cons,← e,← List.append_assoc,← this,u22_l1]
  simp [f22_b1,hlt,hy,hin,hw]
theorem fn_refStatics (p:GProgram) (hp:OkP p) (σ:List Ob) (lo tr:Nat):Fn fns 22 [Jar p] σ lo tr=some (.c (.osl 4 (rows (stL p))),σ):=by
 refine Jah t22 rfl (σ1:=[]) rfl rfl ?_ σ lo tr
 have L:=fun k=>stat_out p hp k _ 0 [] (Nat.zero_add _) (by have:=hp.len;simp only [List.length_nil];omega)
 rw [List.drop_zero,List.nil_append,Jao] at L
 simp only [Int.natCast_zero] at L
 unfold stL
 simp [KF,params,f22,L]
theorem fn_refMethod_ (p:GProgram) (hp:OkP p) (hE:layE p=0) (s n:ByteArray) (σ:List Ob) (lo tr:Nat):Fn fns 24 [Jar p,vstr s,vstr n] σ lo tr=some (.tup [vstr ((metT p s n).elim ⟨#[]⟩ (·.1)),Jaq ((metT p s n).elim zM (·.2))],σ):=by
 have hP:=JaF hE
 have hc:=fn_refClass p hp s
 have hall:=fn_refAll p hp
 refine Jah t24 rfl (σ1:=[]) rfl rfl ?_ σ lo tr
 unfold metT
 by_cases h:clsB p s=true
 ·rw [if_pos ⟨hE,h⟩]
  have h1:=fn_refMet hp hP (.inl (Ja6.mp h).1) n
  generalize metO (allL p) s n=r at *
  simp [KF,params,f24,hc,hall,h,h1]
 ·rw [if_neg fun h'=>h h'.2]
  simp [KF,params,f24,Jao,hc,hall,h]
section
variable {p:GProgram}
def FaceAt (p:GProgram) (n s:ByteArray):Prop:=∀ (σ:List Ob) (lo tr:Nat),Fn fns 53 [vsl (allL p),vint (atI (allL p) s),vstr n] σ lo tr=some (.tup [Jaq ((lookL (allL p) s n).getD zM),vbool (lookL (allL p) s n).isSome],σ)
theorem face_in (hp:OkP p) (n:ByteArray) (R:List GClass) (hR:R.length≤1000) (i:Nat) (hi:i < R.length) (hif:R[i].ifaces.length≤1000) (hG:∀ x ∈ R[i].ifaces,FaceAt p n x) (c:GClass) (k:AExit→St→Option (V × List Ob)) :
  K fns ⟨0,0⟩ f53_l0 ⟨[(0,vsl (allL p)),(2,vstr n),(6,vptr 0),(10,.c (.osl 6 (rows R))),(11,vint i),(12,vint 0)],[zOb,cC c]⟩ k =
   (JbQ (allL p) R[i].ifaces n).elim (k (.exit 2) ⟨[(0,vsl (allL p)),(2,vstr n),(6,vptr 0),(10,.c (.osl 6 (rows R))),(11,vint i)],[zOb,cC c]⟩) fun m=>k .ret ⟨[(6,vptr 0),(7,vbool true)],[cM m,cC c]⟩:=by
 obtain ⟨x,hx⟩:∃ x,R[i]=x:=⟨_,rfl⟩
 simp only [hx] at hif hG ⊢
 have hL:=Ja7 hp
 exact JcK (l:=x.ifaces) (f:=fun y=>lookL (allL p) y n) (r:=fun m=>k .ret ⟨[(6,vptr 0),(7,vbool true)],[cM m,cC c]⟩) (e:=k (.exit 2) ⟨[(0,vsl (allL p)),(2,vstr n),(6,vptr 0),(10,.c (.osl 6 (rows R))),(11,vint i)],[zOb,cC c]⟩)
  (X:=fun j=>K fns ⟨0,0⟩ f53_l0 ⟨[(0,vsl (allL p)),(2,vstr n),(6,vptr 0),(10,.c (.osl 6 (rows R))),(11,vint i),(12,vint j)],[zOb,cC c]⟩ k)
  (fun j hj=>by
   have hw:=Jac (i:=j) (by omega)
   have hg:=hG _ (List.getElem_mem hj)
   have hat:=fn_at (allL p) x.ifaces[j] (by omega)
   obtain ⟨y,hy⟩:∃ y,x.ifaces[j]=y:=⟨_,rfl⟩
   simp only [hy] at hg hat ⊢
   unfold FaceAt at hg
   show K fns _ f53_l0 _ k=_
   rw [u53_l0]
   generalize atI (allL p) y=a at *
   cases hq:lookL (allL p) y n with
   | none =>
    simp only [hq,Option.getD_none,Option.isSome_none] at hg
    simp [f53_b0,hi,hx,hj,hy,hw,hat,hg]
   | some m =>
    simp only [hq,Option.getD_some,Option.isSome_some] at hg
    simp [f53_b0,hi,hx,hj,hy,hw,hat,hg])
  (by
   show K fns _ f53_l0 _ k=_
   rw [u53_l0]
   simp [f53_b0,hi,hx])
theorem face_out (hp:OkP p) (n:ByteArray) (R:List GClass) (hR:R.length≤1000) (hif:∀ c ∈ R,c.ifaces.length≤1000) (hG:∀ c ∈ R,∀ x ∈ c.ifaces,FaceAt p n x) (c:GClass) (k:AExit→St→Option (V × List Ob)) :
  K fns ⟨0,0⟩ f53_l1 ⟨[(0,vsl (allL p)),(2,vstr n),(6,vptr 0),(10,.c (.osl 6 (rows R))),(11,vint 0)],[zOb,cC c]⟩ k =
   (R.findSome? fun x=>JbQ (allL p) x.ifaces n).elim (k (.exit 0) ⟨[(6,vptr 0)],[zOb,cC c]⟩) fun m=>k .ret ⟨[(6,vptr 0),(7,vbool true)],[cM m,cC c]⟩ :=
 JcK (l:=R) (f:=fun x=>JbQ (allL p) x.ifaces n) (r:=fun m=>k .ret ⟨[(6,vptr 0),(7,vbool true)],[cM m,cC c]⟩) (e:=k (.exit 0) ⟨[(6,vptr 0)],[zOb,cC c]⟩)
  (X:=fun i=>K fns ⟨0,0⟩ f53_l1 ⟨[(0,vsl (allL p)),(2,vstr n),(6,vptr 0),(10,.c (.osl 6 (rows R))),(11,vint i)],[zOb,cC c]⟩ k)
  (fun i hi=>by
   have hw:=Jac (i:=i) (by omega)
   have L:=fun k=>face_in hp n R hR i hi (hif _ (List.getElem_mem hi)) (hG _ (List.getElem_mem hi)) c k
   show K fns _ f53_l1 _ k=_
   rw [u53_l1]
   cases hq:JbQ (allL p) R[i].ifaces n with
   | none =>
    simp only [hq,Option.elim] at L
    simp [f53_b1,hi,hw,L]
   | some m =>
    simp only [hq,Option.elim] at L
    simp [f53_b1,hi,hw,L])
  (by
   show K fns _ f53_l1 _ k=_
   rw [u53_l1]
   simp [f53_b1])
theorem fn_faceI (hp:OkP p) (hP:hierP p=0) (n:ByteArray):∀ s ∈ Jab (allL p),(clsN (allL p) s).iface=true→FaceAt p n s:=by
 refine above_ind hp hP (P:=fun s=>(clsN (allL p) s).iface=true→FaceAt p n s) (fun s hs ih hi=>?_)
 intro σ lo tr
 obtain ⟨i,hl,h1,h2,h3⟩:=at_cls hs
 have hok:=cls_ok hp s
 have hlk:=look_eq hp hP hs n
 have hG:∀ x ∈ (clsN (allL p) s).ifaces,FaceAt p n x:=fun x hx=>ih x (if_nx hp hP hx) (if_iface hp hP hs hx)
 rw [h1]
 rw [hlk]
 generalize clsN (allL p) s=c at *
 have how:=fn_own c (by have:=hok.methods;omega) n
 simp only [JaR,hi] at how
 have L:=fun k=>face_out hp n [c] (by simp) (by intro x hx;simp at hx;subst hx;have:=hok.ifaces;omega) (by intro x hx;simp at hx;subst hx;exact hG) c k
 have hL:=Ja7 hp
 refine Jah t53 rfl (σ1:=[]) rfl rfl ?_ σ lo tr
 unfold ownM
 rcases idx_find (fun m:GMethod=>decide (m.name=n)) c.methods with ⟨i1,i2⟩ | ⟨j,hj,i2,i1⟩
 ·rw [i2] at how
  rw [i1]
  simp only [List.findSome?_cons,List.findSome?_nil] at L
  simp only [Option.elim]
  have hr1:rows [c]=[Rec.row c]:=rfl
  simp only [hr1,Ja0] at L
  cases hq:JbQ (allL p) c.ifaces n with
  | none =>
   simp only [hq,Option.elim,cC,hi] at L
   simp [KF,params,f53,Jao,hl,h2,hi,how,L]
  | some m =>
   simp only [hq,Option.elim,cC,hi] at L
   simp [KF,params,f53,Jao,hl,h2,hi,how,L]
 ·rw [i2] at how
  rw [i1]
  have htw:=fn_twinMethod c.methods[j] (hok.ms _ (List.getElem_mem hj))
  have h0:(0:Int)≤j:=by omega
  generalize hm:c.methods[j]=m at *
  simp [KF,params,f53,Jao,hl,h2,hi,how,hj,hm,htw,h0]
theorem fn_face (hp:OkP p) (hP:hierP p=0) {s:ByteArray} (hs:s ∈ Jab (allL p)) (n:ByteArray) (σ:List Ob) (lo tr:Nat):Fn fns 53 [vsl (allL p),vint (atI (allL p) s),vstr n] σ lo tr=some (.tup [Jaq ((faceL (allL p) s n).getD zM),vbool (faceL (allL p) s n).isSome],σ):=by
 unfold faceL
 cases hi:(clsN (allL p) s).iface with
 | true =>
  simp only [if_true]
  exact fn_faceI hp hP n s hs hi σ lo tr
 | false =>
  simp only [Bool.false_eq_true,if_false]
  obtain ⟨i,hl,h1,h2,h3⟩:=at_cls hs
  have hok:=cls_ok hp s
  have hrow:=fn_row hp hP (.inl hs)
  rw [if_neg (JaZ hP hs)] at hrow
  have hrl:=JdX (allL p) s
  have hL:=Ja7 hp
  have hsub:=JcZ hp hP hs
  have L:=fun k=>face_out hp n ((rowL (allL p) s).map (clsN (allL p))) (by simp;omega) (by intro x hx;obtain ⟨y,_,rfl⟩:=List.mem_map.mp hx;have:=(cls_ok hp y).ifaces;omega) (by
   intro x hx y hy
   obtain ⟨z,hz,rfl⟩:=List.mem_map.mp hx
   exact fn_faceI hp hP n y (if_names hp hP (hsub z hz) hy) (if_iface hp hP (hsub z hz) hy)) (clsN (allL p) s) k
  rw [List.findSome?_map] at L
  have e:(rowL (allL p) s).findSome? ((fun x:GClass=>JbQ (allL p) x.ifaces n) ∘ clsN (allL p))=(rowL (allL p) s).findSome? fun x=>JbQ (allL p) (clsN (allL p) x).ifaces n:=rfl
  rw [e] at L
  rw [h1]
  generalize (rowL (allL p) s).map (clsN (allL p))=R at *
  generalize (rowL (allL p) s).findSome? (fun x=>JbQ (allL p) (clsN (allL p) x).ifaces n)=r at *
  generalize clsN (allL p) s=c at *
  rw [← h3] at hrow
  have how:=fn_own c (by have:=hok.methods;omega) n
  simp only [JaR,hi] at how
  refine Jah t53 rfl (σ1:=[]) rfl rfl ?_ σ lo tr
  simp only [cC,hi] at L
  cases r with
  | none =>
   simp only [Option.elim] at L
   simp [KF,params,f53,Jao,hl,h2,hi,how,hrow,L]
  | some m =>
   simp only [Option.elim] at L
   simp [KF,params,f53,Jao,hl,h2,hi,how,hrow,L]
theorem fn_refCall (p:GProgram) (hp:OkP p) (hE:layE p=0) (s n:ByteArray) (σ:List Ob) (lo tr:Nat):Fn fns 26 [Jar p,vstr s,vstr n] σ lo tr=some (.tup [Jaq ((callP p s n).getD zM),vbool (callP p s n).isSome],σ):=by
 have hP:=JaF hE
 have hall:=fn_refAll p hp
 have hL:=Ja7 hp
 have hat:=fn_at (allL p) s (by omega)
 have hme:=fn_refMethod_ p hp hE s n
 refine Jah t26 rfl (σ1:=[]) rfl rfl ?_ σ lo tr
 unfold callP
 rw [if_pos hE,call_eq hp hE]
 unfold refC
 rcases at_cls2 (allL p) s with ⟨hs,h1⟩ | ⟨i,hi,hs,h1,h2,h3⟩
 ·rw [h1] at hat
  rw [if_neg hs]
  simp [KF,params,f26,Jao,hall,hat]
 ·have hfa:=fn_face hp hP hs n
  rw [h1] at hat hfa
  rw [if_pos hs]
  have h0:¬ (i:Int) < 0:=by omega
  cases hc:(clsN (allL p) s).iface with
  | true =>
   have hcb:¬ clsB p s=true:=fun h=>by have:=(Ja6.mp h).2;rw [hc] at this;cases this
   have e:metT p s n=none:=by unfold metT;rw [if_neg fun h=>hcb h.2]
   rw [e] at hme
   simp only [Option.elim,if_true] at hme ⊢
   generalize faceL (allL p) s n=r at *
   simp [KF,params,f26,Jao,hall,hat,hme,hfa,h0]
  | false =>
   have hcb:clsB p s=true:=Ja6.mpr ⟨hs,hc⟩
   have e:metT p s n=metO (allL p) s n:=by unfold metT;rw [if_pos ⟨hE,hcb⟩]
   rw [e] at hme
   simp only [Bool.false_eq_true,if_false]
   cases hm:metO (allL p) s n with
   | none =>
    rw [hm] at hme
    simp only [Option.elim] at hme ⊢
    generalize faceL (allL p) s n=r at *
    simp [KF,params,f26,Jao,hall,hat,hme,hfa,h0]
   | some r =>
    have hne:¬ r.1=⟨#[]⟩:=fun h=>by
     have:=JcZ hp hP hs _ (met_from hp hP hs hm).1
     exact JaZ hP this h
    rw [hm] at hme
    simp only [Option.elim] at hme ⊢
    obtain ⟨o,a,b,c,d,e,f,g,m⟩:=r
    simp only at hne hme ⊢
    cases b
    ·simp [KF,params,f26,Jao,hall,hat,hme,h0,hne]
    ·simp [KF,params,f26,Jao,hall,hat,hme,h0,hne]
end
end
end Go.Proofs.YtahmcphboodogaaGreatDoor.Am
