/- Lemmas that the rows' proofs rest on; each states its own conditions. -/
import Derived.Test.YtahmcphboodogaaGreatDoorLayMA
namespace Go.Proofs.YtahmcphboodogaaGreatDoor.Am
set_option linter.unusedSimpArgs false
set_option linter.unusedVariables false
set_option linter.unusedSectionVars false
open Go
section
attribute [local simp ↓] K_seq JdI JcH JbK JdG JdH K_ret JdF JdJ JcJ JcI JbR
attribute [local simp] JcG JcF JcD JcB JcC Jaa St.rd St.raw St.set St.took JbG V.down C.down Env.keep binV unV arith Jb0 strs intOf JbO Jbh JcP andK endOf frzV frz1 frzC frzCs frz1s resOf Jb3 JcN V.closed V.closed1 C.closed B.closed Ob.closed V.cells JaO rep chunk datas C.data JbS Jai Jcm JbD JbE JaC C.plain JbJ JcA Jcx Jcw Jcv Jcy Jcz Jcr Jcs Jcu Jct Jc8 Jch Jdx Jcg Jcj Jdy Jci Jck Jbp Jbz JbA vagg Jb8 Jbs Jb7 k_Int JdB k_Str JbC Jbc JbB Jbq Jdz Jba JbH JaX Ja4 Jco JaU Jbf JaK Ja3 Jcn JaT Jbe JaJ Ja5 Jcq JaW Jbg JaL JaQ JbF JaI Ja0 Jcp JaV JaE Jbd JaA Jbr JdA Jbb JbI JaY
theorem fn_own1 (m:GMethod) (n:ByteArray) {σ:List Ob} {q:Nat} (hq:σ[q]?=some (.cells [.b (.d (.str n))])) (lo tr:Nat) (hlo:lo≤σ.length):Fn fns 116 [Jaq m,vptr q] σ lo tr=some (vbool (decide (m.name=n)),σ):=by
 rw [fn_eq t116 rfl rfl]
 have hm:max lo σ.length=σ.length:=by omega
 have h1:=Jaf hq
 have h2:=(List.getElem?_eq_some_iff.mp hq).2
 simp [KF,params,f116,List.getElem?_append_left,List.getElem?_append_right,hm,h1,h2]
theorem fn_tabOwn {σ:List Ob} (hσ:∀ k,σ.all (Ob.closed (σ.length+k))=true) (X:Nat) (c:GClass) (hok:c.methods.length≤1000000) (n:ByteArray) (lo tr:Nat) (hlo:lo≤σ.length) (htr:tr≤σ.length):Fn fns 95 [vptr X,JaR c,vstr n] σ lo tr=some (.tup [Jaq ((ownM c n).getD zM),vbool (ownM c n).isSome],σ):=by
 rw [fn_eq t95 rfl rfl]
 have hm:max lo σ.length=σ.length:=by omega
 have hcl:(σ ++ [cC c,.cells [.b (.d (.str n))],zOb]).all (Ob.closed (σ ++ [cC c,.cells [.b (.d (.str n))],zOb]).length)=true:=by
  rw [List.all_append,List.length_append,hσ]
  simp [Ob.closed,C.closed,B.closed]
 have h1:=fun lo tr hlo=>fn_idxM c.methods 116 [] [.ptr (σ.length+1) 0] (σ ++ [cC c,.cells [.b (.d (.str n))],zOb]) lo tr hlo (by simp [C.closed,B.closed]) (by simp [C.closed,B.closed]) hcl hok (fun m=>decide (m.name=n)) (fun i hi tr'=>fn_own1 c.methods[i] n (by simp) _ tr' (Nat.le_refl _))
 have hl3:lo≤σ.length+3:=by omega
 have htr2:max tr σ.length≤σ.length+2:=by omega
 have htr1:tr≤σ.length+2:=by omega
 unfold ownM
 rcases idx_find (fun m:GMethod=>decide (m.name=n)) c.methods with ⟨i2,i1⟩ | ⟨j,hj,i1,i2⟩
 ·rw [i1] at h1
  rw [i2]
  simp [KF,params,f95,List.getElem?_append_left,List.getElem?_append_right,List.set_append_right,hm,hl3,htr2,htr1,bsOf,h1]
  exact ⟨rfl,rfl,rfl⟩
 ·rw [i1] at h1
  rw [i2]
  generalize hq:c.methods[j]=m
  have hn:¬ (j:Int) < 0:=by omega
  simp [KF,params,f95,List.getElem?_append_left,List.getElem?_append_right,List.set_append_right,hm,hl3,htr2,htr1,bsOf,h1,hj,hq,hn]
section
variable {p:GProgram} {X:Nat}
def LookAt (p:GProgram) (X:Nat) (n s:ByteArray):Prop:=∀ (S:List Ob) (lo tr:Nat),Done p X 1 0 S→lo≤S.length→tr≤S.length→Fn fns 74 [vptr X,vstr s,vstr n] S lo tr=some (.tup [Jaq ((lookL (allL p) s n).getD zM),vbool (lookL (allL p) s n).isSome],S)
theorem Done.lt {S:List Ob} (h:Done p X 1 0 S):X < S.length:=by
 obtain ⟨b,r1,r2,r3,r4,r5,hb,hx,_⟩:=h.at_
 exact Jaf hx
theorem Done.zM {S:List Ob} (h:Done p X 1 0 S):Done p X 1 0 (S ++ [zOb]):=h.cells (fun k=>by simp [C.closed,B.closed])
theorem Done.cM {S:List Ob} (h:Done p X 1 0 S) (m:GMethod):Done p X 1 0 (S ++ [cM m]):=h.cells (fun k=>by simp [C.closed,B.closed])
theorem Done.cC {S:List Ob} (h:Done p X 1 0 S) (c:GClass):Done p X 1 0 (S ++ [cC c]):=h.cells (fun k=>by simp [C.closed,B.closed])
theorem fn_tabAmong (n:ByteArray) (xs:List ByteArray) (hlen:xs.length≤1000) (hxs:∀ x ∈ xs,LookAt p X n x) (S:List Ob) (lo tr:Nat) (hD:Done p X 1 0 S) (hlo:lo≤S.length) (htr:tr≤S.length) :
  Fn fns 76 [vptr X,vsl xs,vstr n] S lo tr=some (.tup [Jaq ((JbQ (allL p) xs n).getD zM),vbool (JbQ (allL p) xs n).isSome],S):=by
 rw [fn_eq t76 rfl rfl]
 have hm:max lo S.length=S.length:=by omega
 have hcl1:=hD.cl 1
 have hmt:max tr S.length=S.length:=by omega
 have hX:=hD.lt
 have hX1:X < S.length+1:=by omega
 have hn1:¬ S.length+1≤S.length:=by omega
 have ht:∀ a b:Ob,List.take (S.length+1) (S ++ [a,b])=S ++ [a]:=fun a b=>by rw [show S ++ [a,b]=(S ++ [a]) ++ [b] by simp];exact take_all (by simp) _
 have ht1:∀ a:Ob,List.take (S.length+1) (S ++ [a])=S ++ [a]:=fun a=>List.take_of_length_le (by simp)
 have L:∀ (k:AExit→St→Option (V × List Ob)),K fns ⟨S.length,S.length⟩ f76_l0 ⟨[(0,vptr X),(2,vstr n),(6,vptr S.length),(12,vsl xs),(13,vint xs.length),(14,vint 0)],S ++ [zOb]⟩ k=(xs.findSome? fun x=>lookL (allL p) x n).elim (k (.exit 0) ⟨[(6,vptr S.length)],S ++ [zOb]⟩) fun m=>k .ret ⟨[(6,vptr S.length),(7,vbool true)],S ++ [cM m]⟩:=fun k =>
  JcK (l:=xs) (f:=fun x=>lookL (allL p) x n) (r:=fun m=>k .ret ⟨[(6,vptr S.length),(7,vbool true)],S ++ [cM m]⟩) (e:=k (.exit 0) ⟨[(6,vptr S.length)],S ++ [zOb]⟩)
   (X:=fun i=>K fns ⟨S.length,S.length⟩ f76_l0 ⟨[(0,vptr X),(2,vstr n),(6,vptr S.length),(12,vsl xs),(13,vint xs.length),(14,vint i)],S ++ [zOb]⟩ k)
   (fun i hi=>by
    have hw:=Jac (i:=i) (by omega)
    have hc:=hxs xs[i] (List.getElem_mem hi) (S ++ [zOb]) S.length S.length hD.zM (by simp) (by simp)
    show K fns _ f76_l0 _ k=_
    rw [u76_l0]
    obtain ⟨x,hx⟩:∃ x,xs[i]=x:=⟨_,rfl⟩
    simp only [hx] at hc ⊢
    cases hq:lookL (allL p) x n with
    | none =>
     simp only [hq,Option.getD_none,Option.isSome_none] at hc
     simp [f76_b0,List.getElem?_append_left,List.getElem?_append_right,List.set_append_right,hi,hx,hw,hc,hX,hX1,ht,ht1,hcl1,-List.all_eq_true]
    | some m =>
     simp only [hq,Option.getD_some,Option.isSome_some] at hc
     simp [f76_b0,List.getElem?_append_left,List.getElem?_append_right,List.set_append_right,hi,hx,hw,hc,hX,hX1,ht,ht1,hcl1,-List.all_eq_true])
   (by show K fns _ f76_l0 _ k=_;rw [u76_l0];simp [f76_b0,hX,hX1,ht,ht1,hcl1,-List.all_eq_true])
 unfold JbQ
 cases hq:xs.findSome? fun x=>lookL (allL p) x n with
 | none =>
  simp only [hq,Option.elim] at L
  simp [KF,params,f76,Jao,List.getElem?_append_left,List.getElem?_append_right,List.set_append_right,hm,hmt,hX,hn1,L]
 | some m =>
  simp only [hq,Option.elim] at L
  simp [KF,params,f76,List.getElem?_append_left,List.getElem?_append_right,List.set_append_right,hm,hmt,hX,hn1,L]
theorem fn_tabLook (hp:OkP p) (hE:layE p=0) (n:ByteArray):∀ s ∈ Jab (allL p),LookAt p X n s:=by
 have hP:=JaF hE
 refine above_ind hp hP (P:=LookAt p X n) (fun s hs ih=>?_)
 intro S lo tr hD hlo htr
 have hZ:=hD.zM
 obtain ⟨b,r1,r2,r3,r4,r5,hb,hx,σ,rfl,hT⟩:=hZ.at_
 have h1:=Jaf hx
 have h2:=(List.getElem?_eq_some_iff.mp hx).2
 have hX:=hD.lt
 obtain ⟨l,hl,hc⟩:=Jds hT
 have:=hl hP
 subst this
 have hc:=fun lo tr hlo=>hc s lo tr hlo
 obtain ⟨cl,f1,f2,f3⟩:=JaN hs
 have hcl:clsN (allL p) s=cl:=by rw [clsN,f1];rfl
 rw [f1] at hc
 simp only [Option.getD_some,Option.isSome_some,hP,decide_true,Bool.and_true] at hc
 have hD2:=hZ.cC cl
 have hok:=Jce hp cl f2
 have how:=fun lo tr hlo htr=>fn_tabOwn (hD2.cl) X cl (by have:=hok.methods;omega) n lo tr hlo htr
 have hm:max lo S.length=S.length:=by omega
 have hmt:max tr S.length=S.length:=by omega
 rw [look_eq hp hP hs,hcl]
 have hxs:S[X]?=some (.cells (cRow p 1 0 (.ptr (σ.length+3) 0) (layE p) r1 r2 r3 r4 r5)):=by rw [List.getElem?_append_left hX] at hx;exact hx
 have hxs2:=(List.getElem?_eq_some_iff.mp hxs).2
 rw [fn_eq t74 rfl rfl]
 cases hq:ownM cl n with
 | some m =>
  rw [hq] at how
  simp only [Option.getD_some,Option.isSome_some,List.append_assoc,List.singleton_append,List.length_append,List.length_cons,List.length_nil,Nat.zero_add,Nat.reduceAdd,List.length_singleton] at how hc
  simp [KF,params,f74,List.getElem?_append_left,List.getElem?_append_right,List.set_append_right,hm,hmt,hX,hxs,hxs2,hc,how]
 | none =>
  rw [hq] at how
  have ham:=fun lo tr hlo htr=>fn_tabAmong n cl.ifaces (by have:=hok.ifaces;omega) (fun x hx=>ih x (if_nx hp hP (by rw [hcl];exact hx))) _ lo tr (hD2.cM zM) hlo htr
  simp only [Option.getD_none,Option.isSome_none,List.append_assoc,List.singleton_append,List.length_append,List.length_cons,List.length_nil,Nat.zero_add,Nat.reduceAdd,List.length_singleton,List.cons_append,List.nil_append] at how hc ham
  simp only [Option.elim]
  generalize JbQ (allL p) cl.ifaces n=r at *
  simp [KF,params,f74,List.getElem?_append_left,List.getElem?_append_right,List.set_append_right,hm,hmt,hX,hxs,hxs2,hc,how,ham]
end
section
variable {p:GProgram} {X:Nat} {S σ:List Ob}
theorem fn_tabClsA (hp:OkP p) (h:Avail p X σ) (s:ByteArray):∃ S cl,Fn fns 73 [vptr X,vstr s] σ 0 0=some (.tup [JaR cl,vbool (decide (s ∈ Jab (allL p)) && decide (layE p=0))],S)∧Done p X 1 0 S∧But X σ S∧(layE p=0→cl=clsN (allL p) s):=by
 obtain ⟨S,s1,s2,s3,s4⟩:=made_box hp h (cs:=[.b (.d (.str ⟨#[]⟩)),.b (.d (.bool false)),.b (.d (.str ⟨#[]⟩)),.osl 1 [],.osl 4 [],.osl 9 []]) (fun k=>by simp [C.closed,B.closed])
 have hX:=h.lt
 have hz:=s3.box hX
 have z1:=Jaf hz
 have z2:=(List.getElem?_eq_some_iff.mp hz).2
 obtain ⟨b,r1,r2,r3,r4,r5,hb,hx,τ,rfl,hT⟩:=s2.at_
 have h1:=Jaf hx
 have h2:=(List.getElem?_eq_some_iff.mp hx).2
 obtain ⟨l,hl,hc⟩:=Jds hT
 have hc:=hc s 0 0 (Nat.zero_le _)
 have hin:layE p=0→decide (s ∈ Jab (allL p))=(findC (allL p) s).isSome:=fun hE=>by
  by_cases h:s ∈ Jab (allL p)
  ·obtain ⟨c,f1,_⟩:=JaN h
   rw [decide_eq_true h,f1];rfl
  ·rw [decide_eq_false h]
   cases hf:findC (allL p) s with
   | none=>rfl
   | some c=>exact absurd (List.mem_map.mpr ⟨c,Jdl hf⟩) h
 have hbut:∀ (o:Ob) (J:List Ob),But X σ (S.set σ.length o ++ J):=fun o J=>⟨by rw [List.length_append,List.length_set];omega,fun i a b=>by rw [List.getElem?_append_left (by rw [List.length_set];omega),List.getElem?_set_ne (by omega)];exact s3.old.2 i a b⟩
 have hdone:∀ c:GClass,Done p X 1 0 (S.set σ.length (cC c) ++ [cC c]):=fun c=>(s4 (cC c) (fun k=>by simp [Ob.closed,C.closed,B.closed])).cC c
 have hse:∀ c o:Ob,(S ++ [c]).set σ.length o=S.set σ.length o ++ [c]:=fun c o=>List.set_append_left _ _ z1
 have n1:¬ S.length=σ.length:=by omega
 have n2:Jbx S.length (.c (.b (.ptr X 0)))=true:=far_ne (by omega)
 have n3:Jbx S.length (.c (.b (.ptr σ.length 0)))=true:=far_ne (by omega)
 have n4:Jbx σ.length (.c (.b (.ptr X 0)))=true:=far_ne (by omega)
 have n5:Jbx σ.length (.c (.b (.ptr S.length 0)))=true:=far_ne (by omega)
 by_cases hE:layE p=0
 ·have hP:=JaF hE
  have:=hl hP
  subst this
  rw [← hin hE] at hc
  generalize hcl:(findC (allL p) s).getD noC=cl at hc
  refine ⟨_,cl,?_,hdone cl,hbut _ _,fun _=>hcl.symm⟩
  rw [fn_eq t73 rfl rfl]
  generalize decide (s ∈ Jab (allL p))=q at *
  simp only [hP,decide_true,Bool.and_true] at hc
  cases q
  all_goals simp [KF,params,f73,List.getElem?_append_left,List.getElem?_append_right,List.set_append_left,List.set_append_right,hse,s1,hX,h1,h2,z1,z2,hc,hE,n1,n2,n3,n4,n5]
 ·generalize (findC l s).getD noC=cl at hc
  refine ⟨_,cl,?_,hdone cl,hbut _ _,fun h=>absurd h hE⟩
  rw [fn_eq t73 rfl rfl]
  generalize ((findC l s).isSome && decide (hierP p=0))=q at hc
  cases q
  all_goals simp [KF,params,f73,List.getElem?_append_left,List.getElem?_append_right,List.set_append_left,List.set_append_right,hse,s1,hX,h1,h2,z1,z2,hc,hE,n1,n2,n3,n4,n5]
def rowC (l:List GClass) (r:Option GMethod) (row:List ByteArray) (n:ByteArray):Option GMethod:=r.elim (row.findSome? fun x=>JbQ l (clsN l x).ifaces n) some
theorem call_row (hp:OkP p) (hE:layE p=0) (hD:Done p X 1 0 S) {A:Nat} (hA:A < S.length) (c:GClass) (n:ByteArray) (row:List ByteArray) (hrow:∀ x ∈ row,x ∈ Jab (allL p)) (hlen:row.length≤1000) (k:AExit→St→Option (V × List Ob)) :
  ∀ (m i:Nat) (r:Option GMethod),i+m=row.length→K fns ⟨0,0⟩ f48_l0 ⟨[(0,vptr X),(2,vstr n),(6,vptr A),(9,vbool r.isSome),(10,vptr (S.length+1)),(49,vsl row),(50,vint row.length),(51,vint i)],S ++ [cC c,cM (r.getD zM)]⟩ k =
   k (.exit 0) ⟨[(6,vptr A),(9,vbool (rowC (allL p) r (row.drop i) n).isSome),(10,vptr (S.length+1))],S ++ [cC c,cM ((rowC (allL p) r (row.drop i) n).getD zM)]⟩:=by
 have hP:=JaF hE
 have hX:=hD.lt
 have hX2:X < S.length+2:=by omega
 have hA2:A < S.length+2:=by omega
 have hcl2:=hD.cl 2
 have ht3:∀ a b c:Ob,List.take (S.length+2) (S ++ [a,b,c])=S ++ [a,b]:=fun a b c=>by rw [show S ++ [a,b,c]=(S ++ [a,b]) ++ [c] by simp];exact take_all (by simp) _
 have ht2:∀ a b:Ob,List.take (S.length+2) (S ++ [a,b])=S ++ [a,b]:=fun a b=>List.take_of_length_le (by simp)
 intro m
 induction m with
 | zero =>
  intro i r hi
  have hi':i=row.length:=by omega
  subst hi'
  rw [List.drop_length]
  have e:rowC (allL p) r [] n=r:=by cases r<;>rfl
  rw [e,u48_l0]
  simp [f48_b0,hX,hX2,hA2,hcl2,ht2,-List.all_eq_true]
 | succ m ih =>
  intro i r hi
  have hlt:i < row.length:=by omega
  have hw:=Jac (i:=i) (by omega)
  have hdr:row.drop i=row[i] :: row.drop (i+1):=List.drop_eq_getElem_cons hlt
  have hin:=hrow _ (List.getElem_mem hlt)
  rw [hdr]
  generalize hx:row[i]=x at hin
  cases r with
  | some m0 =>
   have:=ih (i+1) (some m0) (by omega)
   have e1:rowC (allL p) (some m0) (x :: row.drop (i+1)) n=rowC (allL p) (some m0) (row.drop (i+1)) n:=rfl
   rw [e1,← this,u48_l0]
   simp [f48_b0,hlt,hx,hw,hX,hX2,hA2,hcl2,ht2,-List.all_eq_true]
  | none =>
   have hD2:=(hD.cC c).cM zM
   obtain ⟨b,r1,r2,r3,r4,r5,hb,hxx,τ,rfl,hT⟩:=hD2.at_
   obtain ⟨l,hl,hc⟩:=Jds hT
   have:=hl hP
   subst this
   have hc:=fun lo tr hlo=>hc x lo tr hlo
   obtain ⟨cl,f1,f2,f3⟩:=JaN hin
   have hcl:clsN (allL p) x=cl:=by rw [clsN,f1];rfl
   rw [f1] at hc
   simp only [Option.getD_some,Option.isSome_some,hP,decide_true,Bool.and_true] at hc
   have hok:=Jce hp cl f2
   have ham:=fun lo tr hlo htr=>fn_tabAmong n cl.ifaces (by have:=hok.ifaces;omega) (fun y hy=>fn_tabLook hp hE n y (if_names hp hP hin (by rw [hcl];exact hy))) _ lo tr (hD2.cC cl) hlo htr
   simp only [List.append_assoc,List.singleton_append,List.length_append,List.length_cons,List.length_nil,Nat.zero_add,Nat.reduceAdd,List.length_singleton,List.cons_append,List.nil_append] at hc ham
   have hxs:S[X]?=some (.cells (cRow p 1 0 (.ptr (τ.length+3) 0) (layE p) r1 r2 r3 r4 r5)):=by rw [List.append_assoc,List.getElem?_append_left hX] at hxx;exact hxx
   have hxs2:=(List.getElem?_eq_some_iff.mp hxs).2
   have e1:rowC (allL p) none (x :: row.drop (i+1)) n=rowC (allL p) (JbQ (allL p) cl.ifaces n) (row.drop (i+1)) n:=by
    unfold rowC
    simp only [Option.elim,List.findSome?_cons,hcl]
    cases JbQ (allL p) cl.ifaces n<;>rfl
   have:=ih (i+1) (JbQ (allL p) cl.ifaces n) (by omega)
   rw [e1,← this,u48_l0]
   generalize JbQ (allL p) cl.ifaces n=q at *
   simp [f48_b0,List.getElem?_append_left,List.getElem?_append_right,List.set_append_left,List.set_append_right,hlt,hx,hw,hX,hX2,hA2,hcl2,ht2,ht3,hxs,hxs2,hc,ham,-List.all_eq_true]
end
theorem cM_zM:cM zM=.cells [.b (.d (.str ⟨#[]⟩)),.b (.d (.bool false)),.b (.d (.bool false)),.b (.d (.sl [])),.b (.d (.int .i64 0)),.b (.d (.str ⟨#[]⟩)),.b (.d (.int .i64 0)),.b (.d (.sl [])),.b (.d (.sl []))]:=rfl
section
variable {p:GProgram} {X:Nat} {S σ:List Ob}
def rawP (p:GProgram) (s n:ByteArray):Option GMethod:=if layE p=0∧s ∈ Jab (allL p) then rawC (allL p) s n else none
theorem fn_tabCall (hp:OkP p) (h:Avail p X σ) (s n:ByteArray):∃ S,Fn fns 48 [vptr X,vstr s,vstr n] σ 0 0=some (.tup [Jaq ((rawP p s n).getD zM),vbool ((rawP p s n).elim false fun m=>!m.static_)],S)∧But X σ S:=by
 have hX:=h.lt
 have hA:=h.cells (cs:=[.b (.d (.str ⟨#[]⟩)),.b (.d (.bool false)),.b (.d (.bool false)),.osl 2 [],.b (.d (.int .i64 0)),.b (.d (.str ⟨#[]⟩)),.b (.d (.int .i64 0)),.osl 4 [],.osl 4 []]) (fun k=>by simp [C.closed,B.closed])
 obtain ⟨S,cl,c1,c2,c3,c4⟩:=fn_tabClsA hp hA s
 have hz:=c3.box hX
 have z1:=Jaf hz
 have z2:=(List.getElem?_eq_some_iff.mp hz).2
 have hbut:∀ (o:Ob) (J:List Ob),But X σ ((S ++ J).set σ.length o):=fun o J=>⟨by rw [List.length_set,List.length_append];omega,fun i a b=>by rw [List.getElem?_set_ne (by omega),List.getElem?_append_left (by omega)];exact c3.old.2 i a b⟩
 have hse:∀ (J:List Ob) (o:Ob),(S ++ J).set σ.length o=S.set σ.length o ++ J:=fun J o=>List.set_append_left _ _ z1
 have n0:¬ S.length≤σ.length:=by omega
 have n4:¬ S.length+1≤σ.length:=by omega
 have n1:¬ S.length=σ.length:=by omega
 have n2:¬ S.length+1=σ.length:=by omega
 have f1:Jbx σ.length (.c (.b (.ptr (S.length+1) 0)))=true:=far_ne (by omega)
 have f2:Jbx (S.length+1) (.c (.b (.ptr σ.length 0)))=true:=far_ne (by omega)
 have hl0:σ.length < S.length+1:=by omega
 have hl1:σ.length < S.length+2:=by omega
 unfold rawP
 by_cases hq:layE p=0∧s ∈ Jab (allL p)
 case neg =>
  rw [if_neg hq]
  have e:(decide (s ∈ Jab (allL p)) && decide (layE p=0))=false:=by
   rw [Bool.and_eq_false_iff,decide_eq_false_iff_not,decide_eq_false_iff_not]
   by_cases h1:s ∈ Jab (allL p)
   ·exact .inr fun h2=>hq ⟨h2,h1⟩
   ·exact .inl h1
  rw [e] at c1
  refine ⟨_,?_,hbut zOb [cC cl]⟩
  rw [fn_eq t48 rfl rfl]
  simp [KF,params,f48,Jao,cM_zM,cC,List.getElem?_append_left,List.getElem?_append_right,List.set_append_left,List.set_append_right,hse,c1,z1,z2,n0,n4,n1,hl0]
 case pos =>
  obtain ⟨hE,hs⟩:=hq
  have hP:=JaF hE
  rw [if_pos ⟨hE,hs⟩]
  rw [decide_eq_true hs,decide_eq_true hE] at c1
  have hcl:=c4 hE
  obtain ⟨b,c,hT⟩:=c2.ok hP
  have hXS:=c2.lt
  have h1:=Jaf hT.x
  have h2:=(List.getElem?_eq_some_iff.mp hT.x).2
  have r1:=Jaf hT.f
  have r2:=(List.getElem?_eq_some_iff.mp hT.f).2
  have l1:=Jaf hT.r
  have l2:=(List.getElem?_eq_some_iff.mp hT.r).2
  obtain ⟨r,k1,hr⟩:=got_F (tabsL (allL p)) (s,n)
  obtain ⟨q,k2,hq⟩:=got_R (tabsL (allL p)) s
  have hfs:=fs_cls hp hP s n
  have hrs:=rs_cls hp hP s
  have hrow:∀ row:List ByteArray,(∀ x ∈ row,x ∈ Jab (allL p))→row.length≤1000→∀ (r:Option GMethod) k,K fns ⟨0,0⟩ f48_l0 ⟨[(0,vptr X),(2,vstr n),(6,vptr σ.length),(9,vbool r.isSome),(10,vptr (S.length+1)),(49,vsl row),(50,vint row.length),(51,vint (0:Nat))],S ++ [cC cl,cM (r.getD zM)]⟩ k=k (.exit 0) ⟨[(6,vptr σ.length),(9,vbool (rowC (allL p) r row n).isSome),(10,vptr (S.length+1))],S ++ [cC cl,cM ((rowC (allL p) r row n).getD zM)]⟩:=fun row a b r k=>call_row hp hE c2 z1 cl n row a b k _ 0 r (Nat.zero_add _)
  simp only [Int.natCast_zero] at hrow
  have hlk:=fn_tabLook hp hE n s hs _ 0 0 ((c2.cC cl).cM zM) (Nat.zero_le _) (Nat.zero_le _)
  simp only [List.append_assoc,List.singleton_append,List.cons_append,List.nil_append] at hlk
  unfold rawC
  generalize tabsL (allL p)=t at *
  rw [← hcl]
  cases hi:cl.iface with
  | true =>
   have hcb:¬ clsB p s=true:=fun h=>by have:=(Ja6.mp h).2;rw [← hcl,hi] at this;cases this
   rw [if_neg hcb] at hfs hrs
   rcases hr with ⟨rfl,r3⟩ | ⟨i,o,rfl,r3⟩
   case inr=>rw [hfs] at r3;cases r3
   rcases hq with ⟨rfl,q3⟩ | ⟨i,o,rfl,q3⟩
   case inr=>rw [hrs] at q3;cases q3
   have L:=hrow [] (by simp) (by simp) (lookL (allL p) s n)
   have e:rowC (allL p) (lookL (allL p) s n) [] n=lookL (allL p) s n:=by cases lookL (allL p) s n<;>rfl
   rw [e] at L
   simp only [if_true]
   generalize lookL (allL p) s n=m at *
   refine ⟨_,?_,hbut (cM (m.getD zM)) [cC cl,cM (m.getD zM)]⟩
   rw [fn_eq t48 rfl rfl]
   simp only [cC,hi,vsl,Jao,List.length_nil,Int.natCast_zero,cM_zM] at L hlk
   cases m with
   | none =>
    simp only [Option.getD_none,Option.isSome_none,cM_zM] at L hlk
    simp [KF,params,f48,Jao,cM_zM,cC,List.getElem?_append_left,List.getElem?_append_right,List.set_append_left,List.set_append_right,hse,c1,z1,z2,n0,n4,n1,n2,f1,f2,hl0,hl1,h1,h2,r1,r2,l1,l2,mapOf,Jak,got,k1,k2,hi,L,hlk]
   | some m =>
    simp only [Option.getD_some,Option.isSome_some] at L hlk
    simp [KF,params,f48,Jao,cM_zM,cC,List.getElem?_append_left,List.getElem?_append_right,List.set_append_left,List.set_append_right,hse,c1,z1,z2,n0,n4,n1,n2,f1,f2,hl0,hl1,h1,h2,r1,r2,l1,l2,mapOf,Jak,got,k1,k2,hi,L,hlk]
  | false =>
   have hcb:clsB p s=true:=Ja6.mpr ⟨hs,by rw [← hcl];exact hi⟩
   rw [if_pos hcb] at hfs hrs
   rcases hq with ⟨rfl,q3⟩ | ⟨j,w,rfl,q3⟩
   case inl=>rw [hrs] at q3;cases q3
   rw [hrs] at q3
   cases q3
   have hrl:=JdX (allL p) s
   have hL:=Ja7 hp
   have L:=hrow (rowL (allL p) s) (JcZ hp hP hs) (by omega) ((metO (allL p) s n).map (·.2))
   have e:rowC (allL p) ((metO (allL p) s n).map (·.2)) (rowL (allL p) s) n=((metO (allL p) s n).map (·.2)).elim ((rowL (allL p) s).findSome? fun x=>JbQ (allL p) (clsN (allL p) x).ifaces n) some:=rfl
   simp only [Bool.false_eq_true,if_false]
   rw [← e]
   generalize rowC (allL p) ((metO (allL p) s n).map (·.2)) (rowL (allL p) s) n=m at *
   refine ⟨_,?_,hbut (cM (m.getD zM)) [cC cl,cM (m.getD zM)]⟩
   rw [fn_eq t48 rfl rfl]
   simp only [cC,hi] at L
   rcases hr with ⟨rfl,r3⟩ | ⟨i,o,rfl,r3⟩
   ·rw [hfs] at r3
    rw [r3] at L
    simp only [Option.getD_none,Option.isSome_none,cM_zM] at L
    cases m with
    | none =>
     simp only [Option.getD_none,Option.isSome_none,cM_zM] at L
     simp [KF,params,f48,Jao,cM_zM,cC,List.getElem?_append_left,List.getElem?_append_right,List.set_append_left,List.set_append_right,hse,c1,z1,z2,n0,n4,n1,n2,f1,f2,hl0,hl1,h1,h2,r1,r2,l1,l2,mapOf,Jak,got,k1,k2,hi,L]
    | some m =>
     simp only [Option.getD_some,Option.isSome_some] at L
     simp [KF,params,f48,Jao,cM_zM,cC,List.getElem?_append_left,List.getElem?_append_right,List.set_append_left,List.set_append_right,hse,c1,z1,z2,n0,n4,n1,n2,f1,f2,hl0,hl1,h1,h2,r1,r2,l1,l2,mapOf,Jak,got,k1,k2,hi,L]
   ·rw [hfs] at r3
    rw [r3] at L
    simp only [Option.getD_some,Option.isSome_some] at L
    cases m with
    | none =>
     simp only [Option.getD_none,Option.isSome_none,cM_zM] at L
     simp [KF,params,f48,Jao,cM_zM,cC,List.getElem?_append_left,List.getElem?_append_right,List.set_append_left,List.set_append_right,hse,c1,z1,z2,n0,n4,n1,n2,f1,f2,hl0,hl1,h1,h2,r1,r2,l1,l2,mapOf,Jak,got,k1,k2,hi,L]
    | some m =>
     simp only [Option.getD_some,Option.isSome_some] at L
     simp [KF,params,f48,Jao,cM_zM,cC,List.getElem?_append_left,List.getElem?_append_right,List.set_append_left,List.set_append_right,hse,c1,z1,z2,n0,n4,n1,n2,f1,f2,hl0,hl1,h1,h2,r1,r2,l1,l2,mapOf,Jak,got,k1,k2,hi,L]
end
def callP (p:GProgram) (s n:ByteArray):Option GMethod:=if layE p=0 then callE (allL p) s n else none
theorem call_raw (p:GProgram) (s n:ByteArray):callP p s n=(rawP p s n).elim none fun m=>if m.static_ then none else some m:=by
 unfold callP rawP callE
 by_cases hE:layE p=0
 ·by_cases hs:s ∈ Jab (allL p)
  ·rw [if_pos hE,if_pos hs,if_pos ⟨hE,hs⟩]
  ·rw [if_pos hE,if_neg hs,if_neg fun h=>hs h.2];rfl
 ·rw [if_neg hE,if_neg fun h=>hE h.1];rfl
theorem call_in {p:GProgram} (hp:OkP p) (hE:layE p=0) {s n:ByteArray} {m:GMethod} (h:rawP p s n=some m):OkM m:=by
 have hP:=JaF hE
 unfold rawP at h
 split at h
 case isFalse=>cases h
 rename_i hq
 have key:∀ x ∈ Jab (allL p),∀ m,lookL (allL p) x n=some m→OkM m:=fun x hx m hm=>by
  obtain ⟨y,h1,_,_,h4,_⟩:=look_from hp hP hx n m hm
  exact (cls_ok hp y).ms _ h4
 unfold rawC at h
 split at h
 ·exact key s hq.2 m h
 ·cases hm:metO (allL p) s n with
  | some r =>
   rw [hm] at h
   cases h
   obtain ⟨h1,h2,_⟩:=met_from hp hP hq.2 hm
   exact (cls_ok hp r.1).ms _ h2
  | none =>
   rw [hm] at h
   simp only [Option.map_none,Option.elim] at h
   obtain ⟨x,hx,hxm⟩:=List.exists_of_findSome?_eq_some h
   unfold JbQ at hxm
   obtain ⟨y,hy,hym⟩:=List.exists_of_findSome?_eq_some hxm
   exact key y (if_names hp hP (JcZ hp hP hq.2 x hx) hy) m hym
theorem fn_layCall (p:GProgram) (hp:OkP p) (s n:ByteArray) (σ:List Ob) (lo tr:Nat):Fn fns 16 [Jar p,vstr s,vstr n] σ lo tr=some (.tup [Jaq ((callP p s n).getD zM),vbool (callP p s n).isSome],σ):=by
 obtain ⟨S,s1,s3⟩:=fn_tabCall hp (av_new p [cP p,zOb] (fun k=>by simp [Ob.closed,C.closed,B.closed])) s n
 have hof:=fn_layOf p
 have hz:S[1]?=some zOb:=by
  rw [s3.2 1 (by simp) (by simp)];rfl
 have z1:=Jaf hz
 have z2:=(List.getElem?_eq_some_iff.mp hz).2
 have hse:∀ (J:List Ob) (o:Ob),(S ++ J).set 1 o=S.set 1 o ++ J:=fun J o=>List.set_append_left _ _ z1
 have n0:¬ S.length=1:=by have:=s3.1;simp at this;omega
 have n1:¬ S.length+1≤1:=by omega
 have n2:1 < S.length+1:=by omega
 refine Jah t16 rfl (σ1:=[]) rfl rfl ?_ σ lo tr
 simp only [List.length_cons,List.length_nil,Nat.zero_add,Nat.reduceAdd,List.cons_append,List.nil_append] at s1
 rw [call_raw]
 cases hq:rawP p s n with
 | none =>
  rw [hq] at s1
  simp only [Option.getD_none,Option.elim] at s1
  simp [KF,params,f16,Jao,List.getElem?_append_left,List.getElem?_append_right,List.set_append_left,List.set_append_right,hof,s1,hse,z1,z2,n0,n1,n2]
 | some m =>
  rw [hq] at s1
  have hE:layE p=0:=by
   unfold rawP at hq
   split at hq
   ·rename_i h;exact h.1
   ·cases hq
  have htw:=Jd6 m (call_in hp hE hq)
  obtain ⟨a,b,c,d,e,f,g,h⟩:=m
  simp only [Option.getD_some,Option.elim] at s1 ⊢
  cases b
  ·simp [KF,params,f16,Jao,List.getElem?_append_left,List.getElem?_append_right,List.set_append_left,List.set_append_right,hof,s1,hse,z1,z2,n0,n1,n2,htw]
  ·simp [KF,params,f16,Jao,List.getElem?_append_left,List.getElem?_append_right,List.set_append_left,List.set_append_right,hof,s1,hse,z1,z2,n0,n1,n2]
theorem some_run:evf fns 40 50 [] [] 0 0=some (Jar pSome,[]):=by kernel_rfl
theorem fn_some (σ:List Ob) (lo tr:Nat):Fn fns 50 [] σ lo tr=some (Jar pSome,σ):=fn_run t50 rfl rfl some_run σ lo tr
set_option maxRecDepth 4000 in
theorem Ja1 (σ:List Ob) (lo tr:Nat):Fn fns 20 [] σ lo tr=some (vbool true,σ):=by
 refine Jah t20 rfl (σ1:=[]) rfl rfl ?_ σ lo tr
 have c1:clsB pSome sB=true:=by kernel_rfl
 have h1:=JdO pSome some_ok sB
 have e1:Jc7 pSome sB=[⟨sA,sX,wInt⟩,⟨sB,sY,wInt⟩]:=by unfold Jc7;rw [if_pos ⟨some_lay,c1⟩];exact some_slots
 have e2:Jc6 pSome sB=0:=by unfold Jc6;rw [if_pos some_lay,if_pos c1]
 rw [e1,e2] at h1
 have h2:=fn_layStatics pSome some_ok
 have e3:statP pSome=[⟨sA,sS,wInt⟩]:=by unfold statP;rw [if_pos some_lay];exact some_st
 rw [e3,some_lay] at h2
 have h3:=Jbv pSome some_ok sB sF
 have e4:metT pSome sB sF=some (sA,wM):=by unfold metT;rw [if_pos ⟨some_lay,c1⟩];exact some_met
 rw [e4] at h3
 have h4:=fn_layCall pSome some_ok sI sF
 have e5:callP pSome sI sF=some wMI:=by unfold callP;rw [if_pos some_lay];exact some_call
 rw [e5] at h4
 have h5:=Jdj pSome some_ok
 rw [some_lay] at h5
 have h6:=Jdj pBad bad_ok
 rw [bad_lay] at h6
 have hs:=fn_some
 simp only [Jar,Jaq] at h1 h2 h3 h4 h5 hs
 generalize pSome.classes=l at *
 have hb:rows pBad.classes=[[.str ⟨#[]⟩,.bool false,.str ⟨#[]⟩,.sl [],.sl [],.sl []]]:=rfl
 simp only [Jar,hb] at h6
 simp only [Option.elim,Option.getD_some,Option.isSome_some] at h1 h2 h3 h4
 simp [KF,params,f20,List.getElem?_append_left,List.getElem?_append_right,List.set_append_left,List.set_append_right,hs,h1,h2,h3,h4,h5,h6]
theorem parts_of {p:GProgram} (h:hierP p=0):progB p=true∧(Jab (allL p)).Nodup:=by
 unfold hierP at h
 cases hb:progB p
 ·rw [hb] at h;cases h
 rw [hb] at h
 simp only [cond_true] at h
 by_cases ht:(mapL (allL p)).length < (allL p).length
 ·simp [ht] at h
 exact ⟨rfl,(mapL_eq ht).2⟩
theorem class_at {p:GProgram} (h:hierP p=0) {k:Nat} (hk:k < p.classes.length):Jbn p.classes[k]=true∧p.classes[k].name≠Jax:=by
 obtain ⟨h1,h2⟩:=parts_of h
 unfold progB at h1
 simp only [Bool.and_eq_true,List.all_eq_true] at h1
 refine ⟨h1.2 _ (List.getElem_mem hk),fun e=>?_⟩
 have e1:Jab (allL p)=Jax :: ((Jab baseL).tail ++ p.classes.map (·.name)):=rfl
 rw [e1,List.nodup_cons] at h2
 exact h2.1 (List.mem_append_right _ (List.mem_map.mpr ⟨_,List.getElem_mem hk,e⟩))
theorem own_name {p:GProgram} (hp:OkP p) (hP:hierP p=0) {k:Nat} (hk:k < p.classes.length):p.classes[k].name ∈ Jab (allL p)∧clsN (allL p) p.classes[k].name=p.classes[k]∧(p.classes[k].iface=false→supN (allL p) p.classes[k].name≠⟨#[]⟩):=by
 have hin:p.classes[k] ∈ allL p:=List.mem_append_right _ (List.getElem_mem hk)
 have hs:p.classes[k].name ∈ Jab (allL p):=List.mem_map.mpr ⟨_,hin,rfl⟩
 have hc:=Jd2 hp hP hin
 refine ⟨hs,hc,fun hi e=>?_⟩
 rw [JdK hs,hc] at e
 unfold Jan at e
 split at e
 ·rename_i h
  rcases h with h | h
  ·rw [hi] at h;cases h
  ·exact (class_at hP hk).2 h
 ·split at e
  ·exact absurd e (by decide)
  ·rename_i h;exact h e
theorem zM_ok:OkM zM:=okM (by decide)
theorem met_ok {p:GProgram} (hp:OkP p) (hP:hierP p=0) {s n:ByteArray} (hs:s ∈ Jab (allL p)):OkM ((metO (allL p) s n).elim zM (·.2)):=by
 cases hm:metO (allL p) s n with
 | none=>exact zM_ok
 | some r=>exact (cls_ok hp r.1).ms _ (met_from hp hP hs hm).2.1
set_option maxRecDepth 4000 in
theorem fn_methodsLaw (p:GProgram) (a:Int) (n:ByteArray) (σ:List Ob) (lo tr:Nat):Fn fns 7 [Jar p,vint a,vstr n] σ lo tr=some (vbool true,σ):=by
 refine Jah t7 rfl (σ1:=[]) rfl rfl ?_ σ lo tr
 cases hv:heavy p
 case true=>simp [KF,params,f7,JaB,hv]
 by_cases la:(60:Int) < n.size
 ·simp [KF,params,f7,JaB,hv,la]
 have hp:=okP hv
 have hly:=Jdt p hp
 rw [← lay_eq hp] at hly
 by_cases hE:layE p=0
 case neg=>simp [KF,params,f7,JaB,hv,la,hly,hE]
 have hP:=JaF hE
 rw [hE] at hly
 by_cases h0:p.classes.length=0
 case pos =>
  have h0i:((p.classes.length:Nat):Int)=0:=by omega
  simp [KF,params,f7,JaB,hv,la,hly,h0i]
 have hL:=hp.len
 obtain ⟨w1,kx,kx1,kx2⟩:=pick_ix a (m:=p.classes.length) (by omega) (by omega)
 have hne:¬ ((p.classes.length:Nat):Int)=0:=by omega
 have hne2:¬ p.classes=[]:=fun h=>by rw [h] at h0;simp at h0
 obtain ⟨o1,o2,o3⟩:=own_name hp hP kx1
 have hok:=hp.cs _ (List.getElem_mem kx1)
 have hdup:∀ m ∈ p.classes[kx].methods,ownM p.classes[kx] m.name=some m:=fun m hm=>dup_first hE (List.getElem_mem kx1) hm
 obtain ⟨x,gx⟩:∃ x,p.classes[kx]=x:=⟨_,rfl⟩
 simp only [gx] at o1 o2 o3 hok hdup
 have hme:=Jbv p hp x.name n
 have hsu:=fn_super_ p hp x.name
 rw [supP_N hP] at hsu
 cases hi:x.iface with
 | true =>
  have hcb:¬ clsB p x.name=true:=fun h=>by have:=(Ja6.mp h).2;rw [o2,hi] at this;cases this
  have e:metT p x.name n=none:=by unfold metT;rw [if_neg fun h=>hcb h.2]
  rw [e] at hme
  simp only [Option.elim,Option.isSome_none] at hme
  simp [KF,params,f7,JaB,hv,la,hly,hne,hne2,h0,w1,kx1,kx2,gx,hi,hme,Ja1]
 | false =>
  have hcb:clsB p x.name=true:=Ja6.mpr ⟨o1,by rw [o2,hi]⟩
  have e:metT p x.name n=metO (allL p) x.name n:=by unfold metT;rw [if_pos ⟨hE,hcb⟩]
  have hmo:=met_own hp hP o1 n
  have hso:=Jd9 hp hP o1 (o3 hi)
  have hsc:clsB p (supN (allL p) x.name)=true:=Ja6.mpr ⟨hso,(Jea hp hP o1 (o3 hi)).2⟩
  have hme2:=Jbv p hp (supN (allL p) x.name) n
  have e2:metT p (supN (allL p) x.name) n=metO (allL p) (supN (allL p) x.name) n:=by unfold metT;rw [if_pos ⟨hE,hsc⟩]
  rw [o2] at hmo
  rw [e] at hme
  rw [e2] at hme2
  have hr2:=Jdi _ (met_ok hp hP (n:=n) hso)
  have hsne:=o3 hi
  generalize supN (allL p) x.name=s at *
  generalize metO (allL p) s n=r at *
  have L:∀ (m:GMethod) (k:AExit→St→Option (V × List Ob)),metO (allL p) x.name n=(ownM x n).elim r (fun m=>some (x.name,m))→m=((ownM x n).elim r fun m=>some (x.name,m)).elim zM (·.2) →
    K fns ⟨0,0⟩ f7_l0 ⟨[(2,vstr n),(3,vptr 0),(7,vptr 1),(8,vstr (((ownM x n).elim r fun m=>some (x.name,m)).elim ⟨#[]⟩ (·.1))),(9,vptr 2),(10,vbool ((ownM x n).elim r fun m=>some (x.name,m)).isSome),(11,vint 0)],[cP p,cC x,cM m]⟩ k =
     match x.methods.findIdx? (fun m=>decide (m.name=n)) with | some i=>k .ret ⟨[(6,vbool true)],[cP p,cC x,cM m]⟩ | none=>k (.exit 0) ⟨[(2,vstr n),(3,vptr 0),(7,vptr 1),(8,vstr (((ownM x n).elim r fun m=>some (x.name,m)).elim ⟨#[]⟩ (·.1))),(9,vptr 2),(10,vbool ((ownM x n).elim r fun m=>some (x.name,m)).isSome)],[cP p,cC x,cM m]⟩:=fun m k _ hm =>
   JbM (l:=x.methods) (p:=fun m=>decide (m.name=n)) (X:=fun i=>K fns ⟨0,0⟩ f7_l0 ⟨[(2,vstr n),(3,vptr 0),(7,vptr 1),(8,vstr (((ownM x n).elim r fun m=>some (x.name,m)).elim ⟨#[]⟩ (·.1))),(9,vptr 2),(10,vbool ((ownM x n).elim r fun m=>some (x.name,m)).isSome),(11,vint i)],[cP p,cC x,cM m]⟩ k)
    (r:=fun i=>k .ret ⟨[(6,vbool true)],[cP p,cC x,cM m]⟩)
    (fun j hj=>by
     have hw:=Jac (i:=j) (by have:=hok.methods;omega)
     have hmm:=List.getElem_mem hj
     have hd:=hdup _ hmm
     have hmr:=Jdi _ (hok.ms _ hmm)
     show K fns _ f7_l0 _ k=_
     rw [u7_l0]
     obtain ⟨y,hy⟩:∃ y,x.methods[j]=y:=⟨_,rfl⟩
     simp only [hy] at hd hmr ⊢
     by_cases hc:y.name=n
     ·rw [hc] at hd
      rw [hd] at hm ⊢
      simp only [Option.elim] at hm ⊢
      subst hm
      simp only [Jaq,hc] at hmr
      simp [f7_b0,hj,hy,hc,hmr,Ja1]
     ·simp [f7_b0,hj,hy,hc,hw])
    (by show K fns _ f7_l0 _ k=_;rw [u7_l0];simp [f7_b0])
  have hmo':metO (allL p) x.name n=(ownM x n).elim r (fun m=>some (x.name,m)):=hmo
  have L:=fun k=>L _ k hmo' rfl
  rw [hmo'] at hme
  cases hq:x.methods.findIdx? (fun m=>decide (m.name=n)) with
  | some i =>
   rw [hq] at L
   simp only at L
   generalize (ownM x n).elim r (fun m=>some (x.name,m))=R at *
   simp only [cC,hi] at L
   simp [KF,params,f7,JaB,hv,la,hly,hne,hne2,h0,w1,kx1,kx2,gx,hi,hme,L]
  | none =>
   have e3:ownM x n=none:=by
    rw [List.findIdx?_eq_none_iff] at hq
    exact List.find?_eq_none.mpr fun m hm=>by simp [hq m hm]
   rw [hq,e3] at L
   rw [e3] at hme
   simp only [Option.elim] at L hme
   have hsd:decide (s=(⟨#[]⟩:ByteArray))=false:=decide_eq_false hsne
   rw [hsd] at hsu
   simp only [cC,hi] at L
   cases r with
   | none =>
    simp only [Option.elim,Option.isSome_none] at L hme hme2 hr2
    simp [KF,params,f7,List.getElem?_append_left,List.getElem?_append_right,JaB,hv,la,hly,hne,hne2,h0,w1,kx1,kx2,gx,hi,hme,hme2,hsu,hr2,L,Ja1]
   | some r =>
    simp only [Option.elim,Option.isSome_some] at L hme hme2 hr2
    simp [KF,params,f7,List.getElem?_append_left,List.getElem?_append_right,JaB,hv,la,hly,hne,hne2,h0,w1,kx1,kx2,gx,hi,hme,hme2,hsu,hr2,L,Ja1]
end
end Go.Proofs.YtahmcphboodogaaGreatDoor.Am
