/- Lemmas that the rows' proofs rest on; each states its own conditions. -/
import Derived.Test.YteeofkbhopioiaaGreatDoorLayMB
import Derived.Test.YteeofkbhopioiaaGreatDoorLatMD
namespace Go.Proofs.YteeofkbhopioiaaGreatDoor.Am
set_option linter.unusedSimpArgs false
set_option linter.unusedVariables false
set_option linter.unusedSectionVars false
open Go
abbrev tyZ:GType:=⟨0,⟨#[]⟩⟩
def mayT (p:GProgram) (t h:GType):Bool:=if t.kind=3 then (decide (h.kind=3) && underP p h.name t.name) else decide (h=t)
def thereF (p:GProgram) (t:GType):Nat→List GType→List GWay
 | _,[]=>[]
 | i,h :: r=>(if mayT p t h=true then [⟨2,i,tyZ⟩] else []) ++ thereF p t (i+1) r
def kindW (s:ByteArray):GWay:=⟨3,0,⟨3,s⟩⟩
def rowW (t:GType) (n:Nat):GWay:=⟨4,n,t⟩
def newF (p:GProgram) (t:GType) (long:Int):List GWay:=if t.kind=3 then (kindsP p t.name).map kindW else (List.range (long+1).toNat).map (rowW t)
def waysI (p:GProgram) (t:GType) (have_:List GType) (objects long:Int):List GWay:=⟨1,0,tyZ⟩ :: (thereF p t 0 have_ ++ if objects≤have_.length then [] else newF p t long)
def namedT (p:GProgram) (t:GType):Bool:=if t.kind=3∨t.kind=5 then (findC (allL p) t.name).isSome else if t.kind=4 then decide (t.name=⟨#[]⟩) else false
def waysX (p:GProgram) (t:GType) (have_:List GType) (objects long:Int):Int:=if layE p=0 then (if namedT p t=true then (if objects < 0∨3 < objects∨long < 0∨3 < long∨(3:Int) < have_.length then 1 else 0) else 8) else layE p
def waysP (p:GProgram) (t:GType) (have_:List GType) (objects long:Int):List GWay:=if waysX p t have_ objects long=0 then waysI p t have_ objects long else []
theorem there_len (p:GProgram) (t:GType):∀ (r:List GType) (i:Nat),(thereF p t i r).length≤r.length
 | [],_=>Nat.le_refl _
 | h :: r,i=>by
  have:=there_len p t r (i+1)
  unfold thereF
  rw [List.length_append,List.length_cons]
  split<;>simp<;>omega
theorem there_mem {p:GProgram} {t:GType} {w:GWay}:∀ {r:List GType} {i:Nat},w ∈ thereF p t i r↔∃ (j:Nat) (h:j < r.length),mayT p t r[j]=true∧w=⟨2,((i+j:Nat):Int),tyZ⟩
 | [],i=>by simp [thereF]
 | x :: r,i=>by
  unfold thereF
  rw [List.mem_append,there_mem (r:=r)]
  constructor
  ·rintro (h | ⟨j,hj,h1,h2⟩)
   ·split at h
    ·rename_i hm
     exact ⟨0,by simp,hm,by simpa using h⟩
    ·cases h
   ·exact ⟨j+1,by simpa using hj,by simpa using h1,by rw [h2,show i+1+j=i+(j+1) by omega]⟩
  ·rintro ⟨j,hj,h1,h2⟩
   cases j with
   | zero =>
    left
    have:mayT p t x=true:=by simpa using h1
    rw [if_pos this,h2];simp
   | succ j =>
    right
    exact ⟨j,by simpa using hj,by simpa using h1,by rw [h2,show i+1+j=i+(j+1) by omega]⟩
theorem kinds_len {p:GProgram} (hp:OkP p) (a:ByteArray):(kindsP p a).length≤100:=by
 unfold kindsP
 split
 ·have:=List.length_filter_le (fun s=>plainP p s && underP p s a) ((namesOf (allL p)).drop 8)
  have hL:=all_len hp
  have h2:((namesOf (allL p)).drop 8).length≤100:=by rw [List.length_drop,namesOf,List.length_map];omega
  exact Nat.le_trans this h2
 ·simp
def ownB (p:GProgram) (s:ByteArray):Bool:=decide (s ∈ p.classes.map (·.name))
def wayOk (p:GProgram) (w:GWay):Bool:=(decide (w.kind=3) && (decide (w.n=0) && (decide (w.type_.kind=3) && (ownB p w.type_.name && clsB p w.type_.name)))) || (decide (w.kind=4) && (!decide (w.type_.kind=3) && (namedT p w.type_ && (decide (0≤w.n) && decide (w.n≤3)))))
def elemT (t:GType):GType:=if t.kind=5 then ⟨3,t.name⟩ else ⟨2,⟨#[]⟩⟩
def slotW (p:GProgram) (w:GWay):List GType:=if w.kind=3 then (slotsO (allL p) w.type_.name).map (·.type_) else List.replicate w.n.toNat (elemT w.type_)
def slotWX (p:GProgram) (w:GWay):Int:=if layE p=0 then (if wayOk p w=true then 0 else 1) else layE p
def slotWP (p:GProgram) (w:GWay):List GType:=if slotWX p w=0 then slotW p w else []
section
variable {p:GProgram} (hp:OkP p) (hE:layE p=0)
include hp hE
end
theorem there_ge {p:GProgram} {t:GType} {w:GWay} {r:List GType} {i:Nat} (h:w ∈ thereF p t i r):(i:Int)≤w.n∧w.kind=2:=by
 obtain ⟨j,hj,_,rfl⟩:=there_mem.mp h
 refine ⟨?_,rfl⟩
 show (i:Int)≤((i+j:Nat):Int)
 omega
theorem count_none {α:Type} {q:α→Bool} {l:List α} (h:∀ x ∈ l,q x=false):l.countP q=0:=by
 rw [List.countP_eq_zero]
 intro x hx
 rw [h x hx];simp
theorem new_kind {p:GProgram} {t:GType} {long:Int} {w:GWay} (h:w ∈ newF p t long):(w.kind=3∧t.kind=3)∨(w.kind=4∧t.kind≠3):=by
 unfold newF at h
 split at h
 ·rename_i hk
  obtain ⟨s,_,rfl⟩:=List.mem_map.mp h
  exact .inl ⟨rfl,hk⟩
 ·rename_i hk
  obtain ⟨n,_,rfl⟩:=List.mem_map.mp h
  exact .inr ⟨rfl,hk⟩
section
variable {p:GProgram} {t:GType} {met:List GType} {long:Int}
theorem ways3 (hm:met.length < 3):waysI p t met 3 long=⟨1,0,tyZ⟩ :: (thereF p t 0 met ++ newF p t long):=by
 unfold waysI
 rw [if_neg (by omega)]
theorem count_null (hm:met.length < 3):(waysI p t met 3 long).countP (fun w=>decide (w.kind=1))=1:=by
 rw [ways3 hm,List.countP_cons,List.countP_append,count_none (fun w hw=>by rw [(there_ge hw).2];rfl),count_none (fun w hw=>by rcases new_kind hw with h | h<;>rw [h.1]<;>rfl)]
 rfl
theorem count_there:∀ (r:List GType) (i j:Nat) (hj:j < r.length),(thereF p t i r).countP (fun w=>decide (w.kind=2) && decide (w.n=((i+j:Nat):Int)))=if mayT p t r[j]=true then 1 else 0
 | [],_,j,hj=>by simp at hj
 | h :: r,i,j,hj=>by
  unfold thereF
  rw [List.countP_append]
  cases j with
  | zero =>
   have e2:(thereF p t (i+1) r).countP (fun w=>decide (w.kind=2) && decide (w.n=((i+0:Nat):Int)))=0:=count_none fun w hw=>by
    have:=(there_ge hw).1
    have:¬ w.n=((i+0:Nat):Int):=by omega
    rw [decide_eq_false this];simp
   rw [e2]
   by_cases hm:mayT p t h=true
   ·simp [hm]
   ·simp [hm]
  | succ j =>
   have ih:=count_there r (i+1) j (by simpa using hj)
   have e:i+1+j=i+(j+1):=by omega
   rw [e] at ih
   rw [ih]
   have e1:(if mayT p t h=true then [(⟨2,(i:Int),tyZ⟩:GWay)] else []).countP (fun w=>decide (w.kind=2) && decide (w.n=((i+(j+1):Nat):Int)))=0:=by
    split
    ·rw [List.countP_cons,List.countP_nil]
     have:¬ (i:Int)=((i+(j+1):Nat):Int):=by omega
     simp
     omega
    ·rfl
   rw [e1,Nat.zero_add,List.getElem_cons_succ]
theorem count_met (hm:met.length < 3) {j:Nat} (hj:j < met.length):(waysI p t met 3 long).countP (fun w=>decide (w.kind=2) && decide (w.n=(j:Int)))=if mayT p t met[j]=true then 1 else 0:=by
 have h1:=count_there (p:=p) (t:=t) met 0 j hj
 rw [Nat.zero_add] at h1
 rw [ways3 hm,List.countP_cons,List.countP_append,h1,count_none (l:=newF p t long) (fun w hw=>by rcases new_kind hw with h | h<;>rw [h.1]<;>rfl)]
 simp
theorem count_one {l:List ByteArray} (hn:l.Nodup) (s:ByteArray):l.countP (fun x=>decide (x=s))=if s ∈ l then 1 else 0:=by
 induction l with
 | nil=>rfl
 | cons x l ih =>
  rw [List.nodup_cons] at hn
  rw [List.countP_cons,ih hn.2]
  by_cases h:x=s
  ·subst h;simp [hn.1]
  ·have:¬ s=x:=fun e=>h e.symm
   simp [h,this]
theorem kinds_nodup (hp:OkP p) (hP:hierP p=0) (a:ByteArray):(kindsP p a).Nodup:=by
 unfold kindsP
 rw [if_pos hP]
 exact ((sane_of hp hP).nd.sublist (List.drop_sublist _ _)).sublist List.filter_sublist
theorem count_new (hp:OkP p) (hP:hierP p=0) (hm:met.length < 3) (hk:t.kind=3) (s:ByteArray):(waysI p t met 3 long).countP (fun w=>decide (w.kind=3) && decide (w.type_=⟨3,s⟩))=if s ∈ kindsP p t.name then 1 else 0:=by
 have e:(newF p t long).countP (fun w=>decide (w.kind=3) && decide (w.type_=⟨3,s⟩))=if s ∈ kindsP p t.name then 1 else 0:=by
  unfold newF
  rw [if_pos hk,List.countP_map,← count_one (kinds_nodup hp hP t.name) s]
  congr 1
  funext x
  simp [kindW]
 rw [ways3 hm,List.countP_cons,List.countP_append,e,count_none (l:=thereF p t 0 met) (fun w hw=>by rw [(there_ge hw).2];rfl)]
 simp
theorem count_row (hm:met.length < 3) (hk:t.kind≠3) (n:Nat) (hl:0≤long):(waysI p t met 3 long).countP (fun w=>decide (w.kind=4) && (decide (w.n=(n:Int)) && decide (w.type_=t)))=if (n:Int)≤long then 1 else 0:=by
 have key:∀ k:Nat,((List.range k).map (rowW t)).countP (fun w=>decide (w.kind=4) && (decide (w.n=(n:Int)) && decide (w.type_=t)))=if n < k then 1 else 0:=by
  intro k
  induction k with
  | zero=>rfl
  | succ k ih =>
   rw [List.range_succ,List.map_append,List.countP_append,ih]
   by_cases h:n=k
   ·subst h;simp [rowW]
   ·have h2:¬ ((k:Int)=(n:Int)):=by omega
    by_cases h3:n < k
    ·have h4:n < k+1:=by omega
     simp [rowW,h2,h3,h4]
    ·have h4:¬ n < k+1:=by omega
     simp [rowW,h2,h3,h4]
 have e:(newF p t long).countP (fun w=>decide (w.kind=4) && (decide (w.n=(n:Int)) && decide (w.type_=t)))=if (n:Int)≤long then 1 else 0:=by
  unfold newF
  rw [if_neg hk,key]
  by_cases h:(n:Int)≤long
  ·rw [if_pos h,if_pos (by omega)]
  ·rw [if_neg h,if_neg (by omega)]
 rw [ways3 hm,List.countP_cons,List.countP_append,e,count_none (l:=thereF p t 0 met) (fun w hw=>by rw [(there_ge hw).2];rfl)]
 simp
end
section
attribute [local simp ↓] K_seq K_cond K_block K_region K_skip K_exit K_ret K_wrap KA_nil KA_none KA_some str_eq
attribute [local simp] beq_int bne_int dec_eqN dec_ltN dec_leN stepOp St.rd St.raw St.set St.took get_cons V.down C.down Env.keep binV unV arith isShift strs intOf optInt wrapEnd keptAt andK endOf frzV frz1 frzC frzCs frz1s resOf resOne resAll V.closed V.closed1 C.closed B.closed Ob.closed V.cells partsIn rep chunk datas C.data rowsOf getCells put_nil put_zero put_succ mayWrite C.plain eqV_bool eqV_agg eqV_pnn eqV_pnp eqV_ppn eqV_mnn eqV_mmn eqV_snn eqV_sen eqV_san eqV_sdn rs_len rs_getE rs_app rs_take rs_drop rs_all rs_each row_len str_nilP str_nilE str_nilB vagg row_Int row_Bool row_Str k_Int k_Bool k_Str snoc_Int snoc_Bool snoc_Str row_Type k_Type snoc_Type eta_Type sames_Type row_Field k_Field snoc_Field eta_Field sames_Field row_Instr k_Instr snoc_Instr eta_Instr sames_Instr row_Catch k_Catch snoc_Catch eta_Catch sames_Catch row_Method k_Method snoc_Method row_Class k_Class snoc_Class row_Program k_Program snoc_Program row_Slot k_Slot snoc_Slot eta_Slot sames_Slot row_Way k_Way snoc_Way eta_Way sames_Way
theorem names_some (l:List GClass) (s:ByteArray):decide (s ∈ namesOf l)=(findC l s).isSome:=by
 by_cases h:s ∈ namesOf l
 ·obtain ⟨c,f1,_⟩:=find_name h
  rw [decide_eq_true h,f1];rfl
 ·rw [decide_eq_false h]
  cases hf:findC l s with
  | none=>rfl
  | some c=>exact absurd (List.mem_map.mpr ⟨c,find_mem hf⟩) h
section
variable {p:GProgram} {X:Nat} {S:List Ob}
theorem Done.cl0' {S:List Ob} (h:Done p X 1 0 S):S.all (Ob.closed S.length)=true:=by simpa using h.cl 0
theorem Done.cTy (h:Done p X 1 0 S) (t:GType):Done p X 1 0 (S ++ [cTy t]):=h.cells (fun k=>by simp [C.closed,B.closed])
theorem fn_may (h:Done p X 1 0 S) (t u:GType) (lo tr:Nat) (hlo:lo≤S.length):Fn fns 52 [vptr X,vType t,vType u] S lo tr=some (vbool (mayT p t u),S):=by
 have hD:=(h.cTy t).cTy u
 obtain ⟨σ,hT,h1⟩:=fn_tabTree hD
 have h2:=fun lo tr=>fn_tUnder hT u.name t.name lo tr
 have hX:=h.lt
 have hm:max lo S.length=S.length:=by omega
 simp only [List.append_assoc,List.singleton_append] at h1 h2
 obtain ⟨k1,n1⟩:=t
 obtain ⟨k2,n2⟩:=u
 unfold mayT
 rw [fn_eq t52 rfl rfl]
 by_cases a3:k1=3
 ·subst a3
  by_cases b3:k2=3
  ·subst b3
   simp [KF,params,f52,List.getElem?_append_left,List.getElem?_append_right,hm,hX,h1,h2]
  ·simp [KF,params,f52,List.getElem?_append_left,List.getElem?_append_right,hm,hX,b3]
 ·by_cases e:(⟨k2,n2⟩:GType)=⟨k1,n1⟩
  ·cases e
   simp [KF,params,f52,List.getElem?_append_left,List.getElem?_append_right,hm,hX,a3]
  ·simp [KF,params,f52,List.getElem?_append_left,List.getElem?_append_right,hm,hX,a3,e]
theorem fn_namedIn (hp:OkP p) (hE:layE p=0) (h:Done p X 1 0 S) (t:GType):∃ S',Fn fns 27 [vptr X,vType t] S 0 0=some (vbool (namedT p t),S')∧Done p X 1 0 S'∧But X S S':=by
 have hX:=h.lt
 have hA:Avail p X (S ++ [cTy t]):=.inr (h.cTy t)
 obtain ⟨S1,cl,c1,c2,c3,c4⟩:=fn_tabClsA hp hA t.name
 have hz:=c3.box hX
 have z1:=get_lt hz
 have z2:=(List.getElem?_eq_some_iff.mp hz).2
 rw [names_some,decide_eq_true hE,Bool.and_true] at c1
 have hle:S.length≤S1.length:=by omega
 refine ⟨S1 ++ [cC cl],?_,c2.cC cl,⟨by simp;omega,fun i a b=>by rw [List.getElem?_append_left (by omega)];exact c3.old.2 i a b⟩⟩
 rw [fn_eq t27 rfl rfl]
 obtain ⟨k,n⟩:=t
 unfold namedT
 simp only at c1 ⊢
 generalize (findC (allL p) n).isSome=q at *
 by_cases k3:k=3
 ·subst k3
  simp [KF,params,f27,List.getElem?_append_left,List.getElem?_append_right,List.set_append_right,hX,c1,z1,z2]
 by_cases k5:k=5
 ·subst k5
  simp [KF,params,f27,List.getElem?_append_left,List.getElem?_append_right,List.set_append_right,hX,c1,z1,z2]
 by_cases k4:k=4
 ·subst k4
  simp [KF,params,f27,List.getElem?_append_left,List.getElem?_append_right,List.set_append_right,hX,c1,z1,z2]
 ·simp [KF,params,f27,List.getElem?_append_left,List.getElem?_append_right,List.set_append_right,hX,c1,z1,z2,k3,k4,k5]
theorem fn_tabSl1 (hp:OkP p) (hE:layE p=0) (h:Done p X 1 0 S) (s:ByteArray) (lo tr:Nat):Fn fns 49 [vptr X,vstr s] S lo tr=some (.tup [vsl (if clsB p s=true then slotsO (allL p) s else []),vbool (clsB p s)],S):=by
 have hP:=layE_hier hE
 have s1:=fn_made1 h lo tr
 obtain ⟨b,c,hT⟩:=h.ok hP
 have hX:=h.lt
 have h1:=get_lt hT.x
 have h2:=(List.getElem?_eq_some_iff.mp hT.x).2
 have r1:=get_lt hT.r
 have r2:=(List.getElem?_eq_some_iff.mp hT.r).2
 have l1:=get_lt hT.l
 have l2:=(List.getElem?_eq_some_iff.mp hT.l).2
 obtain ⟨r,k1,hr⟩:=got_R (tabsL (allL p)) s
 obtain ⟨q,k2,hq⟩:=got_L (tabsL (allL p)) s
 have hrs:=rs_cls hp hP s
 have hls:=ls_cls hp hP s
 have hcl:clsB p s=(lookA (tabsL (allL p)).rs s).isSome:=by rw [hrs];cases clsB p s<;>rfl
 rw [← hls,hcl]
 rw [fn_eq t49 rfl rfl]
 generalize tabsL (allL p)=t at *
 rcases hr with ⟨rfl,r3⟩ | ⟨i,o,rfl,r3⟩<;>rcases hq with ⟨rfl,q3⟩ | ⟨j,v,rfl,q3⟩
 all_goals simp [KF,params,f49,rs_nil,hX,s1,h1,h2,r1,r2,l1,l2,mapOf,keyShape,got,k1,k2,r3,q3,hE]
end
section
variable {p:GProgram} {X:Nat} {S:List Ob}
theorem ways_l0 (h:Done p X 1 0 S) (t:GType) (L:List GType) (hL:L.length≤100) (o l:Int) (k:AExit→St→Option (V × List Ob)):∀ (n i:Nat) (acc:List GWay),i+n=L.length→acc.length+n≤1000 →
  K fns ⟨S.length,S.length⟩ f28_l0 ⟨[(0,vptr X),(2,vsl L),(3,vint o),(4,vint l),(6,vptr S.length),(11,.c (.osl 4 (rows acc))),(19,vsl L),(20,vint L.length),(21,vint i)],S ++ [cTy t]⟩ k =
   k (.exit 0) ⟨[(0,vptr X),(2,vsl L),(3,vint o),(4,vint l),(6,vptr S.length),(11,.c (.osl 4 (rows (acc ++ thereF p t i (L.drop i)))))],S ++ [cTy t]⟩:=by
 have hX:=h.lt
 have hX1:X < S.length+1:=by omega
 have hcl1:=h.cl 1
 have ht:∀ a b:Ob,List.take (S.length+1) (S ++ [a,b])=S ++ [a]:=fun a b=>by rw [show S ++ [a,b]=(S ++ [a]) ++ [b] by simp];exact take_all (by simp) _
 have ht1:∀ a:Ob,List.take (S.length+1) (S ++ [a])=S ++ [a]:=fun a=>List.take_of_length_le (by simp)
 intro n
 induction n with
 | zero =>
  intro i acc hi _
  have hi':i=L.length:=by omega
  subst hi'
  rw [List.drop_length,thereF,List.append_nil,u28_l0]
  simp [f28_b0,hX,hX1,ht1,hcl1,-List.all_eq_true]
 | succ n ih =>
  intro i acc hi hacc
  have hlt:i < L.length:=by omega
  have hw:=wrap_succ (i:=i) (by omega)
  have hdr:L.drop i=L[i] :: L.drop (i+1):=List.drop_eq_getElem_cons hlt
  have q1:acc.length+1≤70368744177664:=by omega
  have q2:(acc.length+1) * 40≤70368744177664:=by omega
  rw [hdr,thereF]
  generalize hu:L[i]=u
  have hm:=fun lo tr hlo=>fn_may ((h.cTy t).cTy u) t u lo tr hlo
  simp only [List.append_assoc,List.singleton_append] at hm
  cases hq:mayT p t u with
  | true =>
   rw [hq] at hm
   have:=ih (i+1) (acc ++ [⟨2,(i:Int),tyZ⟩]) (by omega) (by simp;omega)
   rw [List.append_assoc] at this
   simp only [if_true]
   rw [← this,u28_l0]
   simp [f28_b0,List.getElem?_append_left,List.getElem?_append_right,List.set_append_right,hlt,hu,hw,hm,hX,hX1,ht,ht1,hcl1,q1,q2,-List.all_eq_true]
  | false =>
   rw [hq] at hm
   have:=ih (i+1) acc (by omega) (by omega)
   simp only [Bool.false_eq_true,if_false,List.nil_append]
   rw [← this,u28_l0]
   simp [f28_b0,List.getElem?_append_left,List.getElem?_append_right,List.set_append_right,hlt,hu,hw,hm,hX,hX1,ht,ht1,hcl1,-List.all_eq_true]
theorem ways_l1 {B:Bd} {σ:List Ob} (hσ:σ.all (Ob.closed σ.length)=true) (L:List ByteArray) (hL:L.length≤100) (k:AExit→St→Option (V × List Ob)):∀ (n i:Nat) (acc:List GWay),i+n=L.length→acc.length+n≤1000 →
  K fns B f28_l1 ⟨[(11,.c (.osl 4 (rows acc))),(48,.c (.osl 1 (rows L))),(49,vint L.length),(50,vint i)],σ⟩ k=k (.exit 2) ⟨[(11,.c (.osl 4 (rows (acc ++ (L.drop i).map kindW))))],σ⟩:=by
 intro n
 induction n with
 | zero =>
  intro i acc hi _
  have hi':i=L.length:=by omega
  subst hi'
  rw [List.drop_length,List.map_nil,List.append_nil,u28_l1]
  simp [f28_b1,hσ,-List.all_eq_true]
 | succ n ih =>
  intro i acc hi hacc
  have hlt:i < L.length:=by omega
  have hw:=wrap_succ (i:=i) (by omega)
  have hdr:L.drop i=L[i] :: L.drop (i+1):=List.drop_eq_getElem_cons hlt
  have q1:acc.length+1≤70368744177664:=by omega
  have q2:(acc.length+1) * 40≤70368744177664:=by omega
  have:=ih (i+1) (acc ++ [kindW L[i]]) (by omega) (by simp;omega)
  rw [List.append_assoc,List.singleton_append] at this
  rw [hdr,List.map_cons,← this,u28_l1]
  unfold kindW
  simp [f28_b1,hlt,hw,hσ,q1,q2,-List.all_eq_true]
theorem ways_l2 {B:Bd} {σ:List Ob} (hσ:∀ k,σ.all (Ob.closed (σ.length+k))=true) (t:GType) (m:Nat) (hm:m≤100) (k:AExit→St→Option (V × List Ob)):∀ (n i:Nat) (acc:List GWay),i+n=m→acc.length+n≤1000 →
  K fns B f28_l2 ⟨[(6,vptr σ.length),(11,.c (.osl 4 (rows acc))),(63,vint m),(64,vint i)],σ ++ [cTy t]⟩ k=k (.exit 4) ⟨[(11,.c (.osl 4 (rows (acc ++ (List.range' i n).map (rowW t)))))],σ ++ [cTy t]⟩:=by
 have hcl1:=hσ 1
 have ht1:∀ a:Ob,List.take (σ.length+1) (σ ++ [a])=σ ++ [a]:=fun a=>List.take_of_length_le (by simp)
 intro n
 induction n with
 | zero =>
  intro i acc hi _
  have hi':i=m:=by omega
  subst hi'
  rw [u28_l2]
  simp [f28_b2,ht1,hcl1,-List.all_eq_true]
 | succ n ih =>
  intro i acc hi hacc
  have hlt:(i:Int) < m:=by omega
  have hw:=wrap_succ (i:=i) (by omega)
  have q1:acc.length+1≤70368744177664:=by omega
  have q2:(acc.length+1) * 40≤70368744177664:=by omega
  have:=ih (i+1) (acc ++ [rowW t i]) (by omega) (by simp;omega)
  rw [List.append_assoc,List.singleton_append] at this
  rw [List.range'_succ,List.map_cons,← this,u28_l2]
  have hlt2:i < m:=by omega
  unfold rowW
  simp [f28_b2,List.getElem?_append_left,List.getElem?_append_right,hlt,hlt2,hw,ht1,hcl1,q1,q2,-List.all_eq_true]
theorem fn_waysIn (hp:OkP p) (hE:layE p=0) (h:Done p X 1 0 S) (t:GType) (L:List GType) (hL:L.length≤3) (o l:Int) (hl0:0≤l) (hl1:l≤3) (lo tr:Nat) (hlo:lo≤S.length) (htr:tr≤S.length):Fn fns 28 [vptr X,vType t,vsl L,vint o,vint l] S lo tr=some (.c (.osl 4 (rows (waysI p t L o l))),S):=by
 have hX:=h.lt
 have hm:max lo S.length=S.length:=by omega
 have hmt:max tr S.length=S.length:=by omega
 have hD:=h.cTy t
 have L0:=fun k=>ways_l0 h t L (by omega) o l k L.length 0 [⟨1,0,tyZ⟩] (Nat.zero_add _) (by simp;omega)
 rw [List.drop_zero] at L0
 obtain ⟨σ,hT,hTr⟩:=fn_tabTree hD
 have hk:=fun lo tr hlo=>fn_tKinds hp hT t.name lo tr hlo
 have hkl:=kinds_len hp t.name
 have htl:=there_len p t L 0
 have L1:=fun B k=>ways_l1 (B:=B) hD.cl0' (kindsP p t.name) hkl k _ 0 ([⟨1,0,tyZ⟩] ++ thereF p t 0 L) (Nat.zero_add _) (by simp;omega)
 rw [List.drop_zero] at L1
 obtain ⟨m,hm1⟩:∃ m:Nat,(l+1).toNat=m:=⟨_,rfl⟩
 have hm2:l+1=(m:Int):=by omega
 have L2:=fun B k=>ways_l2 (B:=B) h.cl t m (by omega) k m 0 ([⟨1,0,tyZ⟩] ++ thereF p t 0 L) (Nat.zero_add _) (by simp;omega)
 have hw:IntKind.i64.wrap (l+1)=m:=by rw [hm2];exact wrap_nat (by omega) (by omega)
 unfold waysI newF
 rw [hm1,List.range_eq_range']
 have r1:rows [(⟨1,0,tyZ⟩:GWay)]=[[.int .i64 1,.int .i64 0,.int .i64 0,.str ⟨#[]⟩]]:=rfl
 simp only [r1] at L0
 rw [fn_eq t28 rfl rfl]
 generalize thereF p t 0 L=T at *
 obtain ⟨k,n⟩:=t
 simp only [Int.natCast_zero,List.cons_append,List.nil_append] at L0 L1 L2
 by_cases ho:o≤L.length
 ·simp [KF,params,f28,hm,hmt,L0,ho]
 ·by_cases k3:k=3
  ·subst k3
   generalize kindsP p n=Q at *
   simp [KF,params,f28,List.getElem?_append_left,List.getElem?_append_right,hm,hmt,L0,L1,hTr,hk,ho]
  ·simp [KF,params,f28,List.getElem?_append_left,List.getElem?_append_right,hm,hmt,L0,L2,hw,ho,k3]
end
theorem fn_lazyWays (p:GProgram) (hp:OkP p) (t:GType) (L:List GType) (hL:L.length≤100) (o l:Int) (σ:List Ob) (lo tr:Nat):Fn fns 10 [vProgram p,vType t,vsl L,vint o,vint l] σ lo tr=some (.tup [vsl (waysP p t L o l),vint (waysX p t L o l)],σ):=by
 obtain ⟨S,s1,s2,s3⟩:=fn_tabE hp (av_new p [cP p,cTy t] (fun k=>by simp [Ob.closed,C.closed,B.closed]))
 have hof:=fn_layOf p
 have hE1:=fun lo tr=>fn_tabE1 s2 lo tr
 have hz:S[1]?=some (cTy t):=by rw [s3.2 1 (by simp) (by simp)];rfl
 have z1:=get_lt hz
 have z2:=(List.getElem?_eq_some_iff.mp hz).2
 refine fn_gen t10 rfl (σ1:=[]) rfl rfl ?_ σ lo tr
 simp only [List.length_cons,List.length_nil,Nat.zero_add,Nat.reduceAdd,List.cons_append,List.nil_append] at s1 hE1
 unfold waysP waysX
 by_cases hE:layE p=0
 case neg=>simp [KF,params,f10,hof,s1,hE1,hE,rs_nil]
 obtain ⟨S2,n1,n2,n3⟩:=fn_namedIn hp hE s2 t
 have hz2:S2[1]?=some (cTy t):=by rw [n3.2 1 (by simp) z1];exact hz
 have y1:=get_lt hz2
 have y2:=(List.getElem?_eq_some_iff.mp hz2).2
 simp only [List.length_cons,List.length_nil,Nat.zero_add,Nat.reduceAdd] at n1
 simp only [hE,if_true]
 cases hn:namedT p t with
 | false =>
  rw [hn] at n1
  simp [KF,params,f10,hof,s1,hE1,hE,n1,z1,z2,rs_nil]
 | true =>
  rw [hn] at n1
  simp only [if_true]
  by_cases b1:o < 0
  ·simp [KF,params,f10,hof,s1,hE1,hE,n1,z1,z2,b1,rs_nil]
  by_cases b2:3 < o
  ·simp [KF,params,f10,hof,s1,hE1,hE,n1,z1,z2,b1,b2,rs_nil]
  by_cases b3:l < 0
  ·simp [KF,params,f10,hof,s1,hE1,hE,n1,z1,z2,b1,b2,b3,rs_nil]
  by_cases b4:3 < l
  ·simp [KF,params,f10,hof,s1,hE1,hE,n1,z1,z2,b1,b2,b3,b4,rs_nil]
  by_cases b5:(3:Int) < L.length
  ·have b5':3 < L.length:=by omega
   simp [KF,params,f10,hof,s1,hE1,hE,n1,z1,z2,b1,b2,b3,b4,b5,b5',rs_nil]
  ·have b5':¬ 3 < L.length:=by omega
   have hwi:=fn_waysIn hp hE n2 t L (by omega) o l (by omega) (by omega) 0 0 (Nat.zero_le _) (Nat.zero_le _)
   simp only [List.length_cons,List.length_nil,Nat.zero_add,Nat.reduceAdd] at hwi
   simp [KF,params,f10,hof,s1,hE1,hE,n1,z1,z2,y1,y2,b1,b2,b3,b4,b5,b5',hwi]
theorem rep0 (k:Int) (s:ByteArray):evf fns 60 55 [vsl [(⟨k,s⟩:GType)],vint 0] [] 0 0=some (vsl (List.replicate 0 (⟨k,s⟩:GType)),[]):=by kernel_rfl
theorem rep1 (k:Int) (s:ByteArray):evf fns 60 55 [vsl [(⟨k,s⟩:GType)],vint 1] [] 0 0=some (vsl (List.replicate 1 (⟨k,s⟩:GType)),[]):=by kernel_rfl
theorem rep2 (k:Int) (s:ByteArray):evf fns 60 55 [vsl [(⟨k,s⟩:GType)],vint 2] [] 0 0=some (vsl (List.replicate 2 (⟨k,s⟩:GType)),[]):=by kernel_rfl
theorem rep3 (k:Int) (s:ByteArray):evf fns 60 55 [vsl [(⟨k,s⟩:GType)],vint 3] [] 0 0=some (vsl (List.replicate 3 (⟨k,s⟩:GType)),[]):=by kernel_rfl
theorem fn_repeat (t:GType) (n:Int) (h0:0≤n) (h3:n≤3) (σ:List Ob) (lo tr:Nat):Fn fns 55 [vsl [t],vint n] σ lo tr=some (vsl (List.replicate n.toNat t),σ):=by
 obtain ⟨k,s⟩:=t
 have:n=0∨n=1∨n=2∨n=3:=by omega
 rcases this with rfl | rfl | rfl | rfl
 ·exact fn_run t55 rfl rfl (rep0 k s) σ lo tr
 ·exact fn_run t55 rfl rfl (rep1 k s) σ lo tr
 ·exact fn_run t55 rfl rfl (rep2 k s) σ lo tr
 ·exact fn_run t55 rfl rfl (rep3 k s) σ lo tr
section
variable {p:GProgram} {X:Nat} {S:List Ob}
theorem slots_l0 {B:Bd} {σ:List Ob} (hB:B.lo≤σ.length) (hσ:∀ k,σ.all (Ob.closed (σ.length+k))=true) (L:List GSlot) (hL:L.length≤100000) (k:AExit→St→Option (V × List Ob)):∀ (n i:Nat) (acc:List GType),i+n=L.length→acc.length+n≤200000 →
  K fns B f35_l0 ⟨[(5,.c (.osl 2 (rows acc))),(22,vsl L),(23,vint L.length),(24,vint i)],σ⟩ k=k (.exit 0) ⟨[(5,.c (.osl 2 (rows (acc ++ (L.drop i).map (·.type_)))))],σ⟩:=by
 have hcl0:σ.all (Ob.closed σ.length)=true:=by simpa using hσ 0
 intro n
 induction n with
 | zero =>
  intro i acc hi _
  have hi':i=L.length:=by omega
  subst hi'
  rw [List.drop_length,List.map_nil,List.append_nil,u35_l0]
  simp [f35_b0,hcl0,-List.all_eq_true]
 | succ n ih =>
  intro i acc hi hacc
  have hlt:i < L.length:=by omega
  have hw:=wrap_succ (i:=i) (by omega)
  have hdr:L.drop i=L[i] :: L.drop (i+1):=List.drop_eq_getElem_cons hlt
  have q1:acc.length+1≤70368744177664:=by omega
  have q2:(acc.length+1) * 24≤70368744177664:=by omega
  have:=ih (i+1) (acc ++ [L[i].type_]) (by omega) (by simp;omega)
  rw [List.append_assoc,List.singleton_append] at this
  have ht:∀ a:Ob,List.take σ.length (σ ++ [a])=σ:=fun a=>take_all rfl _
  rw [hdr,List.map_cons,← this,u35_l0]
  generalize hu:L[i]=u
  simp [f35_b0,List.getElem?_append_left,List.getElem?_append_right,List.set_append_right,hlt,hu,hw,hcl0,hB,ht,q1,q2,-List.all_eq_true]
abbrev cWay (w:GWay):Ob:=.cells [.b (.d (.int .i64 w.kind)),.b (.d (.int .i64 w.n)),.b (.d (.int .i64 w.type_.kind)),.b (.d (.str w.type_.name))]
theorem Done.cWay (h:Done p X 1 0 S) (w:GWay):Done p X 1 0 (S ++ [cWay w]):=h.cells (fun k=>by simp [C.closed,B.closed])
theorem fn_slotsIn (hp:OkP p) (hE:layE p=0) (h:Done p X 1 0 S) (w:GWay) (h3:w.kind=3→clsB p w.type_.name=true) (hn:w.kind≠3→0≤w.n∧w.n≤3) (lo tr:Nat) (hlo:lo≤S.length) (htr:tr≤S.length) :
  Fn fns 35 [vptr X,vWay w] S lo tr=some (if w.kind=3 then .c (.osl 2 (rows (slotW p w))) else vsl (slotW p w),S):=by
 have hP:=layE_hier hE
 have hX:=h.lt
 have hm:max lo S.length=S.length:=by omega
 have hmt:max tr S.length=S.length:=by omega
 have hD:=h.cWay w
 rw [fn_eq t35 rfl rfl]
 obtain ⟨k,n,tk,tn⟩:=w
 unfold slotW
 by_cases k3:k=3
 ·subst k3
  have hc:=h3 rfl
  have hs:=fun lo tr=>fn_tabSl1 hp hE hD tn lo tr
  simp only at hc
  rw [hc] at hs
  simp only [if_true] at hs ⊢
  have hlen:=slots_len hp hP hc
  have L0:=fun k=>slots_l0 (B:=⟨S.length,S.length⟩) (by simp) hD.cl (slotsO (allL p) tn) hlen k _ 0 [] (Nat.zero_add _) (by simp;omega)
  rw [List.drop_zero,List.nil_append,rs_nil] at L0
  simp only [Int.natCast_zero] at L0
  generalize slotsO (allL p) tn=Q at *
  simp [KF,params,f35,List.getElem?_append_left,List.getElem?_append_right,hm,hmt,hs,L0]
 ·obtain ⟨n0,n1⟩:=hn k3
  simp only at n0 n1
  simp only [if_neg k3]
  have n2:¬ S.length+1≤S.length:=by omega
  by_cases k5:tk=5
  ·subst k5
   have hr:=fn_repeat ⟨3,tn⟩ n n0 n1
   have e:elemT ⟨5,tn⟩=⟨3,tn⟩:=rfl
   rw [e]
   simp only [vsl,show rows [(⟨3,tn⟩:GType)]=[[.int .i64 3,.str tn]] from rfl] at hr
   generalize List.replicate n.toNat (⟨3,tn⟩:GType)=R at *
   simp [KF,params,f35,List.getElem?_append_left,List.getElem?_append_right,List.set_append_right,hm,hmt,k3,hr,n2]
  ·have hr:=fn_repeat ⟨2,⟨#[]⟩⟩ n n0 n1
   have e:elemT ⟨tk,tn⟩=⟨2,⟨#[]⟩⟩:=by unfold elemT;rw [if_neg k5]
   rw [e]
   simp only [vsl,show rows [(⟨2,⟨#[]⟩⟩:GType)]=[[.int .i64 2,.str ⟨#[]⟩]] from rfl] at hr
   generalize List.replicate n.toNat (⟨2,⟨#[]⟩⟩:GType)=R at *
   simp [KF,params,f35,List.getElem?_append_left,List.getElem?_append_right,List.set_append_right,hm,hmt,k3,k5,hr,n2]
end
theorem own_in {p:GProgram} {s:ByteArray} (h:ownB p s=true):s ∈ namesOf (allL p):=by
 unfold ownB at h
 rw [decide_eq_true_eq] at h
 have e:namesOf (allL p)=namesOf baseL ++ p.classes.map (·.name):=by unfold namesOf allL;rw [List.map_append]
 rw [e]
 exact List.mem_append_right _ h
theorem own_cls {p:GProgram} (s:ByteArray):(ownB p s && clsB p s)=(ownB p s && !(clsN (allL p) s).iface):=by
 cases h:ownB p s with
 | false=>rfl
 | true=>unfold clsB;rw [decide_eq_true (own_in h)];rfl
set_option maxRecDepth 4000 in
theorem fn_lazySlots (p:GProgram) (hp:OkP p) (w:GWay) (σ:List Ob) (lo tr:Nat):Fn fns 12 [vProgram p,vWay w] σ lo tr=some (.tup [vsl (slotWP p w),vint (slotWX p w)],σ):=by
 obtain ⟨S,s1,s2,s3⟩:=fn_tabE hp (av_new p [cP p,cWay w] (fun k=>by simp [Ob.closed,C.closed,B.closed]))
 have hof:=fn_layOf p
 have hE1:=fun lo tr=>fn_tabE1 s2 lo tr
 have hz:S[1]?=some (cWay w):=by rw [s3.2 1 (by simp) (by simp)];rfl
 have z1:=get_lt hz
 have z2:=(List.getElem?_eq_some_iff.mp hz).2
 refine fn_gen t12 rfl (σ1:=[]) rfl rfl ?_ σ lo tr
 simp only [List.length_cons,List.length_nil,Nat.zero_add,Nat.reduceAdd,List.cons_append,List.nil_append] at s1 hE1
 unfold slotWP slotWX
 by_cases hE:layE p=0
 case neg=>simp [KF,params,f12,hof,s1,hE1,hE,rs_nil]
 have hP:=layE_hier hE
 obtain ⟨S1,cl,c1,c2,c3,c4⟩:=fn_tabClsA hp (.inr s2) w.type_.name
 rw [decide_eq_true hE,Bool.and_true] at c1
 have hcl:=c4 hE
 have hD:=c2.cC cl
 obtain ⟨τ,hT,hTr⟩:=fn_tabTree hD
 obtain ⟨az,_,hI⟩:=hT.ok hP
 have ht0:=hI.t
 have htl:τ.length+3 < S1.length:=by
  apply Classical.byContradiction
  intro hn
  have h1:=get_lt ht0
  simp only [List.length_append,List.length_singleton] at h1
  have e:τ.length+3=S1.length:=by omega
  rw [e,List.getElem?_append_right (Nat.le_refl _),Nat.sub_self] at ht0
  simp [cC] at ht0
 rw [List.getElem?_append_left htl] at ht0
 have htg:=(List.getElem?_eq_some_iff.mp ht0).2
 have hz1:S1[1]?=some (cWay w):=by rw [c3.2 1 (by simp) z1];exact hz
 have y1:=get_lt hz1
 have y2:=(List.getElem?_eq_some_iff.mp hz1).2
 have hz2:(S1 ++ [cC cl])[1]?=some (cWay w):=get_app hz1 _
 obtain ⟨S2,n1,n2,n3⟩:=fn_namedIn hp hE hD w.type_
 have hz3:S2[1]?=some (cWay w):=by rw [n3.2 1 (by simp) (get_lt hz2)];exact hz2
 have x1:=get_lt hz3
 have x2:=(List.getElem?_eq_some_iff.mp hz3).2
 have hct:=fn_contains ((namesOf (allL p)).drop 8) w.type_.name (by have:=all_len hp;rw [List.length_drop,namesOf,List.length_map];omega)
 have hown:(((namesOf (allL p)).drop 8).any fun x=>decide (w.type_.name=x))=ownB p w.type_.name:=by
  have e:(namesOf (allL p)).drop 8=p.classes.map (·.name):=rfl
  rw [e]
  unfold ownB
  by_cases h:w.type_.name ∈ p.classes.map (·.name)
  ·rw [decide_eq_true h];exact List.any_eq_true.mpr ⟨_,h,by simp⟩
  ·rw [decide_eq_false h,List.any_eq_false]
   intro x hx
   simp only [decide_eq_true_eq]
   intro e;exact h (e ▸ hx)
 rw [hown] at hct
 have h8:(8:Int)≤(namesOf (allL p)).length:=by simp [namesOf,allL,baseL];omega
 have h8':8≤(namesOf (allL p)).length:=by omega
 simp only [List.length_cons,List.length_nil,Nat.zero_add,Nat.reduceAdd] at c1 hTr n1
 have hsi3:=fun h3 hn=>fn_slotsIn hp hE hD w h3 hn 0 0 (Nat.zero_le _) (Nat.zero_le _)
 have hsi4:=fun h3 hn=>fn_slotsIn hp hE n2 w h3 hn 0 0 (Nat.zero_le _) (Nat.zero_le _)
 simp only [List.length_cons,List.length_nil,Nat.zero_add,Nat.reduceAdd] at hsi3 hsi4
 have hoc:=own_cls (p:=p) w.type_.name
 rw [← hcl] at hoc
 unfold wayOk
 rw [hoc]
 simp only [hE,if_true]
 have ca3:w.kind=3→(ownB p w.type_.name && !cl.iface)=true→clsB p w.type_.name=true:=fun _ h=>by
  rw [← hoc,Bool.and_eq_true] at h
  exact h.2
 generalize hQ:slotW p w=Q at *
 obtain ⟨k,n,tk,tn⟩:=w
 obtain ⟨ca,cb,cc,cd,ce,cf⟩:=cl
 simp only at hsi3 hsi4 ca3 n1 c1 hct hown
 generalize namedT p ⟨tk,tn⟩=nt at *
 generalize ownB p tn=ow at *
 generalize decide (tn ∈ namesOf (allL p))=dn at *
 by_cases k3:k=3
 ·subst k3
  by_cases n0:n=0
  ·subst n0
   by_cases t3:tk=3
   ·subst t3
    cases ow
    ·simp [KF,params,f12,List.getElem?_append_left,List.getElem?_append_right,List.set_append_right,hof,s1,hE1,hE,c1,hTr,htl,htg,hct,z1,z2,y1,y2,h8,h8',rs_nil]
    ·cases cb
     ·have hs:=hsi3 (fun _=>ca3 rfl rfl) (fun h=>absurd rfl h)
      simp only [if_true] at hs
      simp [KF,params,f12,List.getElem?_append_left,List.getElem?_append_right,List.set_append_right,hof,s1,hE1,hE,c1,hTr,htl,htg,hct,z1,z2,y1,y2,h8,h8',hs]
     ·simp [KF,params,f12,List.getElem?_append_left,List.getElem?_append_right,List.set_append_right,hof,s1,hE1,hE,c1,hTr,htl,htg,hct,z1,z2,y1,y2,h8,h8',rs_nil]
   ·simp [KF,params,f12,List.getElem?_append_left,List.getElem?_append_right,List.set_append_right,hof,s1,hE1,hE,c1,hTr,htl,htg,hct,z1,z2,y1,y2,h8,h8',t3,rs_nil]
  ·simp [KF,params,f12,List.getElem?_append_left,List.getElem?_append_right,List.set_append_right,hof,s1,hE1,hE,c1,hTr,htl,htg,hct,z1,z2,y1,y2,h8,h8',n0,rs_nil]
 ·by_cases k4:k=4
  ·subst k4
   by_cases t3:tk=3
   ·subst t3
    simp [KF,params,f12,List.getElem?_append_left,List.getElem?_append_right,List.set_append_right,hof,s1,hE1,hE,c1,hTr,htl,htg,hct,z1,z2,y1,y2,h8,h8',rs_nil]
   ·cases nt
    ·simp [KF,params,f12,List.getElem?_append_left,List.getElem?_append_right,List.set_append_right,hof,s1,hE1,hE,c1,hTr,htl,htg,hct,n1,z1,z2,y1,y2,x1,x2,h8,h8',t3,rs_nil]
    ·by_cases m0:0≤n
     ·by_cases m3:n≤3
      ·have hs:=hsi4 (fun h=>absurd h k3) (fun _=>⟨m0,m3⟩)
       simp only [if_neg k3] at hs
       simp [KF,params,f12,List.getElem?_append_left,List.getElem?_append_right,List.set_append_right,hof,s1,hE1,hE,c1,hTr,htl,htg,hct,n1,z1,z2,y1,y2,x1,x2,h8,h8',t3,m0,m3,hs]
      ·simp [KF,params,f12,List.getElem?_append_left,List.getElem?_append_right,List.set_append_right,hof,s1,hE1,hE,c1,hTr,htl,htg,hct,n1,z1,z2,y1,y2,x1,x2,h8,h8',t3,m0,m3,rs_nil]
     ·simp [KF,params,f12,List.getElem?_append_left,List.getElem?_append_right,List.set_append_right,hof,s1,hE1,hE,c1,hTr,htl,htg,hct,n1,z1,z2,y1,y2,x1,x2,h8,h8',t3,m0,rs_nil]
  ·simp [KF,params,f12,List.getElem?_append_left,List.getElem?_append_right,List.set_append_right,hof,s1,hE1,hE,c1,hTr,htl,htg,hct,z1,z2,y1,y2,h8,h8',k3,k4,rs_nil]
theorem named_right {p:GProgram} (t:GType):namedT p t=((decide (t.kind=3) || (decide (t.kind=4) || decide (t.kind=5))) && rightR p t):=by
 unfold namedT rightR
 by_cases k3:t.kind=3
 ·simp [k3]
 by_cases k5:t.kind=5
 ·simp [k5]
 by_cases k4:t.kind=4
 ·simp [k4]
 ·simp [k3,k4,k5]
theorem at_own (p:GProgram) (s:ByteArray):decide (0≤atI p.classes s)=ownB p s:=by
 unfold ownB
 rcases at_names p.classes s with ⟨h1,h2⟩ | ⟨h1,h2⟩
 ·have h2':¬ s ∈ p.classes.map (·.name):=h2
  rw [decide_eq_false h2',decide_eq_false (by omega)]
 ·have h2':s ∈ p.classes.map (·.name):=h2
  rw [decide_eq_true h2',decide_eq_true (by omega)]
abbrev sNode:ByteArray:=⟨#[78,111,100,101]⟩
abbrev tNode:GType:=⟨3,sNode⟩
def pRing:GProgram:=⟨[⟨sNode,false,⟨#[]⟩,[],[⟨⟨#[110,101,120,116]⟩,tNode,false⟩],[⟨⟨#[109]⟩,true,false,[tNode],⟨2,⟨#[]⟩⟩,1,[⟨1,1,⟨#[]⟩,⟨#[]⟩⟩,⟨41,0,⟨#[]⟩,⟨#[]⟩⟩],[]⟩]⟩]⟩
theorem ring_ok:OkP pRing:=okP (by kernel_rfl)
theorem ring_ways:waysP pRing tNode [tNode] 2 0=[⟨1,0,tyZ⟩,⟨2,0,tyZ⟩,⟨3,0,tNode⟩]:=by kernel_rfl
theorem ring_waysX:waysX pRing tNode [tNode] 2 0=0:=by kernel_rfl
theorem ring_none:waysP pRing tNode [] 0 0=[⟨1,0,tyZ⟩]:=by kernel_rfl
theorem ring_noneX:waysX pRing tNode [] 0 0=0:=by kernel_rfl
theorem ring_slots:slotWP pRing ⟨3,0,tNode⟩=[tNode]:=by kernel_rfl
theorem ring_slotsX:slotWX pRing ⟨3,0,tNode⟩=0:=by kernel_rfl
theorem ringP_run:evf fns 40 37 [] [] 0 0=some (vProgram pRing,[]):=by kernel_rfl
theorem fn_ringP (σ:List Ob) (lo tr:Nat):Fn fns 37 [] σ lo tr=some (vProgram pRing,σ):=fn_run t37 rfl rfl ringP_run σ lo tr
set_option maxRecDepth 4000 in
theorem fn_wakesL (σ:List Ob) (lo tr:Nat):Fn fns 16 [] σ lo tr=some (vbool true,σ):=by
 refine fn_gen t16 rfl (σ1:=[]) rfl rfl ?_ σ lo tr
 have h1:=fn_lazyWays pRing ring_ok tNode [tNode] (by simp) 2 0
 rw [ring_ways,ring_waysX] at h1
 have h2:=fn_lazyWays pRing ring_ok tNode [] (by simp) 0 0
 rw [ring_none,ring_noneX] at h2
 have h3:=fn_lazySlots pRing ring_ok ⟨3,0,tNode⟩
 rw [ring_slots,ring_slotsX] at h3
 have hs:=fn_ringP
 simp only [vProgram] at h1 h2 h3 hs
 generalize pRing.classes=l at *
 have r1:rows [tNode]=[[.int .i64 3,.str sNode]]:=rfl
 simp only [vsl,r1,rs_nil] at h1 h2 h3
 simp [KF,params,f16,rs_nil,List.getElem?_append_left,List.getElem?_append_right,List.set_append_left,List.set_append_right,hs,h1,h2,h3]
end
end Go.Proofs.YteeofkbhopioiaaGreatDoor.Am
