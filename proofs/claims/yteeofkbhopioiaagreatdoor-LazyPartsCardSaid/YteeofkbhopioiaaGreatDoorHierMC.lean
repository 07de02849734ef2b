/- Lemmas that the rows' proofs rest on; each states its own conditions. -/
import Derived.Test.YteeofkbhopioiaaGreatDoorHierMB
import Derived.Test.YteeofkbhopioiaaGreatDoorMachF
namespace Go.Proofs.YteeofkbhopioiaaGreatDoor.Am
set_option linter.unusedSimpArgs false
set_option linter.unusedVariables false
set_option linter.unusedSectionVars false
open Go
section
attribute [local simp ↓] K_seq K_cond K_block K_region K_skip K_exit K_ret K_wrap KA_nil KA_none KA_some str_eq
attribute [local simp] beq_int bne_int dec_eqN dec_ltN dec_leN stepOp St.rd St.raw St.set St.took get_cons V.down C.down Env.keep binV unV arith isShift strs intOf optInt wrapEnd keptAt andK endOf frzV frz1 frzC frzCs frz1s resOf resOne resAll V.closed V.closed1 C.closed B.closed Ob.closed V.cells partsIn rep chunk datas C.data rowsOf getCells put_nil put_zero put_succ mayWrite C.plain eqV_bool eqV_agg eqV_pnn eqV_pnp eqV_ppn eqV_mnn eqV_mmn eqV_snn eqV_sen eqV_san eqV_sdn rs_len rs_getE rs_app rs_take rs_drop rs_all rs_each row_len str_nilP str_nilE str_nilB vagg row_Int row_Bool row_Str k_Int k_Bool k_Str snoc_Int snoc_Bool snoc_Str row_Type k_Type snoc_Type eta_Type sames_Type row_Field k_Field snoc_Field eta_Field sames_Field row_Instr k_Instr snoc_Instr eta_Instr sames_Instr row_Catch k_Catch snoc_Catch eta_Catch sames_Catch row_Method k_Method snoc_Method row_Class k_Class snoc_Class row_Program k_Program snoc_Program row_Slot k_Slot snoc_Slot eta_Slot sames_Slot row_Way k_Way snoc_Way eta_Way sames_Way
def updL (m:List GClass) (c:GClass):List GClass:=match m.findIdx? (fun x:GClass=>decide (x.name=c.name)) with
 | some j=>m.set j c
 | none=>m ++ [c]
def mapL (l:List GClass):List GClass:=l.foldl updL []
theorem mapL_snoc (l:List GClass) (c:GClass):mapL (l ++ [c])=updL (mapL l) c:=by simp [mapL]
theorem got_U (m:List GClass) (c:GClass):∃ r,findKey [2] (vstr c.name) (entC m) 0=some r∧((r=none∧entC m ++ [(vstr c.name,vClass c)]=entC (updL m c))∨∃ i v,r=some (i,v)∧(entC m).set i (vstr c.name,vClass c)=entC (updL m c)):=by
 refine ⟨_,find_key (fun c:GClass=>c.name) (fun c=>vClass c) c.name m 0,?_⟩
 unfold updL
 cases hq:m.findIdx? (fun x:GClass=>decide (x.name=c.name)) with
 | none=>exact Or.inl ⟨rfl,by simp [entC]⟩
 | some j =>
  have hj:j < m.length:=by
   rw [List.findIdx?_eq_some_iff_getElem] at hq;exact hq.1
  refine Or.inr ⟨j,vClass m[j],by simp [hj],?_⟩
  simp [entC,List.map_set]
theorem entC_closed (l:List GClass) (n:Nat):Ob.closed n (.map (entC l))=true:=by
 simp [Ob.closed,entC,V.closed1,C.closed,B.closed]
abbrev cT (own E:Int) (names:List ByteArray) (A M:Nat):Ob:=.cells [.b (.d (.int .i64 own)),.osl 1 (rows names),.b (.d (.int .i64 E)),.b (.map A),.b (.map M)]
structure Inv0 (σ S:List Ob) (m:List GClass) (own:Int) (names:List ByteArray):Prop where
 pre:∃ X,S=σ ++ X
 t:S[σ.length+3]?=some (cT own 0 names (σ.length+1) (σ.length+2))
 a:S[σ.length+1]?=some (.map (entC m))
 m:S[σ.length+2]?=some (.map [])
 cl:∀ k,S.all (Ob.closed (S.length+k))=true
theorem pre_set {σ S:List Ob} (h:∃ X,S=σ ++ X) (j:Nat) (x:Ob):∃ X,S.set (σ.length+j) x=σ ++ X:=by
 obtain ⟨X,rfl⟩:=h
 exact ⟨X.set j x,by rw [List.set_append_right _ _ (Nat.le_add_right _ _)];simp⟩
theorem pre_app {σ S:List Ob} (h:∃ X,S=σ ++ X) (Y:List Ob):∃ X,S ++ Y=σ ++ X:=by
 obtain ⟨X,rfl⟩:=h
 exact ⟨X ++ Y,by simp⟩
section
variable {σ:List Ob} {lo tr:Nat}
theorem of_l0 (hlo:lo≤σ.length) (htr:tr≤σ.length) (L:List GClass) (hL:L.length≤100):∀ (n i:Nat) (S:List Ob),i+n=L.length→Inv0 σ S (mapL (L.take i)) 8 (namesOf (L.take i))→∃ S',Inv0 σ S' (mapL L) 8 (namesOf L) ∧
  ∀ k:AExit→St→Option (V × List Ob),K fns ⟨lo,tr⟩ f46_l0 ⟨[(3,vptr (σ.length+3)),(4,vsl L),(34,vsl L),(35,vint L.length),(36,vint i)],S⟩ k=k (.exit 0) ⟨[(3,vptr (σ.length+3)),(4,vsl L)],S'⟩:=by
 intro n
 induction n with
 | zero =>
  intro i S hi h
  have hi':i=L.length:=by omega
  subst hi'
  rw [List.take_length] at h
  refine ⟨S,h,fun k=>?_⟩
  rw [u46_l0]
  simp [f46_b0]
 | succ n ih =>
  intro i S hi h
  have hlt:i < L.length:=by omega
  have hw:=wrap_succ (i:=i) (by omega)
  have htk:L.take (i+1)=L.take i ++ [L[i]]:=by simp
  have hT:=get_lt h.t
  have hA:=get_lt h.a
  have hM:=get_lt h.m
  have ht:=(List.getElem?_eq_some_iff.mp h.t).2
  have ha:=(List.getElem?_eq_some_iff.mp h.a).2
  obtain ⟨r,g1,g2⟩:=got_U (mapL (L.take i)) L[i]
  have hnl:(namesOf (L.take i)).length=i:=by simp [namesOf];omega
  have inv:Inv0 σ ((S.set (σ.length+3) (cT 8 0 (namesOf (L.take (i+1))) (σ.length+1) (σ.length+2))).set (σ.length+1) (.map (entC (mapL (L.take (i+1))))) ++ [cC L[i]]) (mapL (L.take (i+1))) 8 (namesOf (L.take (i+1))):=by
   refine ⟨pre_app (pre_set (pre_set h.pre _ _) _ _) _,?_,?_,?_,?_⟩
   ·rw [List.getElem?_append_left (by simpa using hT),List.getElem?_set_ne (by omega),List.getElem?_set_self hT]
   ·rw [List.getElem?_append_left (by simpa using hA),List.getElem?_set_self (by simpa using hA)]
   ·rw [List.getElem?_append_left (by simpa using hM),List.getElem?_set_ne (by omega),List.getElem?_set_ne (by omega)];exact h.m
   ·intro k
    have e:((S.set (σ.length+3) (cT 8 0 (namesOf (L.take (i+1))) (σ.length+1) (σ.length+2))).set (σ.length+1) (.map (entC (mapL (L.take (i+1))))) ++ [cC L[i]]).length+k=S.length+(1+k):=by simp;omega
    rw [e,List.all_append,all_set (all_set (h.cl (1+k)) ?_) (entC_closed _ _)]
    ·simp [Ob.closed,C.closed,B.closed]
    ·simp [Ob.closed,C.closed,B.closed];omega
  obtain ⟨S',i1,i2⟩:=ih (i+1) _ (by omega) inv
  refine ⟨S',i1,fun k=>?_⟩
  rw [← i2 k,u46_l0]
  have q1:(namesOf (L.take i)).length+1≤70368744177664:=by omega
  have q2:((namesOf (L.take i)).length+1) * 16≤70368744177664:=by omega
  have l1:lo≤σ.length+3:=by omega
  have l2:lo≤σ.length+1:=by omega
  have l3:lo≤S.length:=by omega
  have l4:tr≤σ.length+3:=by omega
  have l5:tr≤σ.length+1:=by omega
  have l6:tr≤S.length:=by omega
  have e1:namesOf (L.take (i+1))=namesOf (L.take i) ++ [L[i].name]:=by rw [htk,namesOf,List.map_append];rfl
  have e2:mapL (L.take (i+1))=updL (mapL (L.take i)) L[i]:=by rw [htk,mapL_snoc]
  rw [e1,e2]
  generalize namesOf (L.take i)=N at *
  generalize mapL (L.take i)=m0 at *
  rcases g2 with ⟨g3,g4⟩ | ⟨j,v,g3,g4⟩
  ·subst g3
   rw [← g4]
   simp [f46_b0,List.getElem?_append_left,List.getElem?_append_right,List.set_append_left,List.set_append_right,hlt,hw,hT,hA,ht,ha,q1,q2,l1,l2,l3,l4,l5,l6,mapOf,keyShape,g1]
  ·subst g3
   rw [← g4]
   simp [f46_b0,List.getElem?_append_left,List.getElem?_append_right,List.set_append_left,List.set_append_right,hlt,hw,hT,hA,ht,ha,q1,q2,l1,l2,l3,l4,l5,l6,mapOf,keyShape,g1]
def entM (az:List (ByteArray × Nat)):List (V × V):=az.map fun x=>(vstr x.1,.c (.b (.map x.2)))
structure Inv1 (σ S:List Ob) (l:List GClass) (az:List (ByteArray × Nat)):Prop where
 pre:∃ X,S=σ ++ X
 t:S[σ.length+3]?=some (cT 8 0 (namesOf l) (σ.length+1) (σ.length+2))
 a:S[σ.length+1]?=some (.map (entC l))
 m:S[σ.length+2]?=some (.map (entM az))
 up:∀ x ∈ az,σ.length+3 < x.2∧S[x.2]?=some (.map (entS (dfs l 200 [sObject] x.1)))
 cl:∀ k,S.all (Ob.closed (S.length+k))=true
theorem of_l1 (hlo:lo≤σ.length) (htr:tr≤σ.length) (l:List GClass) (hl:l.length≤100) (hc:∀ c ∈ l,OkC c) (hw:Whole l) (hnd:(namesOf l).Nodup) (hob:sObject ∈ namesOf l):∀ (n i:Nat) (S:List Ob) (az:List (ByteArray × Nat)),i+n=(namesOf l).length→az.map (·.1)=(namesOf l).take i→Inv1 σ S l az→∃ S' az',az'.map (·.1)=namesOf l∧Inv1 σ S' l az' ∧
  ∀ k:AExit→St→Option (V × List Ob),K fns ⟨lo,tr⟩ f46_l1 ⟨[(3,vptr (σ.length+3)),(99,vsl (namesOf l)),(100,vint (namesOf l).length),(101,vint i)],S⟩ k=k (.exit 3) ⟨[(3,vptr (σ.length+3))],S'⟩:=by
 have hnlen:(namesOf l).length=l.length:=by simp [namesOf]
 intro n
 induction n with
 | zero =>
  intro i S az hi has h
  have hi':i=(namesOf l).length:=by omega
  subst hi'
  rw [List.take_length] at has
  refine ⟨S,az,has,h,fun k=>?_⟩
  rw [u46_l1]
  simp [f46_b1]
 | succ n ih =>
  intro i S az hi has h
  have hlt:i < (namesOf l).length:=by omega
  have hw1:=wrap_succ (i:=i) (by omega)
  have hT:=get_lt h.t
  have hA:=get_lt h.a
  have hM:=get_lt h.m
  have ht:=(List.getElem?_eq_some_iff.mp h.t).2
  have ha:=(List.getElem?_eq_some_iff.mp h.a).2
  have hmm:=(List.getElem?_eq_some_iff.mp h.m).2
  have hsin:(namesOf l)[i] ∈ namesOf l:=List.getElem_mem hlt
  have htk:(namesOf l).take (i+1)=(namesOf l).take i ++ [(namesOf l)[i]]:=by simp
  have hnew:az.findIdx? (fun x=>decide (x.1=(namesOf l)[i]))=none:=by
   rw [List.findIdx?_eq_none_iff]
   intro x hx
   have h1:x.1 ∈ (namesOf l).take i:=by rw [← has];exact List.mem_map_of_mem hx
   simp only [decide_eq_false_iff_not]
   intro e
   rw [e] at h1
   obtain ⟨j,hj,hje⟩:=List.mem_iff_getElem.mp h1
   rw [List.getElem_take] at hje
   have hj':j < i:=by rw [List.length_take] at hj;omega
   exact List.pairwise_iff_getElem.mp hnd j i (by omega) hlt hj' hje
  generalize hs:(namesOf l)[i]=s at *
  have k1:findKey [2] (vstr s) (entM az) 0=some none:=by
   have:=find_key (fun x:ByteArray × Nat=>x.1) (fun x=>.c (.b (.map x.2))) s az 0
   rw [hnew] at this
   exact this
  have k2:∃ j,findKey [2] (vstr s) (entM az ++ [(vstr s,.c (.b (.map S.length)))]) 0=some (some (j,.c (.b (.map S.length)))):=by
   have:=find_key (fun x:ByteArray × Nat=>x.1) (fun x=>.c (.b (.map x.2))) s (az ++ [(s,S.length)]) 0
   have e:(az ++ [(s,S.length)]).findIdx? (fun x=>decide (x.1=s))=some az.length:=by
    rw [List.findIdx?_append,hnew]
    simp
   rw [e] at this
   refine ⟨0+az.length,?_⟩
   simpa [entM] using this
  obtain ⟨j,k2⟩:=k2
  have hem:entM az ++ [(vstr s,.c (.b (.map S.length)))]=entM (az ++ [(s,S.length)]):=by simp [entM]
  have mcl:∀ (bs:List (ByteArray × Nat)) (n:Nat),(∀ x ∈ bs,x.2 < n)→Ob.closed n (.map (entM bs))=true:=by
   intro bs n hb
   simp only [Ob.closed,entM,List.all_map,List.all_eq_true]
   intro x hx
   simp [V.closed1,C.closed,B.closed,hb x hx]
  have hup:∀ x ∈ az ++ [(s,S.length)],x.2 < S.length+1:=by
   intro x hx
   rcases List.mem_append.mp hx with a | a
   ·have:=get_lt (h.up x a).2;omega
   ·simp at a;subst a;simp
  have cl1:∀ (y:Ob),(∀ n,Ob.closed n y=true)→∀ k,(S.set (σ.length+2) (.map (entM (az ++ [(s,S.length)]))) ++ [y]).all (Ob.closed ((S.set (σ.length+2) (.map (entM (az ++ [(s,S.length)]))) ++ [y]).length+k))=true:=by
   intro y hy k
   have e:(S.set (σ.length+2) (.map (entM (az ++ [(s,S.length)]))) ++ [y]).length+k=S.length+(1+k):=by simp;omega
   rw [e,List.all_append,all_set (h.cl (1+k)) (mcl _ _ fun x hx=>by have:=hup x hx;omega)]
   simp only [List.all_cons,List.all_nil,hy,Bool.and_self]
  have tree1:∀ y:Ob,TreeAt (S.set (σ.length+2) (.map (entM (az ++ [(s,S.length)]))) ++ [y]) (σ.length+3) (σ.length+1) (σ.length+2) 8 0 (namesOf l) l:=fun y =>
   (TreeAt.set (m:=σ.length+2) ⟨h.t,h.a⟩ (by omega) (by omega) _).app _
  have hcall:∀ tr',Fn fns 71 [vptr (σ.length+3),vstr s,.c (.b (.map S.length))] (S.set (σ.length+2) (.map (entM (az ++ [(s,S.length)]))) ++ [Ob.map (entS [sObject])]) lo tr'=some (.tup [],S.set (σ.length+2) (.map (entM (az ++ [(s,S.length)]))) ++ [Ob.map (entS (dfs l 200 [sObject] s))]):=by
   intro tr'
   have hset:∀ y:Ob,(S.set (σ.length+2) (.map (entM (az ++ [(s,S.length)]))) ++ [Ob.map []]).set S.length y=S.set (σ.length+2) (.map (entM (az ++ [(s,S.length)]))) ++ [y]:=fun y=>by
    rw [List.set_append_right _ _ (by simp)];simp
   have:=fn_climb (m:=S.length) (tree1 (Ob.map [])) (by omega) (by omega) (by simp) hl hc hw (cl1 _ (fun _=>rfl)) 200 [sObject] s lo tr' ⟨by simp,by simpa using hob⟩ hsin (by simp;split<;>omega) (by omega)
   rwa [hset,hset] at this
  have inv:Inv1 σ (S.set (σ.length+2) (.map (entM (az ++ [(s,S.length)]))) ++ [Ob.map (entS (dfs l 200 [sObject] s))]) l (az ++ [(s,S.length)]):=by
   refine ⟨pre_app (pre_set h.pre _ _) _,(tree1 _).t,(tree1 _).a,?_,?_,cl1 _ (entS_closed _)⟩
   ·rw [List.getElem?_append_left (by simpa using hM),List.getElem?_set_self hM]
   ·intro x hx
    rcases List.mem_append.mp hx with a | a
    ·obtain ⟨u1,u2⟩:=h.up x a
     refine ⟨u1,?_⟩
     rw [List.getElem?_append_left (by simpa using get_lt u2),List.getElem?_set_ne (by omega)];exact u2
    ·simp at a;subst a
     exact ⟨by omega,by simp⟩
  obtain ⟨S',az',j1,j2,j3⟩:=ih (i+1) _ (az ++ [(s,S.length)]) (by omega) (by rw [List.map_append,has,htk];rfl) inv
  refine ⟨S',az',j1,j2,fun k=>?_⟩
  rw [← j3 k,u46_l1]
  have l1:lo≤σ.length+2:=by omega
  have l3:lo≤S.length:=by omega
  have l4:tr≤σ.length+2:=by omega
  have l6:tr≤S.length:=by omega
  have he0:[(vstr sObject,vbool true)]=entS [sObject]:=rfl
  have kf:findKey [2] (vstr sObject) [] 0=some none:=rfl
  generalize dfs l 200 [sObject] s=d at *
  rw [← hem] at hcall ⊢
  simp only [← he0] at hcall
  simp [f46_b1,List.getElem?_append_left,List.getElem?_append_right,List.set_append_left,List.set_append_right,hlt,hs,hw1,hT,hA,hM,ht,ha,hmm,l1,l3,l4,l6,mapOf,keyShape,k1,k2,kf,got,hcall]
end
theorem updL_len (m:List GClass) (c:GClass):(updL m c).length≤m.length+1:=by
 unfold updL;split<;>simp
theorem mapL_eq {l:List GClass} (h:¬ (mapL l).length < l.length):mapL l=l∧(namesOf l).Nodup:=by
 have key:∀ (l m:List GClass),(namesOf m).Nodup→m.length+l.length≤(l.foldl updL m).length→l.foldl updL m=m ++ l∧(namesOf (m ++ l)).Nodup:=by
  intro l
  induction l with
  | nil=>intro m hm _;simpa using hm
  | cons c t ih =>
   intro m hm hlen
   have hkey:∀ (t m:List GClass),(t.foldl updL m).length≤m.length+t.length:=by
    intro t
    induction t with
    | nil=>intro m;simp
    | cons c t ih =>
     intro m
     have h1:=ih (updL m c)
     have h2:=updL_len m c
     simp only [List.foldl_cons,List.length_cons];omega
   rw [List.foldl_cons] at hlen ⊢
   have h1:=hkey t (updL m c)
   simp only [List.length_cons] at hlen
   cases hq:m.findIdx? (fun x:GClass=>decide (x.name=c.name)) with
   | some j =>
    have:updL m c=m.set j c:=by simp [updL,hq]
    rw [this,List.length_set] at h1
    rw [this] at hlen
    omega
   | none =>
    have hu:updL m c=m ++ [c]:=by simp [updL,hq]
    rw [hu] at hlen ⊢
    have hnot:c.name ∉ namesOf m:=by
     intro hx
     obtain ⟨d,hd,hde⟩:=List.mem_map.mp hx
     rw [List.findIdx?_eq_none_iff] at hq
     simpa [hde] using hq d hd
    have hnd:(namesOf (m ++ [c])).Nodup:=by
     unfold namesOf at *
     rw [List.map_append,List.nodup_append]
     refine ⟨hm,by simp,?_⟩
     rintro a ha b hb rfl
     simp at hb;subst hb;exact hnot ha
    obtain ⟨a,b⟩:=ih (m ++ [c]) hnd (by simp;omega)
    rw [a]
    simp only [List.append_assoc,List.singleton_append] at b ⊢
    exact ⟨trivial,b⟩
 have:=key l [] (by simp [namesOf]) (by simp only [List.length_nil];unfold mapL at h;omega)
 simpa [mapL] using this
theorem find_name {l:List GClass} {s:ByteArray} (h:s ∈ namesOf l):∃ c,findC l s=some c∧c ∈ l∧c.name=s:=by
 unfold findC
 cases hf:l.find? (fun c:GClass=>decide (c.name=s)) with
 | none =>
  obtain ⟨d,hd,hde⟩:=List.mem_map.mp h
  have:=List.find?_eq_none.mp hf d hd
  simp [hde] at this
 | some c=>exact ⟨c,rfl,find_mem hf⟩
theorem whole_of {l:List GClass} (h:l.any (lostB l)=false):Whole l:=by
 intro s hs x hx
 obtain ⟨c,h1,h2,h3⟩:=find_name hs
 have hl:lostB l c=false:=by simpa using List.any_eq_false.mp h c h2
 have hq:∀ y,findC l y≠none→y ∈ namesOf l:=fun y hy=>by
  cases hf:findC l y with
  | none=>exact absurd hf hy
  | some d=>exact List.mem_map.mpr ⟨d,find_mem hf⟩
 rw [lostB_eq] at hl
 simp only [Bool.or_eq_false_iff,Bool.and_eq_false_iff,Bool.not_eq_false',decide_eq_true_eq] at hl
 have hx':x ∈ nextP c:=by simpa [nx,h1] using hx
 unfold nextP at hx'
 rcases List.mem_append.mp hx' with a | a
 ·have:=List.any_eq_false.mp hl.2 x a
  apply hq
  intro hn
  apply this
  have hn':l.find? (fun y:GClass=>decide (y.name=x))=none:=hn
  simp [noIf,hn']
 ·by_cases hz:superL c=⟨#[]⟩
  ·simp [hz] at a
  ·simp only [hz,if_false,List.mem_singleton] at a
   subst a
   rcases hl.1 with b | b
   ·exact absurd b hz
   ·apply hq
    intro hn
    have hn':l.find? (fun y:GClass=>decide (y.name=superL c))=none:=hn
    simp [noSup,hn'] at b
def hierP (p:GProgram):Int:=bif progB p then (bif decide ((mapL (allL p)).length < (allL p).length) then 6 else bif (allL p).any (lostB (allL p)) then 5 else bif (namesOf (allL p)).any (ringP (allL p)) then 7 else 0) else 4
structure TreeOk (σ S:List Ob) (p:GProgram):Prop where
 pre:∃ X,S=σ ++ X
 cl:∀ k,S.all (Ob.closed (S.length+k))=true
 t:∃ own names l,TreeAt S (σ.length+3) (σ.length+1) (σ.length+2) own (hierP p) names l
 ok:hierP p=0→∃ az,az.map (·.1)=namesOf (allL p)∧Inv1 σ S (allL p) az
theorem obj_in (p:GProgram):sObject ∈ namesOf (allL p):=by
 simp [namesOf,allL,baseL]
theorem Inv0.setE {σ S:List Ob} {m:List GClass} {own:Int} {names:List ByteArray} (h:Inv0 σ S m own names) (E:Int):(∃ X,S.set (σ.length+3) (cT own E names (σ.length+1) (σ.length+2))=σ ++ X)∧(∀ k,(S.set (σ.length+3) (cT own E names (σ.length+1) (σ.length+2))).all (Ob.closed ((S.set (σ.length+3) (cT own E names (σ.length+1) (σ.length+2))).length+k))=true)∧TreeAt (S.set (σ.length+3) (cT own E names (σ.length+1) (σ.length+2))) (σ.length+3) (σ.length+1) (σ.length+2) own E names m:=by
 have hT:=get_lt h.t
 refine ⟨pre_set h.pre _ _,fun k=>?_,?_,?_⟩
 ·rw [List.length_set]
  refine all_set (h.cl k) ?_
  simp [Ob.closed,C.closed,B.closed];omega
 ·rw [List.getElem?_set_self hT]
 ·rw [List.getElem?_set_ne (by omega)];exact h.a
theorem fn_of (p:GProgram) (hp:OkP p) {σ:List Ob} {lo tr:Nat} (hlo:lo≤σ.length) (htr:tr≤σ.length) (hσ:∀ k,σ.all (Ob.closed (σ.length+k))=true):∃ S,Fn fns 46 [vProgram p] σ lo tr=some (vptr (σ.length+3),S)∧TreeOk σ S p:=by
 rw [fn_eq t46 rfl rfl]
 have hch:=fn_check0 p hp
 have hL:=all_len hp
 have hcs:=allL_ok hp
 have l1:lo≤σ.length+3:=by omega
 have l3:tr≤σ.length+3:=by omega
 cases hpb:progB p
 ·rw [hpb] at hch
  refine ⟨σ ++ [cP p,.map [],.map [],cT 0 4 [] (σ.length+1) (σ.length+2)],?_,?_⟩
  ·simp only [cond_false] at hch
   have hr:rows ([]:List ByteArray)=[]:=rfl
   simp [KF,params,f46,List.getElem?_append_right,hch,hr]
  ·have hE:hierP p=4:=by simp [hierP,hpb]
   refine ⟨⟨_,rfl⟩,fun k=>?_,⟨0,[],[],?_⟩,fun h=>by rw [hE] at h;cases h⟩
   ·have:=hσ (4+k)
    simp only [List.length_append,List.all_append,List.length_cons,List.length_nil,Nat.zero_add,Nat.reduceAdd,Nat.add_assoc,this]
    simp [Ob.closed,C.closed,B.closed];omega
   ·rw [hE]
    exact ⟨by simp [List.getElem?_append_right],by simp [List.getElem?_append_right,entC]⟩
 rw [hpb] at hch
 simp only [cond_true] at hch
 have hbl:baseL.length=8:=rfl
 have hw8:IntKind.i64.wrap (((8+p.classes.length:Nat):Int) - (p.classes.length:Int))=8:=by rw [wrap_nat (by have:=hp.len;omega) (by have:=hp.len;omega)];omega
 have q1:8+p.classes.length≤70368744177664:=by have:=hp.len;omega
 have q2:(8+p.classes.length) * 112≤70368744177664:=by have:=hp.len;omega
 have inv0:Inv0 σ (σ ++ [cP p,.map [],.map [],cT 8 0 [] (σ.length+1) (σ.length+2)]) (mapL ((allL p).take 0)) 8 (namesOf ((allL p).take 0)):=by
  refine ⟨⟨_,rfl⟩,by simp [List.getElem?_append_right,namesOf],by simp [List.getElem?_append_right,mapL,entC],by simp [List.getElem?_append_right],fun k=>?_⟩
  have:=hσ (4+k)
  simp only [List.length_append,List.all_append,List.length_cons,List.length_nil,Nat.zero_add,Nat.reduceAdd,Nat.add_assoc,this]
  simp [Ob.closed,C.closed,B.closed];omega
 obtain ⟨S1,i1,i2⟩:=of_l0 hlo htr (allL p) hL (allL p).length 0 _ (by omega) inv0
 simp only [Int.natCast_zero] at i2
 have hal:allL p=baseL ++ p.classes:=rfl
 have hT:=get_lt i1.t
 have hA:=get_lt i1.a
 have ht:=(List.getElem?_eq_some_iff.mp i1.t).2
 have ha:=(List.getElem?_eq_some_iff.mp i1.a).2
 obtain ⟨X1,hX1⟩:=i1.pre
 have hSl:σ.length≤S1.length:=by rw [hX1];simp
 have hlen8:(allL p).length=8+p.classes.length:=by simp [allL,hbl]
 have hal':baseL ++ p.classes=allL p:=rfl
 have hr:rows ([]:List ByteArray)=[]:=rfl
 have h35:((allL p).length:Int)=8+(p.classes.length:Int):=by rw [hlen8];simp
 have w8:IntKind.i64.wrap 8=8:=by decide
 have hec:∀ l:List GClass,(entC l).length=l.length:=fun l=>by simp [entC]
 rw [h35] at i2
 simp only [cT,hr] at i2
 have hcl1:=i1.cl
 have tree1:TreeAt S1 (σ.length+3) (σ.length+1) (σ.length+2) 8 0 (namesOf (allL p)) (mapL (allL p)):=⟨i1.t,i1.a⟩
 by_cases htw:(mapL (allL p)).length < (allL p).length
 ·
  have hE:hierP p=6:=by simp [hierP,hpb,htw]
  obtain ⟨e1,e2,e3⟩:=i1.setE 6
  refine ⟨S1.set (σ.length+3) (cT 8 6 (namesOf (allL p)) (σ.length+1) (σ.length+2)),?_,e1,e2,⟨_,_,_,by rw [hE];exact e3⟩,fun h=>by rw [hE] at h;cases h⟩
  have htw':((mapL (allL p)).length:Int) < 8+(p.classes.length:Int):=by omega
  generalize mapL (allL p)=ml at *
  generalize namesOf (allL p)=nl at *
  simp [KF,params,f46,List.getElem?_append_right,List.set_append_right,hch,fn_always,hbl,w8,q1,q2,hr,hal',hlen8,hec,l1,l3,i2,hT,hA,ht,ha,htw']
 obtain ⟨hml,hnd⟩:=mapL_eq htw
 have hE0:hierP p=bif (allL p).any (lostB (allL p)) then 5 else bif (namesOf (allL p)).any (ringP (allL p)) then 7 else 0:=by simp [hierP,hpb,htw]
 rw [hml] at tree1 htw
 have ha:=(List.getElem?_eq_some_iff.mp tree1.a).2
 have htw':¬ (((allL p).length:Int) < 8+(p.classes.length:Int)):=by omega
 have l5:lo≤S1.length:=by omega
 have hTl:∀ k,σ.length+3 < S1.length+k:=fun k=>by omega
 have hlost:∀ tr',Fn fns 67 [vsl (allL p),.c (.fn 68 [.ptr (σ.length+3) 0] [])] S1 lo tr'=some (vbool ((allL p).any (lostB (allL p))),S1):=fun tr' =>
  fn_contC (allL p) 68 [.ptr (σ.length+3) 0] [] S1 lo tr' l5 (by simp [C.closed,B.closed]) (by simp [C.closed,B.closed];exact hT) (by simpa using hcl1 0) (by omega) (lostB (allL p))
   (fun i hi tr''=>fn_lost tree1 (allL p)[i] (hcs _ (List.getElem_mem hi)) _ _ (Nat.le_refl _) hcl1)
 cases hlo1:(allL p).any (lostB (allL p))
 case true =>
  have hE:hierP p=5:=by simp [hE0,hlo1]
  rw [hlo1] at hlost
  obtain ⟨e1,e2,e3⟩:=i1.setE 5
  rw [hml] at e3
  refine ⟨S1.set (σ.length+3) (cT 8 5 (namesOf (allL p)) (σ.length+1) (σ.length+2)),?_,e1,e2,⟨_,_,_,by rw [hE];exact e3⟩,fun h=>by rw [hE] at h;cases h⟩
  generalize namesOf (allL p)=nl at *
  simp [KF,params,f46,List.getElem?_append_right,List.set_append_right,bsOf,hch,fn_always,hbl,w8,q1,q2,hr,hal',hlen8,hec,l1,l3,i2,hT,hA,ht,ha,htw',hlost]
 have hw:=whole_of hlo1
 rw [hlo1] at hlost
 have hring:∀ tr',Fn fns 69 [vsl (namesOf (allL p)),.c (.fn 70 [.ptr (σ.length+3) 0] [])] S1 lo tr'=some (vbool ((namesOf (allL p)).any (ringP (allL p))),S1):=fun tr' =>
  fn_contS (namesOf (allL p)) 70 [.ptr (σ.length+3) 0] [] S1 lo tr' l5 (by simp [C.closed,B.closed]) (by simp [C.closed,B.closed];exact hT) (by simpa using hcl1 0) (by simp [namesOf];omega) (ringP (allL p))
   (fun i hi tr''=>fn_ring tree1 hL hcs hw hcl1 _ (List.getElem_mem hi) _ _ (Nat.le_refl _))
 cases hri:(namesOf (allL p)).any (ringP (allL p))
 case true =>
  have hE:hierP p=7:=by simp [hE0,hlo1,hri]
  rw [hri] at hring
  obtain ⟨e1,e2,e3⟩:=i1.setE 7
  rw [hml] at e3
  refine ⟨S1.set (σ.length+3) (cT 8 7 (namesOf (allL p)) (σ.length+1) (σ.length+2)),?_,e1,e2,⟨_,_,_,by rw [hE];exact e3⟩,fun h=>by rw [hE] at h;cases h⟩
  generalize namesOf (allL p)=nl at *
  simp [KF,params,f46,List.getElem?_append_right,List.set_append_right,bsOf,hch,fn_always,hbl,w8,q1,q2,hr,hal',hlen8,hec,l1,l3,i2,hT,hA,ht,ha,htw',hlost,hring]
 have hE:hierP p=0:=by simp [hE0,hlo1,hri]
 rw [hri] at hring
 rw [hml] at i1
 obtain ⟨S2,az,j1,j2,j3⟩:=of_l1 hlo htr (allL p) hL hcs hw hnd (obj_in p) (namesOf (allL p)).length 0 S1 [] (by omega) (by simp) ⟨i1.pre,i1.t,i1.a,i1.m,by simp,i1.cl⟩
 simp only [Int.natCast_zero] at j3
 refine ⟨S2,?_,j2.pre,j2.cl,⟨8,namesOf (allL p),allL p,by rw [hE];exact ⟨j2.t,j2.a⟩⟩,fun _=>⟨az,j1,j2⟩⟩
 generalize namesOf (allL p)=nl at *
 simp [KF,params,f46,List.getElem?_append_right,List.set_append_right,bsOf,hch,fn_always,hbl,w8,q1,q2,hr,hal',hlen8,hec,l1,l3,i2,hT,hA,ht,ha,htw',hlost,hring,j3]
def upL (l:List GClass) (a:ByteArray):List ByteArray:=dfs l 200 [sObject] a
def underP (p:GProgram) (a b:ByteArray):Bool:=decide (hierP p=0) && (decide (a ∈ namesOf (allL p)) && decide (b ∈ upL (allL p) a))
section
variable {σ S:List Ob} {p:GProgram}
theorem fn_tUnder (h:TreeOk σ S p) (a b:ByteArray) (lo tr:Nat):Fn fns 47 [vptr (σ.length+3),vstr a,vstr b] S lo tr=some (vbool (underP p a b),S):=by
 rw [fn_eq t47 rfl rfl]
 obtain ⟨own,names,l,ht⟩:=h.t
 have hT:=get_lt ht.t
 by_cases hE:hierP p=0
 ·obtain ⟨az,h1,h2⟩:=h.ok hE
  have hM:=get_lt h2.m
  have t1:=(List.getElem?_eq_some_iff.mp h2.t).2
  have m1:=(List.getElem?_eq_some_iff.mp h2.m).2
  have hk:=find_key (fun x:ByteArray × Nat=>x.1) (fun x=>.c (.b (.map x.2))) a az 0
  cases hq:az.findIdx? (fun x=>decide (x.1=a)) with
  | none =>
   have hn:a ∉ namesOf (allL p):=by
    rw [← h1]
    intro hx
    obtain ⟨x,hx,hxe⟩:=List.mem_map.mp hx
    rw [List.findIdx?_eq_none_iff] at hq
    simpa [hxe] using hq x hx
   rw [hq] at hk
   have k1:findKey [2] (vstr a) (entM az) 0=some none:=hk
   have k2:findKey [2] (vstr b) [] 0=some none:=rfl
   simp [KF,params,f47,hT,t1,hM,m1,mapOf,keyShape,k1,k2,got,underP,hE,hn]
  | some j =>
   rw [List.findIdx?_eq_some_iff_getElem] at hq
   obtain ⟨hj,hja,_⟩:=id hq
   have hja:az[j].1=a:=by simpa using hja
   have hin:a ∈ namesOf (allL p):=by rw [← h1,← hja];exact List.mem_map_of_mem (List.getElem_mem hj)
   have hq2:az.findIdx? (fun x=>decide (x.1=a))=some j:=List.findIdx?_eq_some_iff_getElem.mpr hq
   rw [hq2] at hk
   have k1:findKey [2] (vstr a) (entM az) 0=some (some (j,.c (.b (.map az[j].2)))):=by simpa [entM,hj] using hk
   obtain ⟨u1,u2⟩:=h2.up az[j] (List.getElem_mem hj)
   rw [hja] at u2
   have u2:S[az[j].2]?=some (.map (entS (upL (allL p) a))):=u2
   have u3:=get_lt u2
   have u4:=(List.getElem?_eq_some_iff.mp u2).2
   obtain ⟨r,g1,g2,_⟩:=got_S (upL (allL p) a) b
   have hu:underP p a b=decide (b ∈ upL (allL p) a):=by simp [underP,hE,hin]
   rw [hu]
   generalize upL (allL p) a=d at *
   have gq:got (V.c (C.b .nilm)) (some (j,.c (.b (.map az[j].2))))=.c (.b (.map az[j].2)):=rfl
   generalize az[j].2=q at *
   simp [KF,params,f47,hT,t1,hM,m1,mapOf,keyShape,k1,gq,hE,hin,u3,u4,g1,g2]
 ·have t1:=(List.getElem?_eq_some_iff.mp ht.t).2
  simp [KF,params,f47,hT,t1,underP,hE]
end
theorem one_ok (p:GProgram):∀ k,[cP p].all (Ob.closed ([cP p].length+k))=true:=fun k=>by simp [Ob.closed,C.closed,B.closed]
theorem fn_under (p:GProgram) (hp:OkP p) (a b:ByteArray) (σ:List Ob) (lo tr:Nat):Fn fns 22 [vProgram p,vstr a,vstr b] σ lo tr=some (vbool (underP p a b),σ):=by
 obtain ⟨S,s1,s2⟩:=fn_of p hp (σ:=[cP p]) (lo:=0) (tr:=0) (by simp) (by simp) (one_ok p)
 have h1:=fn_tUnder s2 a b
 refine fn_gen t22 rfl (σ1:=[]) rfl rfl ?_ σ lo tr
 simp only [List.length_singleton,Nat.reduceAdd] at s1 h1
 simp [KF,params,f22,s1,h1]
section
variable {σ S:List Ob} {p:GProgram}
def plainP (p:GProgram) (s:ByteArray):Bool:=!((findC (allL p) s).getD noC).iface
def kindsP (p:GProgram) (a:ByteArray):List ByteArray:=if hierP p=0 then ((namesOf (allL p)).drop 8).filter (fun s=>plainP p s && underP p s a) else []
theorem foldl_filter {α:Type} (q:α→Bool):∀ (l acc:List α),l.foldl (fun acc x=>if q x then acc ++ [x] else acc) acc=acc ++ l.filter q
 | [],acc=>by simp
 | x :: l,acc=>by
  rw [List.foldl_cons,foldl_filter q l,List.filter_cons]
  cases q x<;>simp
theorem fn_tKinds (hp:OkP p) (h:TreeOk σ S p) (a:ByteArray) (lo tr:Nat) (hlo:lo≤S.length):Fn fns 48 [vptr (σ.length+3),vstr a] S lo tr=some (.c (.osl 1 (rows (kindsP p a))),S):=by
 rw [fn_eq t48 rfl rfl]
 obtain ⟨own,names,l,ht⟩:=h.t
 have hT:=get_lt ht.t
 have hm:max lo S.length=S.length:=by omega
 have hr:rows ([]:List ByteArray)=[]:=rfl
 by_cases hE:hierP p=0
 case neg =>
  have t1:=(List.getElem?_eq_some_iff.mp ht.t).2
  simp [KF,params,f48,hT,t1,kindsP,hE,hr]
 obtain ⟨az,h1,h2⟩:=h.ok hE
 have hA:=get_lt h2.a
 have t1:=(List.getElem?_eq_some_iff.mp h2.t).2
 have a1:=(List.getElem?_eq_some_iff.mp h2.a).2
 have hL:=all_len hp
 have hnl:(namesOf (allL p)).length≤100:=by simpa [namesOf] using hL
 have h8:8≤(namesOf (allL p)).length:=by simp [namesOf,allL,baseL]
 have hu:=fn_tUnder h
 have hcl0:S.all (Ob.closed S.length)=true:=by simpa using h.cl 0
 have hN:∀ s,plainP p s = !((findC (allL p) s).getD noC).iface:=fun _=>rfl
 have hunit:kindsP p a=((namesOf (allL p)).drop 8).filter (fun s=>plainP p s && underP p s a):=by simp [kindsP,hE]
 rw [hunit]
 generalize hnd:(namesOf (allL p)).drop 8=nd at *
 have hndl:nd.length+8=(namesOf (allL p)).length:=by rw [← hnd];simp;omega
 have L:∀ (t:Nat) (k:AExit→St→Option (V × List Ob)),K fns ⟨S.length,t⟩ f48_l0 ⟨[(0,vptr (σ.length+3)),(1,vstr a),(5,.c (.osl 1 (rows ([]:List ByteArray)))),(21,vsl nd),(22,vint nd.length),(23,vint 0)],S⟩ k=k (.exit 0) ⟨[(5,.c (.osl 1 (rows (nd.filter (fun s=>plainP p s && underP p s a)))))],S⟩:=fun t k=>by
  have:=scan_fold (l:=nd) (f:=fun acc x=>if (plainP p x && underP p x a) then acc ++ [x] else acc) (I:=fun i c=>c.length≤i)
   (X:=fun i c=>K fns ⟨S.length,t⟩ f48_l0 ⟨[(0,vptr (σ.length+3)),(1,vstr a),(5,.c (.osl 1 (rows c))),(21,vsl nd),(22,vint nd.length),(23,vint i)],S⟩ k)
   (e:=fun c=>k (.exit 0) ⟨[(5,.c (.osl 1 (rows c)))],S⟩)
   (fun i c hi hI=>by
    have hw1:=wrap_succ (i:=i) (by omega)
    obtain ⟨r,g1,g2,g3⟩:=got_C (allL p) nd[i]
    have q1:c.length+1≤70368744177664:=by omega
    have q2:(c.length+1) * 16≤70368744177664:=by omega
    refine ⟨?_,by
     split
     ·rw [List.length_append,List.length_singleton];omega
     ·omega⟩
    rw [hN]
    generalize (findC (allL p) nd[i]).getD noC=cc at g2 ⊢
    show K fns _ f48_l0 _ k=_
    rw [u48_l0]
    cases hi1:cc.iface
    ·cases hi2:underP p nd[i] a<;>simp [f48_b0,hi,hw1,hT,t1,hA,a1,mapOf,keyShape,g1,g2,hi1,hi2,hu,q1,q2,hcl0]
    ·simp [f48_b0,hi,hw1,hT,t1,hA,a1,mapOf,keyShape,g1,g2,hi1,hcl0])
   (fun c hI=>by
    show K fns _ f48_l0 _ k=_
    rw [u48_l0];simp [f48_b0,hcl0]) (c:=[]) (by simp)
  rw [foldl_filter] at this
  simpa using this
 simp only [hr] at L
 have q3:(8:Int)≤(namesOf (allL p)).length:=by omega
 simp [KF,params,f48,hT,t1,hm,q3,hnd,L]
end
section
variable {σ S:List Ob} {p:GProgram}
theorem fn_tClass (h:TreeOk σ S p):∃ l,(hierP p=0→l=allL p)∧∀ (s:ByteArray) (lo tr:Nat),lo≤S.length→Fn fns 53 [vptr (σ.length+3),vstr s] S lo tr=some (.tup [vClass ((findC l s).getD noC),vbool ((findC l s).isSome && decide (hierP p=0))],S):=by
 obtain ⟨own,names,l,ht,hl⟩:∃ own names l,TreeAt S (σ.length+3) (σ.length+1) (σ.length+2) own (hierP p) names l∧(hierP p=0→l=allL p):=by
  by_cases hE:hierP p=0
  ·obtain ⟨az,h1,h2⟩:=h.ok hE
   exact ⟨8,_,_,⟨by rw [hE];exact h2.t,h2.a⟩,fun _=>rfl⟩
  ·obtain ⟨own,names,l,ht⟩:=h.t
   exact ⟨own,names,l,ht,fun h=>absurd h hE⟩
 refine ⟨l,hl,fun s lo tr hlo=>?_⟩
 rw [fn_eq t53 rfl rfl]
 have hT:=get_lt ht.t
 have hA:=get_lt ht.a
 have t1:=(List.getElem?_eq_some_iff.mp ht.t).2
 have a1:=(List.getElem?_eq_some_iff.mp ht.a).2
 have hm:max lo S.length=S.length:=by omega
 have hb1:Nat.beq (S.length+1) S.length=false:=by rw [Bool.eq_false_iff];intro h;have:=Nat.eq_of_beq_eq_true h;omega
 have hb2:Nat.beq (σ.length+3) S.length=false:=by rw [Bool.eq_false_iff];intro h;have:=Nat.eq_of_beq_eq_true h;omega
 obtain ⟨r,g1,g2,g3⟩:=got_C l s
 generalize (findC l s).getD noC=c at *
 cases hs:(findC l s).isSome<;>rw [hs] at g3
 ·simp [KF,params,f53,List.getElem?_append_left,List.getElem?_append_right,List.set_append_right,farFrom,hb1,hb2,hT,hA,t1,a1,hm,mapOf,keyShape,g1,g2,g3]
 ·simp [KF,params,f53,List.getElem?_append_left,List.getElem?_append_right,List.set_append_right,farFrom,hb1,hb2,hT,hA,t1,a1,hm,mapOf,keyShape,g1,g2,g3]
end
def supP (p:GProgram) (s:ByteArray):ByteArray:=if hierP p=0 then (match findC (allL p) s with | some c=>superL c | none=>⟨#[]⟩) else ⟨#[]⟩
section
variable {σ S:List Ob} {p:GProgram}
theorem fn_tSuper (h:TreeOk σ S p) (s:ByteArray) (lo tr:Nat) (hlo:lo≤S.length):Fn fns 116 [vptr (σ.length+3),vstr s] S lo tr=some (.tup [vstr (supP p s),vbool (!decide (supP p s=⟨#[]⟩))],S):=by
 obtain ⟨l,hl,hc⟩:=fn_tClass h
 rw [fn_eq t116 rfl rfl]
 have hT:σ.length+3 < S.length:=by obtain ⟨_,_,_,ht⟩:=h.t;exact get_lt ht.t
 have hm:max lo S.length=S.length:=by omega
 have h1:=fun lo tr hlo=>hc s lo tr hlo
 have hs:=fun c (σ':List Ob) lo tr hlo hσ=>fn_super c (σ.length+3) σ' lo tr hlo hσ
 have hcl:=h.cl
 unfold supP
 by_cases hE:hierP p=0
 ·have:=hl hE
  subst this
  cases hf:findC (allL p) s with
  | none =>
   rw [hf] at h1
   simp [KF,params,f116,hm,hE,h1]
  | some c =>
   rw [hf] at h1
   simp only [Option.getD_some,Option.isSome_some,hE,decide_true,Bool.and_true] at h1
   simp [KF,params,f116,List.getElem?_append_left,List.getElem?_append_right,List.set_append_right,hm,hE,h1,hs,hcl]
 ·simp only [hE,decide_false,Bool.and_false] at h1
  generalize (findC l s).getD noC=c at h1
  simp [KF,params,f116,List.getElem?_append_left,List.getElem?_append_right,List.set_append_right,hm,hE,h1]
end
end
inductive Rch (l:List GClass) (s:ByteArray):ByteArray→Prop
 | refl:Rch l s s
 | step {y x:ByteArray}:Rch l s y→x ∈ nx l y→Rch l s x
theorem Rch.trans {l:List GClass} {a b c:ByteArray} (h1:Rch l a b) (h2:Rch l b c):Rch l a c:=by
 induction h2 with
 | refl=>exact h1
 | step _ h ih=>exact ih.step h
theorem Rch.head {l:List GClass} {a b c:ByteArray} (h1:b ∈ nx l a) (h2:Rch l b c):Rch l a c:=(Rch.refl.step h1).trans h2
theorem Rch.names {l:List GClass} (hw:Whole l) {a b:ByteArray} (ha:a ∈ namesOf l) (h:Rch l a b):b ∈ namesOf l:=by
 induction h with
 | refl=>exact ha
 | step _ h ih=>exact hw _ ih _ h
abbrev fstep (l:List GClass) (n:Nat):List ByteArray→ByteArray→List ByteArray:=fun acc x=>if x ∈ acc then acc else dfs l n acc x
structure UpOne (l:List GClass) (ns:List ByteArray) (s:ByteArray) (R:List ByteArray):Prop where
 met:Met l R
 old:∀ x ∈ ns,x ∈ R
 len:ns.length≤R.length
 from_:∀ x ∈ R,x ∈ ns∨Rch l s x
 self:s ∈ R
 shut:∀ x ∈ R,x ∉ ns∨x=s→∀ y ∈ nx l x,y ∈ R
structure Ups (l:List GClass) (ns:List ByteArray) (L R:List ByteArray):Prop where
 met:Met l R
 old:∀ x ∈ ns,x ∈ R
 len:ns.length≤R.length
 from_:∀ x ∈ R,x ∈ ns∨∃ s ∈ L,Rch l s x
 self:∀ s ∈ L,s ∈ R
 shut:∀ x ∈ R,x ∉ ns→∀ y ∈ nx l x,y ∈ R
theorem ups_of {l:List GClass} {n:Nat} (ih:∀ (ns:List ByteArray) (s:ByteArray),Met l ns→s ∈ namesOf l→s ∉ ns→l.length < n+ns.length→UpOne l ns s (dfs l n ns s)):∀ (L ns:List ByteArray),(∀ x ∈ L,x ∈ namesOf l)→Met l ns→l.length < n+ns.length→Ups l ns L (L.foldl (fstep l n) ns)
 | [],ns,_,hm,_=>⟨hm,fun _ h=>h,Nat.le_refl _,fun _ h=>Or.inl h,by simp,fun _ h1 h2=>absurd h1 h2⟩
 | t :: L,ns,hL,hm,hf=>by
  rw [List.foldl_cons]
  have hL':=fun x hx=>hL x (List.mem_cons_of_mem _ hx)
  by_cases ht:t ∈ ns
  ·have e:fstep l n ns t=ns:=by simp [fstep,ht]
   rw [e]
   have h:=ups_of ih L ns hL' hm hf
   exact ⟨h.met,h.old,h.len,fun x hx=>(h.from_ x hx).imp id fun ⟨s,a,b⟩=>⟨s,List.mem_cons_of_mem _ a,b⟩,fun s hs=>by
    rcases List.mem_cons.mp hs with rfl | a
    ·exact h.old _ ht
    ·exact h.self s a,h.shut⟩
  ·have e:fstep l n ns t=dfs l n ns t:=by simp [fstep,ht]
   rw [e]
   have u:=ih ns t hm (hL t List.mem_cons_self) ht hf
   have h:=ups_of ih L (dfs l n ns t) hL' u.met (by have:=u.len;omega)
   refine ⟨h.met,fun x hx=>h.old x (u.old x hx),Nat.le_trans u.len h.len,fun x hx=>?_,fun s hs=>?_,fun x hx hn y hy=>?_⟩
   ·rcases h.from_ x hx with a | ⟨s,a,b⟩
    ·rcases u.from_ x a with a | a
     ·exact Or.inl a
     ·exact Or.inr ⟨t,List.mem_cons_self,a⟩
    ·exact Or.inr ⟨s,List.mem_cons_of_mem _ a,b⟩
   ·rcases List.mem_cons.mp hs with rfl | a
    ·exact h.old _ u.self
    ·exact h.self s a
   ·by_cases hd:x ∈ dfs l n ns t
    ·exact h.old y (u.shut x hd (Or.inl hn) y hy)
    ·exact h.shut x hx hd y hy
theorem dfs_up {l:List GClass} (hw:Whole l):∀ (n:Nat) (ns:List ByteArray) (s:ByteArray),Met l ns→s ∈ namesOf l→l.length+(if s ∈ ns then 1 else 0) < n+ns.length→UpOne l ns s (dfs l n ns s):=by
 intro n
 induction n with
 | zero=>intro ns s hm _ hf;have:=hm.len;omega
 | succ n ih =>
  intro ns s hm hs hf
  have hms:=hm.add hs
  have hd:dfs l (n+1) ns s=(nx l s).foldl (fstep l n) (if s ∈ ns then ns else ns ++ [s]):=rfl
  rw [hd]
  have h:=ups_of (l:=l) (n:=n) (fun ns s a b c d=>ih ns s a b (by simpa [c] using d)) (nx l s) _ (hw s hs) hms (by by_cases hy:s ∈ ns<;>simp [hy] at hf ⊢ <;> omega)
  generalize (nx l s).foldl (fstep l n) (if s ∈ ns then ns else ns ++ [s])=R at *
  have hsub:∀ x,x ∈ (if s ∈ ns then ns else ns ++ [s])↔x ∈ ns∨x=s:=by
   intro x
   by_cases hy:s ∈ ns
   ·simp only [hy,if_true]
    exact ⟨Or.inl,fun h=>h.elim id fun e=>e ▸ hy⟩
   ·simp [hy]
  refine ⟨h.met,fun x hx=>h.old x ((hsub x).mpr (Or.inl hx)),Nat.le_trans ?_ h.len,fun x hx=>?_,h.old s ((hsub s).mpr (Or.inr rfl)),fun x hx hn y hy=>?_⟩
  ·by_cases hy:s ∈ ns<;>simp [hy]
  ·rcases h.from_ x hx with a | ⟨t,a,b⟩
   ·rcases (hsub x).mp a with a | a
    ·exact Or.inl a
    ·subst a;exact Or.inr .refl
   ·exact Or.inr (Rch.head a b)
  ·by_cases hxs:x=s
   ·subst hxs;exact h.self y hy
   ·rcases hn with hn | hn
    ·exact h.shut x hx (fun ha=>by rcases (hsub x).mp ha with a | a<;>contradiction) y hy
    ·exact absurd hn hxs
theorem nx_object (p:GProgram):nx (allL p) sObject=[]:=by
 have h:findC (allL p) sObject=some (cls sObject ⟨#[]⟩):=by
  simp [findC,allL,baseL]
 simp [nx,h,nextP,superL]
theorem up_iff {p:GProgram} (hL:(allL p).length≤100) (hw:Whole (allL p)) {a:ByteArray} (ha:a ∈ namesOf (allL p)) (x:ByteArray):x ∈ upL (allL p) a↔x=sObject∨Rch (allL p) a x:=by
 have hm:Met (allL p) [sObject]:=⟨by simp,by simpa using obj_in p⟩
 have u:=dfs_up hw 200 [sObject] a hm ha (by simp;split<;>omega)
 constructor
 ·intro h
  rcases u.from_ x h with b | b
  ·left;simpa using b
  ·exact Or.inr b
 ·rintro (rfl | h)
  ·exact u.old _ (by simp)
  ·have:∀ y,Rch (allL p) a y→y ∈ dfs (allL p) 200 [sObject] a:=by
    intro y hy
    induction hy with
    | refl=>exact u.self
    | @step z x hz hx ih =>
     by_cases hzo:z=sObject
     ·subst hzo;rw [nx_object] at hx;cases hx
     ·exact u.shut z ih (Or.inl (by simpa using hzo)) x hx
   exact this x h
theorem ring_iff {l:List GClass} (hL:l.length≤100) (hw:Whole l) {s:ByteArray} (hs:s ∈ namesOf l):ringP l s=true↔∃ y ∈ nx l s,Rch l y s:=by
 have h:=ups_of (l:=l) (n:=200) (fun ns s a b c d=>dfs_up hw 200 ns s a b (by simpa [c] using d)) (nx l s) [] (hw s hs) ⟨by simp,by simp⟩ (by simp;omega)
 unfold ringP
 rw [decide_eq_true_iff]
 constructor
 ·intro hx
  rcases h.from_ s hx with a | a
  ·cases a
  ·exact a
 ·rintro ⟨y,hy,hr⟩
  have:∀ z,Rch l y z→z ∈ (nx l s).foldl (fstep l 200) []:=by
   intro z hz
   induction hz with
   | refl=>exact h.self y hy
   | @step z x _ hx ih=>exact h.shut z ih (by simp) x hx
  exact this s hr
theorem next_iff {l:List GClass} {y:ByteArray} (hy:y ∈ namesOf l) (x:ByteArray):x ∈ nextL l y↔x ∈ nx l y:=by
 obtain ⟨c,h1,h2,h3⟩:=find_name hy
 have h1':l.find? (fun c:GClass=>decide (c.name=y))=some c:=h1
 have e1:nextL l y=aboveL c:=by simp [nextL,h1']
 have e2:nx l y=nextP c:=by simp [nx,h1]
 rw [e1,e2]
 simp only [aboveL,nextP,List.mem_append]
 exact Or.comm
theorem bfs_all {l:List GClass} {s:ByteArray} (hL:l.length≤100) (hc:∀ c ∈ l,OkC c) {Q:ByteArray→Prop} (hQ:∀ y x,Q y→x ∈ nextL l y→Q x):∀ (n i:Nat) (out:List ByteArray),Bf l s out→i≤out.length→1102≤i+n→(∀ x ∈ out,Q x)→(∀ j (h:j < out.length),j < i→∀ x ∈ nextL l out[j],x ∈ out) →
  (∀ x ∈ bfs l n i out,Q x)∧(∀ x ∈ out,x ∈ bfs l n i out)∧∀ y ∈ bfs l n i out,∀ x ∈ nextL l y,x ∈ bfs l n i out:=by
 intro n
 induction n with
 | zero=>intro i out hb hi hn;have:=hb.len hL hc;omega
 | succ n ih =>
  intro i out hb hi hn hq hdone
  unfold bfs
  by_cases hlt:i < out.length
  ·rw [List.getElem?_eq_getElem hlt]
   dsimp only
   have hpre:=addNew_pre (next:=nextL l out[i]) (out:=out)
   obtain ⟨Z,hZ⟩:=hpre
   have hlen:(addNew out (nextL l out[i])).length=out.length+Z.length:=by rw [← hZ,List.length_append]
   obtain ⟨a,b,c⟩:=ih (i+1) (addNew out (nextL l out[i])) hb.add (by rw [hlen];omega) (by omega) (fun x hx=>by
     rcases addNew_mem.mp hx with a | a
     ·exact hq x a
     ·exact hQ _ x (hq _ (List.getElem_mem hlt)) a) (fun j hj hji x hx=>by
     have hj2:j < out.length:=by omega
     have he:(addNew out (nextL l out[i]))[j]=out[j]:=by
      have:(addNew out (nextL l out[i]))[j]?=out[j]?:=by rw [← hZ,List.getElem?_append_left hj2]
      rw [List.getElem?_eq_getElem hj,List.getElem?_eq_getElem hj2] at this
      exact Option.some.inj this
     rw [he] at hx
     refine addNew_mem.mpr ?_
     by_cases hjj:j=i
     ·subst hjj;exact Or.inr hx
     ·exact Or.inl (hdone j hj2 (by omega) x hx))
   exact ⟨a,fun x hx=>b x (addNew_mem.mpr (Or.inl hx)),c⟩
  ·rw [List.getElem?_eq_none_iff.mpr (by omega)]
   dsimp only
   refine ⟨hq,fun x hx=>hx,fun y hy x hx=>?_⟩
   obtain ⟨j,hj,rfl⟩:=List.mem_iff_getElem.mp hy
   exact hdone j hj (by omega) x hx
theorem reach_iff {l:List GClass} (hL:l.length≤100) (hc:∀ c ∈ l,OkC c) (hw:Whole l) {s:ByteArray} (hs:s ∈ namesOf l) (x:ByteArray):x ∈ reachL l s↔Rch l s x:=by
 obtain ⟨a,b,c⟩:=bfs_all hL hc (s:=s) (Q:=fun x=>Rch l s x) (fun y x hy hx=>hy.step ((next_iff (hy.names hw hs) x).mp hx)) 3000 0 [s] (bf_one l s) (by simp) (by omega) (by simp;exact .refl) (by intro j _ h;omega)
 constructor
 ·exact a x
 ·intro h
  have:∀ y,Rch l s y→y ∈ bfs l 3000 0 [s]:=by
   intro y hy
   induction hy with
   | refl=>exact b s (by simp)
   | @step z x hz hx ih=>exact c z ih x ((next_iff (hz.names hw hs) x).mpr hx)
  exact this x h
theorem mapL_nodup {l:List GClass} (h:(namesOf l).Nodup):mapL l=l:=by
 have key:∀ (l m:List GClass),(namesOf (m ++ l)).Nodup→l.foldl updL m=m ++ l:=by
  intro l
  induction l with
  | nil=>intro m _;simp
  | cons c t ih =>
   intro m hm
   rw [List.foldl_cons]
   have hq:m.findIdx? (fun x:GClass=>decide (x.name=c.name))=none:=by
    rw [List.findIdx?_eq_none_iff]
    intro x hx
    simp only [decide_eq_false_iff_not]
    intro e
    unfold namesOf at hm
    rw [List.map_append,List.nodup_append] at hm
    exact hm.2.2 x.name (List.mem_map_of_mem hx) c.name (by simp) e
   have hu:updL m c=m ++ [c]:=by simp [updL,hq]
   rw [hu,ih (m ++ [c]) (by simpa using hm)]
   simp
 simpa [mapL] using key l [] (by simpa using h)
theorem twice_iff (l:List GClass):twiceB l=false↔(namesOf l).Nodup:=by
 have hlen:(namesOf l).length=l.length:=by simp [namesOf]
 constructor
 ·intro h
  rw [List.Nodup,List.pairwise_iff_getElem]
  intro i j hi hj hij e
  have hj':j < l.length:=by omega
  have h1:=List.any_eq_false.mp h (l[j],j) (by rw [List.mem_zipIdx_iff_getElem?];simp [hj'])
  simp only [Bool.not_eq_true',decide_eq_false_iff_not,Decidable.not_not] at h1
  rcases at_find (l:=l) (s:=l[j].name) with ⟨h2,h3⟩ | ⟨k,hk,h2,h3,h4,h5⟩
  ·have:=List.find?_eq_none.mp h2 l[j] (List.getElem_mem hj')
   simp at this
  ·rw [h1] at h2
   have:k=j:=by omega
   subst this
   refine h5 i hij ?_
   simpa [namesOf] using e
 ·intro h
  refine List.any_eq_false.mpr ?_
  rintro ⟨c,i⟩ hx
  rw [List.mem_zipIdx_iff_getElem?] at hx
  obtain ⟨hi,hc⟩:=List.getElem?_eq_some_iff.mp hx
  simp only at hc hi
  subst hc
  simp only [Bool.not_eq_true',decide_eq_false_iff_not,Decidable.not_not]
  rcases at_find (l:=l) (s:=l[i].name) with ⟨h2,h3⟩ | ⟨k,hk,h2,h3,h4,h5⟩
  ·have:=List.find?_eq_none.mp h2 l[i] (List.getElem_mem hi)
   simp at this
  ·rw [h2]
   by_cases hki:k=i
   ·subst hki;rfl
   ·have e:(namesOf l)[k]'(by omega)=(namesOf l)[i]'(by omega):=by simpa [namesOf] using h4
    have hp:=List.pairwise_iff_getElem.mp h
    rcases Nat.lt_or_gt_of_ne hki with a | a
    ·exact absurd e (hp k i (by omega) (by omega) a)
    ·exact absurd e.symm (hp i k (by omega) (by omega) a)
theorem find_self {l:List GClass} (h:(namesOf l).Nodup) {c:GClass} (hc:c ∈ l):findC l c.name=some c:=by
 obtain ⟨d,h1,h2,h3⟩:=find_name (List.mem_map_of_mem (f:=fun c:GClass=>c.name) hc)
 rw [h1]
 obtain ⟨i,hi,rfl⟩:=List.mem_iff_getElem.mp hc
 obtain ⟨j,hj,rfl⟩:=List.mem_iff_getElem.mp h2
 have hlen:(namesOf l).length=l.length:=by simp [namesOf]
 by_cases hij:j=i
 ·subst hij;rfl
 ·have e:(namesOf l)[j]'(by omega)=(namesOf l)[i]'(by omega):=by simpa [namesOf] using h3
  have hp:=List.pairwise_iff_getElem.mp h
  rcases Nat.lt_or_gt_of_ne hij with a | a
  ·exact absurd e (hp j i (by omega) (by omega) a)
  ·exact absurd e.symm (hp i j (by omega) (by omega) a)
theorem ring_same {l:List GClass} (hL:l.length≤100) (hc:∀ c ∈ l,OkC c) (hw:Whole l) (hnd:(namesOf l).Nodup):l.any (ringB l)=(namesOf l).any (ringP l):=by
 have key:∀ c ∈ l,ringB l c=ringP l c.name:=by
  intro c hcl
  have hs:c.name ∈ namesOf l:=List.mem_map_of_mem (f:=fun c:GClass=>c.name) hcl
  have hf:=find_self hnd hcl
  have hf':l.find? (fun x:GClass=>decide (x.name=c.name))=some c:=hf
  have ha:∀ x,x ∈ aboveL c↔x ∈ nx l c.name:=fun x=>by
   have:=next_iff hs x
   rwa [show nextL l c.name=aboveL c by simp [nextL,hf']] at this
  rw [Bool.eq_iff_iff,ring_iff hL hw hs]
  unfold ringB
  rw [List.any_eq_true]
  constructor
  ·rintro ⟨s,h1,h2⟩
   have h1':=(ha s).mp h1
   exact ⟨s,h1',(reach_iff hL hc hw (hw _ hs _ h1') _).mp (by simpa using h2)⟩
  ·rintro ⟨s,h1,h2⟩
   exact ⟨s,(ha s).mpr h1,by simpa using (reach_iff hL hc hw (hw _ hs _ h1) _).mpr h2⟩
 rw [Bool.eq_iff_iff,List.any_eq_true,List.any_eq_true]
 constructor
 ·rintro ⟨c,h1,h2⟩
  exact ⟨c.name,List.mem_map_of_mem (f:=fun c:GClass=>c.name) h1,by rw [← key c h1];exact h2⟩
 ·rintro ⟨s,h1,h2⟩
  obtain ⟨c,h3,rfl⟩:=List.mem_map.mp h1
  exact ⟨c,h3,by rw [key c h3];exact h2⟩
theorem hier_eq {p:GProgram} (hp:OkP p):hierP p=hierE p:=by
 unfold hierP hierE
 have hL:=all_len hp
 have hc:=allL_ok hp
 generalize allL p=l at *
 cases progB p
 ·rfl
 simp only [cond_true]
 cases ht:twiceB l
 ·have hnd:=(twice_iff l).mp ht
  have:¬ (mapL l).length < l.length:=by rw [mapL_nodup hnd];omega
  simp only [this,decide_false,cond_false]
  cases hlo:l.any (lostB l)
  ·rw [ring_same hL hc (whole_of hlo) hnd]
  ·rfl
 ·have:(mapL l).length < l.length:=by
   refine Decidable.byContradiction fun hn=>?_
   have:=(twice_iff l).mpr (mapL_eq hn).2
   rw [ht] at this;cases this
  simp [this]
structure Sane (p:GProgram):Prop where
 nd:(namesOf (allL p)).Nodup
 whole:Whole (allL p)
 noring:∀ s ∈ namesOf (allL p),¬ ∃ y ∈ nx (allL p) s,Rch (allL p) y s
 len:(allL p).length≤100
theorem sane_of {p:GProgram} (hp:OkP p) (h:hierP p=0):Sane p:=by
 have hL:=all_len hp
 unfold hierP at h
 cases hb:progB p
 ·rw [hb] at h;cases h
 rw [hb] at h
 simp only [cond_true] at h
 by_cases ht:(mapL (allL p)).length < (allL p).length
 ·simp [ht] at h
 simp only [ht,decide_false,cond_false] at h
 cases hlo:(allL p).any (lostB (allL p))
 case true=>rw [hlo] at h;cases h
 rw [hlo] at h
 simp only [cond_false] at h
 cases hr:(namesOf (allL p)).any (ringP (allL p))
 case true=>rw [hr] at h;cases h
 have hw:=whole_of hlo
 exact ⟨(mapL_eq ht).2,hw,fun s hs he=>by
  have:=List.any_eq_false.mp hr s hs
  exact this ((ring_iff hL hw hs).mpr he),hL⟩
theorem under_iff {p:GProgram} (hp:OkP p) (h:hierP p=0) {a:ByteArray} (ha:a ∈ namesOf (allL p)) (b:ByteArray):underP p a b=true↔b=sObject∨Rch (allL p) a b:=by
 have hs:=sane_of hp h
 unfold underP
 simp only [h,ha,decide_true,Bool.true_and,decide_eq_true_eq]
 exact up_iff hs.len hs.whole ha b
theorem Rch.split {l:List GClass} {a b:ByteArray} (h:Rch l a b):a=b∨∃ y ∈ nx l a,Rch l y b:=by
 induction h with
 | refl=>exact Or.inl rfl
 | @step y x hy hx ih =>
  rcases ih with rfl | ⟨z,h1,h2⟩
  ·exact Or.inr ⟨x,hx,.refl⟩
  ·exact Or.inr ⟨z,h1,h2.step hx⟩
theorem under_names {p:GProgram} {a b:ByteArray} (hu:underP p a b=true):a ∈ namesOf (allL p):=by
 unfold underP at hu
 simp at hu
 exact hu.2.1
section
variable {p:GProgram} (hp:OkP p) (h:hierP p=0)
include hp h
end
section
attribute [local simp ↓] K_seq K_cond K_block K_region K_skip K_exit K_ret K_wrap KA_nil KA_none KA_some str_eq
attribute [local simp] beq_int bne_int dec_eqN dec_ltN dec_leN stepOp St.rd St.raw St.set St.took get_cons V.down C.down Env.keep binV unV arith isShift strs intOf optInt wrapEnd keptAt andK endOf frzV frz1 frzC frzCs frz1s resOf resOne resAll V.closed V.closed1 C.closed B.closed Ob.closed V.cells partsIn rep chunk datas C.data rowsOf getCells put_nil put_zero put_succ mayWrite C.plain eqV_bool eqV_agg eqV_pnn eqV_pnp eqV_ppn eqV_mnn eqV_mmn eqV_snn eqV_sen eqV_san eqV_sdn rs_len rs_getE rs_app rs_take rs_drop rs_all rs_each row_len str_nilP str_nilE str_nilB vagg row_Int row_Bool row_Str k_Int k_Bool k_Str snoc_Int snoc_Bool snoc_Str row_Type k_Type snoc_Type eta_Type sames_Type row_Field k_Field snoc_Field eta_Field sames_Field row_Instr k_Instr snoc_Instr eta_Instr sames_Instr row_Catch k_Catch snoc_Catch eta_Catch sames_Catch row_Method k_Method snoc_Method row_Class k_Class snoc_Class row_Program k_Program snoc_Program row_Slot k_Slot snoc_Slot eta_Slot sames_Slot row_Way k_Way snoc_Way eta_Way sames_Way
def p0:GProgram:=⟨[cls (⟨#[65]⟩:ByteArray) ⟨#[]⟩,cls (⟨#[66]⟩:ByteArray) (⟨#[65]⟩:ByteArray)]⟩
def p1:GProgram:=⟨[cls sError ⟨#[]⟩]⟩
theorem pick_ix (n:Int) {m:Nat} (h0:0 < m) (hm:m≤1000000):IntKind.u64.wrap (m:Int)=(m:Int)∧∃ k:Nat,k < m∧IntKind.i64.wrap ((IntKind.u64.wrap n).tmod (m:Int))=(k:Int):=by
 have g0:0≤IntKind.u64.wrap n:=by simp [IntKind.wrap,IntKind.signed,IntKind.bits];omega
 have h1:(IntKind.u64.wrap n).tmod (m:Int)=(IntKind.u64.wrap n) % (m:Int):=Int.tmod_eq_emod_of_nonneg g0
 have h2:0≤(IntKind.u64.wrap n) % (m:Int):=Int.emod_nonneg _ (by omega)
 have h3:(IntKind.u64.wrap n) % (m:Int) < (m:Int):=Int.emod_lt_of_pos _ (by omega)
 refine ⟨?_,((IntKind.u64.wrap n) % (m:Int)).toNat,by omega,?_⟩
 ·simp [IntKind.wrap,IntKind.signed,IntKind.bits];omega
 ·rw [h1,wrap_nat (by omega) (by omega)];omega
theorem sup_cases {p:GProgram} (hp:OkP p) (h:hierP p=0) {a:ByteArray} (ha:a ∈ namesOf (allL p)):∃ c,findC (allL p) a=some c∧c ∈ allL p∧c.name=a∧supP p a=superL c:=by
 obtain ⟨c,h1,h2,h3⟩:=find_name ha
 exact ⟨c,h1,h2,h3,by simp [supP,h,h1]⟩
theorem sup_next {p:GProgram} (hp:OkP p) (h:hierP p=0) {a:ByteArray} (ha:a ∈ namesOf (allL p)) (hs:supP p a≠⟨#[]⟩):supP p a ∈ nx (allL p) a:=by
 obtain ⟨c,h1,h2,h3,h4⟩:=sup_cases hp h ha
 rw [h4] at hs ⊢
 simp [nx,h1,nextP,hs]
theorem sup_plain {p:GProgram} (hp:OkP p) (h:hierP p=0) {a:ByteArray} (ha:a ∈ namesOf (allL p)) (hs:supP p a≠⟨#[]⟩):∃ d,findC (allL p) (supP p a)=some d∧d.iface=false:=by
 obtain ⟨c,h1,h2,h3,h4⟩:=sup_cases hp h ha
 have hlo:(allL p).any (lostB (allL p))=false:=by
  have hh:=h
  unfold hierP at hh
  cases hb:progB p
  ·rw [hb] at hh;cases hh
  rw [hb] at hh
  simp only [cond_true] at hh
  by_cases ht:(mapL (allL p)).length < (allL p).length
  ·simp [ht] at hh
  simp only [ht,decide_false,cond_false] at hh
  cases hl:(allL p).any (lostB (allL p))
  ·rfl
  ·rw [hl] at hh;cases hh
 have hl:lostB (allL p) c=false:=by simpa using List.any_eq_false.mp hlo c h2
 rw [lostB_eq] at hl
 rw [h4] at hs ⊢
 simp only [Bool.or_eq_false_iff,Bool.and_eq_false_iff,Bool.not_eq_false',decide_eq_true_eq] at hl
 rcases hl.1 with b | b
 ·exact absurd b hs
 ·unfold noSup at b
  cases hf:(allL p).find? (fun x:GClass=>decide (x.name=superL c)) with
  | none=>rw [hf] at b;cases b
  | some d=>rw [hf] at b;exact ⟨d,hf,b⟩
structure Went (p:GProgram) (x w:ByteArray) (vis:List ByteArray):Prop where
 nd:(w :: vis).Nodup
 sub:∀ v ∈ w :: vis,v ∈ namesOf (allL p)
 up:Rch (allL p) x w
 way:∀ v ∈ vis,∃ y ∈ nx (allL p) v,Rch (allL p) y w
 plain:w=x∨∃ d,findC (allL p) w=some d∧d.iface=false
theorem Went.next {p:GProgram} (hp:OkP p) (h:hierP p=0) {x w:ByteArray} {vis:List ByteArray} (g:Went p x w vis) (hs:supP p w≠⟨#[]⟩):Went p x (supP p w) (w :: vis):=by
 have hw:=g.sub w List.mem_cons_self
 have hn:=sup_next hp h hw hs
 have sane:=sane_of hp h
 have hin:supP p w ∈ namesOf (allL p):=sane.whole w hw _ hn
 refine ⟨List.nodup_cons.mpr ⟨fun hm=>?_,g.nd⟩,fun v hv=>?_,g.up.step hn,fun v hv=>?_,Or.inr (sup_plain hp h hw hs)⟩
 ·rcases List.mem_cons.mp hm with e | e
  ·exact sane.noring w hw ⟨supP p w,hn,by rw [e];exact .refl⟩
  ·obtain ⟨y,hy,hr⟩:=g.way _ e
   exact sane.noring _ hin ⟨y,hy,hr.step hn⟩
 ·rcases List.mem_cons.mp hv with rfl | e
  ·exact hin
  ·exact g.sub v e
 ·rcases List.mem_cons.mp hv with rfl | e
  ·exact ⟨supP p v,hn,.refl⟩
  ·obtain ⟨y,hy,hr⟩:=g.way v e
   exact ⟨y,hy,hr.step hn⟩
theorem at_names (l:List GClass) (s:ByteArray):(atI l s < 0∧s ∉ namesOf l)∨(¬ atI l s < 0∧s ∈ namesOf l):=by
 rcases at_find (l:=l) (s:=s) with ⟨h1,h2⟩ | ⟨i,hi,h1,_,h3,_⟩
 ·left
  refine ⟨by omega,fun h=>?_⟩
  obtain ⟨c,hc,e⟩:=List.mem_map.mp h
  have:=List.find?_eq_none.mp h1 c hc
  simp [e] at this
 ·right
  exact ⟨by omega,List.mem_map.mpr ⟨_,List.getElem_mem hi,h3⟩⟩
def refU (p:GProgram) (a b:ByteArray):Bool:=decide (a ∈ namesOf (allL p)) && (decide (b ∈ namesOf (allL p)) && (decide (b=sObject) || decide (b ∈ reachL (allL p) a)))
theorem refU_eq {p:GProgram} (hp:OkP p) (h:hierP p=0) (a b:ByteArray):refU p a b=underP p a b:=by
 have hs:=sane_of hp h
 rw [Bool.eq_iff_iff]
 unfold refU
 by_cases ha:a ∈ namesOf (allL p)
 ·rw [under_iff hp h ha b]
  simp only [ha,decide_true,Bool.true_and,Bool.and_eq_true,decide_eq_true_eq,Bool.or_eq_true]
  rw [reach_iff hs.len (allL_ok hp) hs.whole ha b]
  constructor
  ·exact fun h=>h.2
  ·intro h
   refine ⟨?_,h⟩
   rcases h with rfl | h
   ·exact obj_in p
   ·exact h.names hs.whole ha
 ·simp [ha,underP]
end
end Go.Proofs.YteeofkbhopioiaaGreatDoor.Am
