/- Lemmas that the rows' proofs rest on; each states its own conditions. -/
import Derived.Test.YteeofkbhopioiaaGreatDoorHierMC
namespace Go.Proofs.YteeofkbhopioiaaGreatDoor.Am
set_option linter.unusedSimpArgs false
set_option linter.unusedVariables false
set_option linter.unusedSectionVars false
open Go
section
variable {κ α:Type} [DecidableEq κ]
def lookA (m:List (κ × α)) (k:κ):Option α:=(m.find? fun e=>decide (e.1=k)).map (·.2)
def putA (m:List (κ × α)) (k:κ) (v:α):List (κ × α):=match m.findIdx? (fun e=>decide (e.1=k)) with
 | some i=>m.set i (k,v)
 | none=>m ++ [(k,v)]
theorem look_put (m:List (κ × α)) (k:κ) (v:α) (k':κ):lookA (putA m k v) k'=if k=k' then some v else lookA m k':=by
 unfold putA
 induction m with
 | nil=>by_cases h:k=k'<;>simp [lookA,h]
 | cons e m ih =>
  rw [List.findIdx?_cons]
  by_cases he:e.1=k
  ·simp only [he,decide_true,if_true,List.set_cons_zero]
   by_cases h:k=k'
   ·subst h;simp [lookA]
   ·have:¬ e.1=k':=by rw [he];exact h
    simp [lookA,h,this]
  ·simp only [he,decide_false,Bool.false_eq_true,if_false]
   cases hq:m.findIdx? (fun e=>decide (e.1=k)) with
   | none =>
    rw [hq] at ih
    simp only [Option.map_none,List.cons_append]
    simp only at ih
    by_cases h':e.1=k'
    ·have:¬ k=k':=fun h=>he (by rw [h',h])
     simp [lookA,h',this]
    ·have:=ih
     simp only [lookA,List.find?_cons,h',decide_false] at this ⊢
     exact this
   | some i =>
    rw [hq] at ih
    simp only [Option.map_some,List.set_cons_succ]
    simp only at ih
    by_cases h':e.1=k'
    ·have:¬ k=k':=fun h=>he (by rw [h',h])
     simp [lookA,h',this]
    ·have:=ih
     simp only [lookA,List.find?_cons,h',decide_false] at this ⊢
     exact this
def encA (ek:κ→V) (ev:α→V) (m:List (κ × α)):List (V × V):=m.map fun e=>(ek e.1,ev e.2)
theorem find_enc {ks:List Nat} {ek:κ→V} (ev:α→V) (hk:∀ a b,eqKey ks (ek a) (ek b)=some (decide (a=b))) (k:κ):∀ (m:List (κ × α)) (n:Nat),findKey ks (ek k) (encA ek ev m) n=some ((m.findIdx? fun e=>decide (e.1=k)).bind fun j=>(m[j]?).map fun e=>(n+j,ev e.2))
 | [],n=>rfl
 | e :: m,n=>by
  have ih:=find_enc ev hk k m (n+1)
  rw [encA,List.map_cons,findKey,hk,List.findIdx?_cons]
  by_cases h:e.1=k
  ·have h':k=e.1:=h.symm
   simp [h']
  ·have h':¬ k=e.1:=fun x=>h x.symm
   simp only [h,h',decide_false,Bool.false_eq_true,if_false]
   rw [show List.map (fun e=>(ek e.1,ev e.2)) m=encA ek ev m from rfl,ih]
   cases m.findIdx? fun e=>decide (e.1=k) with
   | none=>simp
   | some j=>simp;congr;funext c;congr 1;omega
theorem map_enc {ks:List Nat} {ek:κ→V} {ev:α→V} (hk:∀ a b,eqKey ks (ek a) (ek b)=some (decide (a=b))) (m:List (κ × α)) (k:κ) :
  (findKey ks (ek k) (encA ek ev m) 0=some none∧lookA m k=none∧∀ v,encA ek ev m ++ [(ek k,ev v)]=encA ek ev (putA m k v)) ∨
  ∃ i v,i < m.length∧findKey ks (ek k) (encA ek ev m) 0=some (some (i,ev v))∧(encA ek ev m)[i]?=some (ek k,ev v)∧lookA m k=some v∧(∀ w,(encA ek ev m).set i (ek k,ev w)=encA ek ev (putA m k w)) ∧
   ∀ w,findKey ks (ek k) ((encA ek ev m).set i (ek k,w)) 0=some (some (i,w)):=by
 have hf:=find_enc ev hk k m 0
 cases hq:m.findIdx? (fun e=>decide (e.1=k)) with
 | none =>
  rw [hq] at hf
  refine .inl ⟨hf,?_,fun v=>by simp [putA,hq,encA]⟩
  rw [List.findIdx?_eq_none_iff] at hq
  simp only [lookA,Option.map_eq_none_iff,List.find?_eq_none]
  intro x hx
  simpa using hq x hx
 | some i =>
  rw [hq] at hf
  obtain ⟨h1,h2,h3⟩:=List.findIdx?_eq_some_iff_getElem.mp hq
  have h2:m[i].1=k:=by simpa using h2
  have hfind:∀ w:V,findKey ks (ek k) ((encA ek ev m).set i (ek k,w)) 0=some (some (i,w)):=by
   intro w
   have key:∀ (m:List (κ × α)) (i n:Nat) (hi:i < m.length),m[i].1=k→(∀ j (hj:j < i),¬ (m[j]'(by omega)).1=k)→findKey ks (ek k) ((encA ek ev m).set i (ek k,w)) n=some (some (n+i,w)):=by
    intro m
    induction m with
    | nil=>intro i n hi;simp at hi
    | cons e m ih =>
     intro i n hi h2 h3
     cases i with
     | zero=>simp [encA,findKey,hk]
     | succ i =>
      have h0:=h3 0 (by omega)
      simp only [List.getElem_cons_zero] at h0
      have h0':¬ k=e.1:=fun x=>h0 x.symm
      simp only [encA,List.map_cons,List.set_cons_succ,findKey,hk,h0',decide_false]
      rw [show List.map (fun e=>(ek e.1,ev e.2)) m=encA ek ev m from rfl,ih i (n+1) (by simpa using hi) (by simpa using h2) (fun j hj=>by have:=h3 (j+1) (by omega);simpa using this)]
      congr 3;omega
   have:=key m i 0 h1 h2 (fun j hj=>by have:=h3 j hj;simpa using this)
   simpa using this
  refine .inr ⟨i,m[i].2,h1,by simpa [h1] using hf,by simp [encA,h1,h2],?_,fun w=>by simp [putA,hq,encA,List.map_set],hfind⟩
  have:m.find? (fun e=>decide (e.1=k))=some m[i]:=by
   rw [List.find?_eq_some_iff_getElem]
   exact ⟨by simpa using h2,i,h1,rfl,fun j hj=>by have:=h3 j hj;simpa using this⟩
  simp [lookA,this]
end
theorem str_key (a b:ByteArray):eqKey [2] (vstr a) (vstr b)=some (decide (a=b)):=by simp [eqKey,sames,D.same,str_eq]
abbrev v2 (k:ByteArray × ByteArray):V:=.agg [.b (.d (.str k.1)),.b (.d (.str k.2))]
theorem str_key2 (a b:ByteArray × ByteArray):eqKey [2,2] (v2 a) (v2 b)=some (decide (a=b)):=by
 obtain ⟨a1,a2⟩:=a
 obtain ⟨b1,b2⟩:=b
 simp [eqKey,sames,D.same,str_eq,Bool.decide_and]
theorem fn_once {args:List V} {σ:List Ob} {lo tr:Nat} {r:V × List Ob} (h:onceRun (Fn fns) args σ lo tr=some r):Fn fns 72 args σ lo tr=some r:=by
 have key:∃ n,onceRun (evf fns n) args σ lo tr=some r:=by
  unfold onceRun at h
  split at h
  case h_2=>cases h
  split at h
  case h_2=>cases h
  rename_i cs hcs
  split at h
  case h_2=>cases h
  rename_i d hd
  by_cases h0:d=0
  ·rw [if_pos h0] at h
   split at h
   case h_2=>cases h
   rename_i hm
   split at h
   case isFalse=>cases h
   rename_i hle
   split at h
   case h_2=>cases h
   rename_i σ1 hF
   obtain ⟨n,hn⟩:=fn_iff.mp hF
   refine ⟨n,?_⟩
   unfold onceRun
   simp only [hcs,hd,h0,if_true,hm,hle,hn]
   exact h
  ·rw [if_neg h0] at h
   refine ⟨0,?_⟩
   unfold onceRun
   simp only [hcs,hd,h0,if_false]
   exact h
 obtain ⟨n,hn⟩:=key
 exact fn_iff.mpr ⟨n+1,by simp only [evf,show fns 72=some ⟨2,.skip,[],.free,false,true⟩ from rfl,cond_true];exact hn⟩
theorem TreeOk.keep {σ S S':List Ob} {p:GProgram} (h:TreeOk σ S p) (hk:∀ i,σ.length≤i→i < S.length→S'[i]?=S[i]?) (hl:S.length≤S'.length) (hc:∀ k,S'.all (Ob.closed (S'.length+k))=true):TreeOk (S'.take σ.length) S' p:=by
 obtain ⟨X,hX⟩:=h.pre
 have hsl:σ.length≤S.length:=by rw [hX];simp
 have hlen:(S'.take σ.length).length=σ.length:=by simp;omega
 have get:∀ {i:Nat} {o:Ob},σ.length≤i→S[i]?=some o→S'[i]?=some o:=fun hi ho=>by rw [hk _ hi (List.getElem?_eq_some_iff.mp ho).1];exact ho
 refine ⟨⟨S'.drop σ.length,by simp⟩,hc,?_,fun h0=>?_⟩
 ·obtain ⟨own,names,l,ht⟩:=h.t
  rw [hlen]
  exact ⟨own,names,l,get (by omega) ht.t,get (by omega) ht.a⟩
 ·obtain ⟨az,h1,h2⟩:=h.ok h0
  refine ⟨az,h1,⟨⟨S'.drop σ.length,by simp⟩,?_,?_,?_,?_,hc⟩⟩
  ·rw [hlen];exact get (by omega) h2.t
  ·rw [hlen];exact get (by omega) h2.a
  ·rw [hlen];exact get (by omega) h2.m
  ·intro x hx
   obtain ⟨u1,u2⟩:=h2.up x hx
   rw [hlen]
   exact ⟨u1,get (by omega) u2⟩
abbrev clsN (l:List GClass) (s:ByteArray):GClass:=(findC l s).getD noC
def supN (l:List GClass) (s:ByteArray):ByteArray:=match findC l s with | some c=>superL c | none=>⟨#[]⟩
theorem supP_N {p:GProgram} (h:hierP p=0) (s:ByteArray):supP p s=supN (allL p) s:=by unfold supP supN;rw [if_pos h];cases findC (allL p) s<;>rfl
def rowN (l:List GClass):Nat→ByteArray→List ByteArray
 | 0,_=>[]
 | n+1,s=>s :: (if supN l s=⟨#[]⟩ then [] else rowN l n (supN l s))
def rowL (l:List GClass) (s:ByteArray):List ByteArray:=rowN l (l.length+1) s
theorem rowN_len (l:List GClass):∀ (n:Nat) (s:ByteArray),(rowN l n s).length≤n
 | 0,s=>Nat.le_refl _
 | n+1,s=>by
  simp only [rowN]
  split
  ·simp
  ·have:=rowN_len l n (supN l s)
   simp only [List.length_cons];omega
section
variable {p:GProgram} (hp:OkP p) (h:hierP p=0)
include hp h
theorem went_one {s:ByteArray} (hs:s ∈ namesOf (allL p)):Went p s s []:=⟨by simp,by simpa using hs,.refl,by simp,.inl rfl⟩
theorem rowN_stay:∀ (n:Nat) {x w:ByteArray} {vis:List ByteArray},Went p x w vis→(allL p).length≤vis.length+n→rowN (allL p) n w=rowN (allL p) (n+1) w
 | 0,x,w,vis,g,hn=>by
  have:=nodup_sub g.nd g.sub
  simp only [List.length_cons,namesOf,List.length_map] at this
  omega
 | n+1,x,w,vis,g,hn=>by
  rw [rowN,rowN]
  by_cases e:supN (allL p) w=⟨#[]⟩
  ·rw [if_pos e,if_pos e]
  ·rw [if_neg e,if_neg e]
   have g':=g.next hp h (by rw [supP_N h];exact e)
   rw [supP_N h] at g'
   rw [rowN_stay n g' (by simp only [List.length_cons];omega)]
theorem rowL_eq {s:ByteArray} (hs:s ∈ namesOf (allL p)):rowL (allL p) s=s :: (if supN (allL p) s=⟨#[]⟩ then [] else rowL (allL p) (supN (allL p) s)):=by
 unfold rowL
 rw [rowN]
 by_cases e:supN (allL p) s=⟨#[]⟩
 ·rw [if_pos e,if_pos e]
 ·rw [if_neg e,if_neg e]
  have g:=(went_one hp h hs).next hp h (by rw [supP_N h];exact e)
  rw [supP_N h] at g
  rw [rowN_stay hp h _ g (by simp)]
theorem sup_names {s:ByteArray} (hs:s ∈ namesOf (allL p)) (e:supN (allL p) s≠⟨#[]⟩):supN (allL p) s ∈ namesOf (allL p):=by
 have g:=(went_one hp h hs).next hp h (by rw [supP_N h];exact e)
 rw [supP_N h] at g
 exact g.sub _ List.mem_cons_self
theorem chain_ind {P:ByteArray→Prop} (hP:∀ s ∈ namesOf (allL p),(supN (allL p) s≠⟨#[]⟩→P (supN (allL p) s))→P s):∀ s ∈ namesOf (allL p),P s:=by
 have key:∀ (n:Nat) {x w:ByteArray} {vis:List ByteArray},Went p x w vis→(allL p).length≤vis.length+n→P w:=by
  intro n
  induction n with
  | zero =>
   intro x w vis g hn
   have:=nodup_sub g.nd g.sub
   simp only [List.length_cons,namesOf,List.length_map] at this
   omega
  | succ n ih =>
   intro x w vis g hn
   refine hP w (g.sub w List.mem_cons_self) fun e=>?_
   have g':=g.next hp h (by rw [supP_N h];exact e)
   rw [supP_N h] at g'
   exact ih g' (by simp only [List.length_cons];omega)
 intro s hs
 exact key (allL p).length (went_one hp h hs) (by simp)
theorem rowL_sub {s:ByteArray} (hs:s ∈ namesOf (allL p)):∀ x ∈ rowL (allL p) s,x ∈ namesOf (allL p):=by
 refine chain_ind hp h (P:=fun s=>∀ x ∈ rowL (allL p) s,x ∈ namesOf (allL p)) (fun s hs ih x hx=>?_) s hs
 rw [rowL_eq hp h hs] at hx
 rcases List.mem_cons.1 hx with rfl | hx
 ·exact hs
 ·split at hx
  ·cases hx
  ·rename_i e;exact ih e x hx
end
theorem rowL_len (l:List GClass) (s:ByteArray):(rowL l s).length≤l.length+1:=rowN_len _ _ _
def slN (l:List GClass) (s:ByteArray):List GSlot:=((clsN l s).fields.filter fun f=>!f.static_).map fun f=>⟨s,f.name,f.type_⟩
def stN (l:List GClass) (s:ByteArray):List GSlot:=((clsN l s).fields.filter fun f=>f.static_).map fun f=>⟨s,f.name,f.type_⟩
abbrev Key2:=ByteArray × ByteArray
structure Tabs where
 rs:List (ByteArray × List ByteArray)
 ls:List (ByteArray × List GSlot)
 st:List GSlot
 fs:List (Key2 × GMethod)
 ws:List (Key2 × ByteArray)
def slotPut (name:ByteArray) (ls:List (ByteArray × List GSlot)) (x:GSlot):List (ByteArray × List GSlot):=putA ls name ((lookA ls name).getD [] ++ [x])
def metPut (name:ByteArray) (fs:List (Key2 × GMethod)) (m:GMethod):List (Key2 × GMethod):=putA fs (name,m.name) m
def whoPut (name s:ByteArray) (ws:List (Key2 × ByteArray)) (m:GMethod):List (Key2 × ByteArray):=putA ws (name,m.name) s
def rowStep (l:List GClass) (name:ByteArray) (t:Tabs) (s:ByteArray):Tabs :=
 { t with ls:=(slN l s).foldl (slotPut name) t.ls,fs:=(clsN l s).methods.reverse.foldl (metPut name) t.fs,ws:=(clsN l s).methods.reverse.foldl (whoPut name s) t.ws }
def classStep (l:List GClass) (t:Tabs) (name:ByteArray):Tabs:=(rowL l name).reverse.foldl (rowStep l name) { t with rs:=putA t.rs name (rowL l name) }
def makeStep (l:List GClass) (t:Tabs) (s:ByteArray):Tabs :=
 let t:=if (clsN l s).iface then t else classStep l t s
 { t with st:=t.st ++ stN l s }
def tabs0:Tabs:=⟨[],[],[],[],[]⟩
def tabsL (l:List GClass):Tabs:=(namesOf l).foldl (makeStep l) tabs0
def slotsR (l:List GClass) (row:List ByteArray):List GSlot:=row.reverse.flatMap (slN l)
def metR (l:List GClass):List ByteArray→ByteArray→Option (ByteArray × GMethod)
 | [],_=>none
 | s :: r,n=>match (clsN l s).methods.find? (fun m=>decide (m.name=n)) with
  | some m=>some (s,m)
  | none=>metR l r n
theorem slots_fold (name:ByteArray):∀ (xs:List GSlot) (ls:List (ByteArray × List GSlot)) (k:ByteArray),(lookA (xs.foldl (slotPut name) ls) k).getD []=if name=k then (lookA ls k).getD [] ++ xs else (lookA ls k).getD []
 | [],ls,k=>by by_cases h:name=k<;>simp [h]
 | x :: xs,ls,k=>by
  rw [List.foldl_cons,slots_fold name xs,slotPut,look_put]
  by_cases h:name=k
  ·subst h;simp
  ·simp [h]
theorem mets_fold (name:ByteArray):∀ (ms:List GMethod) (fs:List (Key2 × GMethod)) (k:Key2),lookA (ms.reverse.foldl (metPut name) fs) k=if name=k.1 then (match ms.find? (fun m=>decide (m.name=k.2)) with | some m=>some m | none=>lookA fs k) else lookA fs k
 | [],fs,k=>by by_cases h:name=k.1<;>simp [h]
 | m :: ms,fs,k=>by
  rw [List.reverse_cons,List.foldl_append,List.foldl_cons,List.foldl_nil,metPut,look_put,mets_fold name ms]
  obtain ⟨a,n⟩:=k
  by_cases h:name=a
  ·subst h
   by_cases hm:m.name=n
   ·subst hm;simp
   ·have:¬ (name,m.name)=(name,n):=fun e=>hm (by simpa using e)
    simp [hm,this]
  ·have:¬ (name,m.name)=(a,n):=fun e=>h (by simp at e;exact e.1)
   simp [h,this]
theorem whos_fold (name s:ByteArray):∀ (ms:List GMethod) (ws:List (Key2 × ByteArray)) (k:Key2),lookA (ms.reverse.foldl (whoPut name s) ws) k=if name=k.1 then (match ms.find? (fun m=>decide (m.name=k.2)) with | some m=>some s | none=>lookA ws k) else lookA ws k
 | [],ws,k=>by by_cases h:name=k.1<;>simp [h]
 | m :: ms,ws,k=>by
  rw [List.reverse_cons,List.foldl_append,List.foldl_cons,List.foldl_nil,whoPut,look_put,whos_fold name s ms]
  obtain ⟨a,n⟩:=k
  by_cases h:name=a
  ·subst h
   by_cases hm:m.name=n
   ·subst hm;simp
   ·have:¬ (name,m.name)=(name,n):=fun e=>hm (by simpa using e)
    simp [hm,this]
  ·have:¬ (name,m.name)=(a,n):=fun e=>h (by simp at e;exact e.1)
   simp [h,this]
theorem rows_fold (l:List GClass) (name:ByteArray):∀ (row:List ByteArray) (t:Tabs),
  (row.reverse.foldl (rowStep l name) t).rs=t.rs∧(row.reverse.foldl (rowStep l name) t).st=t.st ∧
  (∀ k,(lookA (row.reverse.foldl (rowStep l name) t).ls k).getD []=if name=k then (lookA t.ls k).getD [] ++ slotsR l row else (lookA t.ls k).getD []) ∧
  (∀ k,lookA (row.reverse.foldl (rowStep l name) t).fs k=if name=k.1 then (match metR l row k.2 with | some x=>some x.2 | none=>lookA t.fs k) else lookA t.fs k) ∧
  (∀ k,lookA (row.reverse.foldl (rowStep l name) t).ws k=if name=k.1 then (match metR l row k.2 with | some x=>some x.1 | none=>lookA t.ws k) else lookA t.ws k)
 | [],t=>by
  refine ⟨rfl,rfl,fun k=>?_,fun k=>?_,fun k=>?_⟩
  ·by_cases h:name=k<;>simp [h,slotsR]
  ·by_cases h:name=k.1<;>simp [h,metR]
  ·by_cases h:name=k.1<;>simp [h,metR]
 | s :: row,t=>by
  obtain ⟨h1,h2,h3,h4,h5⟩:=rows_fold l name row t
  rw [List.reverse_cons,List.foldl_append,List.foldl_cons,List.foldl_nil]
  generalize row.reverse.foldl (rowStep l name) t=u at *
  refine ⟨h1,h2,fun k=>?_,fun k=>?_,fun k=>?_⟩
  ·simp only [rowStep]
   rw [slots_fold,h3]
   by_cases h:name=k
   ·simp [h,slotsR]
   ·simp [h]
  ·simp only [rowStep]
   rw [mets_fold,h4]
   by_cases h:name=k.1
   ·simp only [h,if_true,metR]
    cases (clsN l s).methods.find? fun m=>decide (m.name=k.2)<;>rfl
   ·simp [h]
  ·simp only [rowStep]
   rw [whos_fold,h5]
   by_cases h:name=k.1
   ·simp only [h,if_true,metR]
    cases (clsN l s).methods.find? fun m=>decide (m.name=k.2)<;>rfl
   ·simp [h]
structure Told (l:List GClass) (ns:List ByteArray) (t:Tabs):Prop where
 rs:∀ k,lookA t.rs k=if k ∈ ns∧(clsN l k).iface=false then some (rowL l k) else none
 ls:∀ k,(lookA t.ls k).getD []=if k ∈ ns∧(clsN l k).iface=false then slotsR l (rowL l k) else []
 st:t.st=ns.flatMap (stN l)
 fs:∀ k,lookA t.fs k=if k.1 ∈ ns∧(clsN l k.1).iface=false then (metR l (rowL l k.1) k.2).map (·.2) else none
 ws:∀ k,lookA t.ws k=if k.1 ∈ ns∧(clsN l k.1).iface=false then (metR l (rowL l k.1) k.2).map (·.1) else none
theorem told_step {l:List GClass} {ns:List ByteArray} {t:Tabs} (h:Told l ns t) {s:ByteArray} (hs:s ∉ ns):Told l (ns ++ [s]) (makeStep l t s):=by
 have mem:∀ k,(k ∈ ns ++ [s])↔(k ∈ ns∨k=s):=fun k=>by simp
 cases hi:(clsN l s).iface with
 | true =>
  have e:makeStep l t s={ t with st:=t.st ++ stN l s }:=by simp only [makeStep,hi,if_true]
  rw [e]
  refine ⟨fun k=>?_,fun k=>?_,?_,fun k=>?_,fun k=>?_⟩
  ·rw [h.rs];by_cases hk:k=s
   ·subst hk;simp [hs,hi]
   ·simp [hk]
  ·rw [h.ls];by_cases hk:k=s
   ·subst hk;simp [hs,hi]
   ·simp [hk]
  ·rw [h.st];simp
  ·rw [h.fs];by_cases hk:k.1=s
   ·subst hk;simp [hs,hi]
   ·simp [hk]
  ·rw [h.ws];by_cases hk:k.1=s
   ·subst hk;simp [hs,hi]
   ·simp [hk]
 | false =>
  have e:makeStep l t s={ classStep l t s with st:=(classStep l t s).st ++ stN l s }:=by simp only [makeStep,hi,Bool.false_eq_true,if_false]
  rw [e]
  obtain ⟨h1,h2,h3,h4,h5⟩:=rows_fold l s (rowL l s) { t with rs:=putA t.rs s (rowL l s) }
  have ec:classStep l t s=(rowL l s).reverse.foldl (rowStep l s) { t with rs:=putA t.rs s (rowL l s) }:=rfl
  rw [← ec] at h1 h2 h3 h4 h5
  generalize classStep l t s=u at *
  refine ⟨fun k=>?_,fun k=>?_,?_,fun k=>?_,fun k=>?_⟩
  ·simp only [h1,look_put,h.rs]
   by_cases hk:k=s
   ·subst hk;simp [hi]
   ·have:¬ s=k:=fun e=>hk e.symm
    simp [hk,this]
  ·simp only [h3,h.ls]
   by_cases hk:k=s
   ·subst hk;simp [hi,hs]
   ·have:¬ s=k:=fun e=>hk e.symm
    simp [hk,this]
  ·simp only [h2,h.st];simp
  ·simp only [h4,h.fs]
   by_cases hk:k.1=s
   ·subst hk
    simp only [hs,hi,false_and,if_false,if_true,List.mem_append,List.mem_singleton,or_true,true_and]
    cases metR l (rowL l k.1) k.2<;>rfl
   ·have:¬ s=k.1:=fun e=>hk e.symm
    simp [hk,this]
  ·simp only [h5,h.ws]
   by_cases hk:k.1=s
   ·subst hk
    simp only [hs,hi,false_and,if_false,if_true,List.mem_append,List.mem_singleton,or_true,true_and]
    cases metR l (rowL l k.1) k.2<;>rfl
   ·have:¬ s=k.1:=fun e=>hk e.symm
    simp [hk,this]
theorem told_tabs {l:List GClass} (hnd:(namesOf l).Nodup):Told l (namesOf l) (tabsL l):=by
 have key:∀ (b a:List ByteArray) (t:Tabs),(a ++ b).Nodup→Told l a t→Told l (a ++ b) (b.foldl (makeStep l) t):=by
  intro b
  induction b with
  | nil=>intro a t _ h;simpa using h
  | cons s b ih =>
   intro a t hn h
   have hs:s ∉ a:=fun hm=>by
    rw [List.nodup_append] at hn
    exact hn.2.2 s hm s List.mem_cons_self rfl
   have:=ih (a ++ [s]) (makeStep l t s) (by simpa using hn) (told_step h hs)
   rw [List.append_assoc,List.singleton_append] at this
   rw [List.foldl_cons]
   exact this
 have:=key (namesOf l) [] tabs0 (by simpa using hnd) ⟨fun k=>by simp [lookA,tabs0],fun k=>by simp [lookA,tabs0],rfl,fun k=>by simp [lookA,tabs0],fun k=>by simp [lookA,tabs0]⟩
 simpa [tabsL] using this
section
attribute [local simp ↓] K_seq K_cond K_block K_region K_skip K_exit K_ret K_wrap KA_nil KA_none KA_some str_eq
attribute [local simp] beq_int bne_int dec_eqN dec_ltN dec_leN stepOp St.rd St.raw St.set St.took get_cons V.down C.down Env.keep binV unV arith isShift strs intOf optInt wrapEnd keptAt andK endOf frzV frz1 frzC frzCs frz1s resOf resOne resAll V.closed V.closed1 C.closed B.closed Ob.closed V.cells partsIn rep chunk datas C.data rowsOf getCells put_nil put_zero put_succ mayWrite C.plain eqV_bool eqV_agg eqV_pnn eqV_pnp eqV_ppn eqV_mnn eqV_mmn eqV_snn eqV_sen eqV_san eqV_sdn rs_len rs_getE rs_app rs_take rs_drop rs_all rs_each row_len str_nilP str_nilE str_nilB vagg row_Int row_Bool row_Str k_Int k_Bool k_Str snoc_Int snoc_Bool snoc_Str row_Type k_Type snoc_Type eta_Type sames_Type row_Field k_Field snoc_Field eta_Field sames_Field row_Instr k_Instr snoc_Instr eta_Instr sames_Instr row_Catch k_Catch snoc_Catch eta_Catch sames_Catch row_Method k_Method snoc_Method row_Class k_Class snoc_Class row_Program k_Program snoc_Program row_Slot k_Slot snoc_Slot eta_Slot sames_Slot row_Way k_Way snoc_Way eta_Way sames_Way
def encR (m:List (ByteArray × List ByteArray)):List (V × V):=encA (fun s=>vstr s) (fun r=>vsl r) m
def encL (m:List (ByteArray × List GSlot)):List (V × V):=encA (fun s=>vstr s) (fun r=>.c (.osl 4 (rows r))) m
def encF (m:List (Key2 × GMethod)):List (V × V):=encA v2 (fun x=>vMethod x) m
def encW (m:List (Key2 × ByteArray)):List (V × V):=encA v2 (fun x=>vstr x) m
abbrev cTab (p:GProgram) (d m:Int) (b c:Nat) (e:Int) (st:List GSlot):Ob:=.cells [.b (.d (.int .u32 d)),.b (.d (.int .i32 m)),.b (.d (.int .u32 0)),.b (.d (.sl (rows p.classes))),.b (.ptr (b+3) 0),.b (.d (.int .i64 e)),.b (.map c),.b (.map (c+1)),.osl 4 (rows st),.b (.map (c+2)),.b (.map (c+3))]
structure Tab (p:GProgram) (X b c:Nat) (S:List Ob) (d m e:Int) (t:Tabs):Prop where
 tree:∃ σ S0,σ.length=b∧S0.length=c∧TreeOk σ S0 p∧∀ i,b≤i→i < c→S[i]?=S0[i]?
 xb:X < b
 x:S[X]?=some (cTab p d m b c e t.st)
 r:S[c]?=some (.map (encR t.rs))
 l:S[c+1]?=some (.map (encL t.ls))
 f:S[c+2]?=some (.map (encF t.fs))
 w:S[c+3]?=some (.map (encW t.ws))
 cl:∀ k,S.all (Ob.closed (S.length+k))=true
theorem encR_cl (x:List (ByteArray × List ByteArray)) (n:Nat):Ob.closed n (.map (encR x))=true:=by simp [Ob.closed,encR,encA,V.closed1,C.closed,B.closed]
theorem encL_cl (x:List (ByteArray × List GSlot)) (n:Nat):Ob.closed n (.map (encL x))=true:=by simp [Ob.closed,encL,encA,V.closed1,C.closed,B.closed]
theorem encF_cl (x:List (Key2 × GMethod)) (n:Nat):Ob.closed n (.map (encF x))=true:=by simp [Ob.closed,encF,encA,V.closed1,C.closed,B.closed]
theorem encW_cl (x:List (Key2 × ByteArray)) (n:Nat):Ob.closed n (.map (encW x))=true:=by simp [Ob.closed,encW,encA,V.closed1,C.closed,B.closed]
def MapSays (ks:List Nat) {κ α:Type} [DecidableEq κ] (ek:κ→V) (ev:α→V) (enc:List (κ × α)→List (V × V)) (m:List (κ × α)) (k:κ):Prop :=
 (findKey ks (ek k) (enc m) 0=some none∧lookA m k=none∧∀ v,enc m ++ [(ek k,ev v)]=enc (putA m k v)) ∨
  ∃ i v,∃ h:i < (enc m).length,findKey ks (ek k) (enc m) 0=some (some (i,ev v))∧(enc m)[i]=(ek k,ev v)∧lookA m k=some v∧(∀ w,(enc m).set i (ek k,ev w)=enc (putA m k w)) ∧
   ∀ w,findKey ks (ek k) ((enc m).set i (ek k,w)) 0=some (some (i,w))
theorem map_says {ks:List Nat} {κ α:Type} [DecidableEq κ] {ek:κ→V} {ev:α→V} (hk:∀ a b,eqKey ks (ek a) (ek b)=some (decide (a=b))) (m:List (κ × α)) (k:κ):MapSays ks ek ev (encA ek ev) m k:=by
 rcases map_enc (ev:=ev) hk m k with h | ⟨i,v,h1,h2,h3,h4,h5,h6⟩
 ·exact .inl h
 ·exact .inr ⟨i,v,get_lt h3,h2,(List.getElem?_eq_some_iff.mp h3).2,h4,h5,h6⟩
theorem map_R (m:List (ByteArray × List ByteArray)) (k:ByteArray):MapSays [2] (fun s=>vstr s) (fun r:List ByteArray=>vsl r) encR m k:=map_says str_key m k
theorem map_L (m:List (ByteArray × List GSlot)) (k:ByteArray):MapSays [2] (fun s=>vstr s) (fun r:List GSlot=>.c (.osl 4 (rows r))) encL m k:=map_says str_key m k
theorem map_F (m:List (Key2 × GMethod)) (k:Key2):MapSays [2,2] v2 (fun x=>vMethod x) encF m k:=map_says str_key2 m k
theorem map_W (m:List (Key2 × ByteArray)) (k:Key2):MapSays [2,2] v2 (fun x=>vstr x) encW m k:=map_says str_key2 m k
section
variable {p:GProgram} {X b c:Nat} {S:List Ob} {d m e:Int} {t:Tabs}
theorem Tab.cl0 (h:Tab p X b c S d m e t):S.all (Ob.closed S.length)=true:=by simpa using h.cl 0
theorem Tab.bc (h:Tab p X b c S d m e t):b+3 < c:=by
 obtain ⟨σ,S0,h1,h2,h3,h4⟩:=h.tree
 obtain ⟨_,_,_,ht⟩:=h3.t
 have:=get_lt ht.t
 omega
theorem Tab.tr (h:Tab p X b c S d m e t):∃ σ,σ.length=b∧TreeOk σ S p:=by
 obtain ⟨σ,S0,rfl,rfl,h3,h4⟩:=h.tree
 have hw:=get_lt h.w
 refine ⟨S.take σ.length,?_,h3.keep h4 (by omega) h.cl⟩
 have:=h.bc
 rw [List.length_take];omega
theorem Tab.app (h:Tab p X b c S d m e t) (J:List Ob) (hc:∀ k,(S ++ J).all (Ob.closed ((S ++ J).length+k))=true):Tab p X b c (S ++ J) d m e t:=by
 have hw:=get_lt h.w
 obtain ⟨σ,S0,h1,h2,h3,h4⟩:=h.tree
 exact ⟨⟨σ,S0,h1,h2,h3,fun i a b=>by rw [List.getElem?_append_left (by omega)];exact h4 i a b⟩,h.xb,get_app h.x J,get_app h.r J,get_app h.l J,get_app h.f J,get_app h.w J,hc⟩
theorem Tab.setX (h:Tab p X b c S d m e t) (d' m' e':Int) (st:List GSlot):Tab p X b c (S.set X (cTab p d' m' b c e' st)) d' m' e' { t with st:=st }:=by
 have hx:=h.xb
 have hbc:=h.bc
 have hX:=get_lt h.x
 have hw:=get_lt h.w
 obtain ⟨σ,S0,h1,h2,h3,h4⟩:=h.tree
 have ne:∀ i,X≠i→(S.set X (cTab p d' m' b c e' st))[i]?=S[i]?:=fun i hi=>List.getElem?_set_ne hi
 refine ⟨⟨σ,S0,h1,h2,h3,fun i a b=>by rw [ne i (by omega)];exact h4 i a b⟩,hx,?_,?_,?_,?_,?_,fun k=>?_⟩
 ·rw [List.getElem?_set_self hX]
 ·rw [ne _ (by omega)];exact h.r
 ·rw [ne _ (by omega)];exact h.l
 ·rw [ne _ (by omega)];exact h.f
 ·rw [ne _ (by omega)];exact h.w
 ·rw [List.length_set]
  refine all_set (h.cl k) ?_
  simp [Ob.closed,C.closed,B.closed];omega
theorem Tab.setR (h:Tab p X b c S d m e t) (y:List (ByteArray × List ByteArray)):Tab p X b c (S.set c (.map (encR y))) d m e { t with rs:=y }:=by
 have hx:=h.xb
 have hbc:=h.bc
 have hX:=get_lt h.r
 obtain ⟨σ,S0,h1,h2,h3,h4⟩:=h.tree
 have ne:∀ i,c≠i→(S.set c (.map (encR y)))[i]?=S[i]?:=fun i hi=>List.getElem?_set_ne hi
 refine ⟨⟨σ,S0,h1,h2,h3,fun i a b=>by rw [ne i (by omega)];exact h4 i a b⟩,hx,?_,?_,?_,?_,?_,fun k=>?_⟩
 ·rw [ne _ (by omega)];exact h.x
 ·rw [List.getElem?_set_self hX]
 ·rw [ne _ (by omega)];exact h.l
 ·rw [ne _ (by omega)];exact h.f
 ·rw [ne _ (by omega)];exact h.w
 ·rw [List.length_set];exact all_set (h.cl k) (encR_cl _ _)
theorem Tab.setL (h:Tab p X b c S d m e t) (y:List (ByteArray × List GSlot)):Tab p X b c (S.set (c+1) (.map (encL y))) d m e { t with ls:=y }:=by
 have hx:=h.xb
 have hbc:=h.bc
 have hX:=get_lt h.l
 obtain ⟨σ,S0,h1,h2,h3,h4⟩:=h.tree
 have ne:∀ i,c+1≠i→(S.set (c+1) (.map (encL y)))[i]?=S[i]?:=fun i hi=>List.getElem?_set_ne hi
 refine ⟨⟨σ,S0,h1,h2,h3,fun i a b=>by rw [ne i (by omega)];exact h4 i a b⟩,hx,?_,?_,?_,?_,?_,fun k=>?_⟩
 ·rw [ne _ (by omega)];exact h.x
 ·rw [ne _ (by omega)];exact h.r
 ·rw [List.getElem?_set_self hX]
 ·rw [ne _ (by omega)];exact h.f
 ·rw [ne _ (by omega)];exact h.w
 ·rw [List.length_set];exact all_set (h.cl k) (encL_cl _ _)
theorem Tab.setF (h:Tab p X b c S d m e t) (y:List (Key2 × GMethod)):Tab p X b c (S.set (c+2) (.map (encF y))) d m e { t with fs:=y }:=by
 have hx:=h.xb
 have hbc:=h.bc
 have hX:=get_lt h.f
 obtain ⟨σ,S0,h1,h2,h3,h4⟩:=h.tree
 have ne:∀ i,c+2≠i→(S.set (c+2) (.map (encF y)))[i]?=S[i]?:=fun i hi=>List.getElem?_set_ne hi
 refine ⟨⟨σ,S0,h1,h2,h3,fun i a b=>by rw [ne i (by omega)];exact h4 i a b⟩,hx,?_,?_,?_,?_,?_,fun k=>?_⟩
 ·rw [ne _ (by omega)];exact h.x
 ·rw [ne _ (by omega)];exact h.r
 ·rw [ne _ (by omega)];exact h.l
 ·rw [List.getElem?_set_self hX]
 ·rw [ne _ (by omega)];exact h.w
 ·rw [List.length_set];exact all_set (h.cl k) (encF_cl _ _)
theorem Tab.setW (h:Tab p X b c S d m e t) (y:List (Key2 × ByteArray)):Tab p X b c (S.set (c+3) (.map (encW y))) d m e { t with ws:=y }:=by
 have hx:=h.xb
 have hbc:=h.bc
 have hX:=get_lt h.w
 obtain ⟨σ,S0,h1,h2,h3,h4⟩:=h.tree
 have ne:∀ i,c+3≠i→(S.set (c+3) (.map (encW y)))[i]?=S[i]?:=fun i hi=>List.getElem?_set_ne hi
 refine ⟨⟨σ,S0,h1,h2,h3,fun i a b=>by rw [ne i (by omega)];exact h4 i a b⟩,hx,?_,?_,?_,?_,?_,fun k=>?_⟩
 ·rw [ne _ (by omega)];exact h.x
 ·rw [ne _ (by omega)];exact h.r
 ·rw [ne _ (by omega)];exact h.l
 ·rw [ne _ (by omega)];exact h.f
 ·rw [List.getElem?_set_self hX]
 ·rw [List.length_set];exact all_set (h.cl k) (encW_cl _ _)
theorem class_row (hp:OkP p) (hP:hierP p=0) (h:Tab p X b c S d m e t) {A:Nat} (hA:S[A]?=some (.cells [.b (.ptr X 0)])) (hA2:A+1 < S.length) (k:AExit→St→Option (V × List Ob)) :
  ∀ s ∈ namesOf (allL p),∀ acc:List ByteArray,acc.length+(rowL (allL p) s).length≤1000 →
   K fns ⟨0,0⟩ f91_l0 ⟨[(2,vptr A),(3,vptr (A+1)),(4,.c (.osl 1 (rows acc))),(5,vstr s),(6,vbool true)],S⟩ k=k (.exit 0) ⟨[(2,vptr A),(3,vptr (A+1)),(4,.c (.osl 1 (rows (acc ++ rowL (allL p) s))))],S⟩:=by
 obtain ⟨σ,hb,hT⟩:=h.tr
 subst hb
 have hcl0:=h.cl0
 have hX:=get_lt h.x
 have hx:=(List.getElem?_eq_some_iff.mp h.x).2
 have hA1:=get_lt hA
 have ha:=(List.getElem?_eq_some_iff.mp hA).2
 refine chain_ind hp hP fun s hs ih acc hacc=>?_
 have hsup:=fun lo tr hlo=>fn_tSuper hT s lo tr hlo
 rw [supP_N hP] at hsup
 rw [rowL_eq hp hP hs] at hacc ⊢
 have q1:acc.length+1≤70368744177664:=by simp only [List.length_cons] at hacc;omega
 have q2:(acc.length+1) * 16≤70368744177664:=by omega
 rw [u91_l0]
 by_cases hn:supN (allL p) s=⟨#[]⟩
 ·simp only [hn,if_true] at hacc ⊢
  simp [f91_b0,hX,hx,hA1,ha,hA2,hsup,hn,q1,q2,hcl0]
  rw [u91_l0]
  simp [f91_b0,hA1,hA2,hcl0]
 ·have:=ih hn (acc ++ [s]) (by simp only [hn,if_false,List.length_cons] at hacc;simp;omega)
  simp only [hn,if_false]
  rw [List.append_assoc] at this
  simp [f91_b0,hX,hx,hA1,ha,hA2,hsup,hn,q1,q2,hcl0,this]
end
structure Boxes (S:List Ob) (X A Q:Nat) (name s:ByteArray):Prop where
 a:S[A]?=some (.cells [.b (.ptr X 0)])
 n:S[A+1]?=some (.cells [.b (.d (.str name))])
 q:S[Q]?=some (.cells [.b (.d (.str s))])
section
variable {p:GProgram} {X b c A Q:Nat} {S:List Ob} {d m e:Int} {t:Tabs} {name s:ByteArray}
theorem Boxes.app (h:Boxes S X A Q name s) (J:List Ob):Boxes (S ++ J) X A Q name s:=⟨get_app h.a J,get_app h.n J,get_app h.q J⟩
theorem Boxes.set (h:Boxes S X A Q name s) {i:Nat} (h1:i < A) (h2:A < Q) (o:Ob):Boxes (S.set i o) X A Q name s :=
 ⟨by rw [List.getElem?_set_ne (by omega)];exact h.a,by rw [List.getElem?_set_ne (by omega)];exact h.n,by rw [List.getElem?_set_ne (by omega)];exact h.q⟩
theorem take_all {α:Type} {l:List α} {n:Nat} (h:l.length=n) (J:List α):(l ++ J).take n=l:=by subst h;simp
theorem class_slots (h:Tab p X b c S d m e t) (hB:Boxes S X A Q name s) (hcA:c+3 < A) (hAQ:A+1 < Q) (L:List GField) (hL:L.length≤1000) (R:Nat) :
  ∀ (n i:Nat) (S:List Ob) (ls:List (ByteArray × List GSlot)),i+n=L.length→Tab p X b c S d m e { t with ls:=ls }→Boxes S X A Q name s→((lookA ls name).getD []).length+n≤1000000→R < S.length →
   ∃ S',Tab p X b c S' d m e { t with ls:=(((L.drop i).filter fun f=>!f.static_).map fun f=>(⟨s,f.name,f.type_⟩:GSlot)).foldl (slotPut name) ls }∧Boxes S' X A Q name s∧(S'.length=S.length∧∀ i,i≠c+1→S'[i]?=S[i]?) ∧
    ∀ k:AExit→St→Option (V × List Ob),K fns ⟨0,0⟩ f91_l1 ⟨[(2,vptr A),(3,vptr (A+1)),(8,vptr Q),(9,vptr R),(50,vsl L),(51,vint L.length),(52,vint i)],S⟩ k=k (.exit 4) ⟨[(2,vptr A),(3,vptr (A+1)),(8,vptr Q),(9,vptr R)],S'⟩:=by
 intro n
 induction n with
 | zero =>
  intro i S ls hi h hB hlen hR
  have hi':i=L.length:=by omega
  subst hi'
  have hcl0:=h.cl0
  have hA1:=get_lt hB.a
  have hA2:=get_lt hB.n
  have hQ1:=get_lt hB.q
  refine ⟨S,by simpa using h,hB,⟨rfl,fun _ _=>rfl⟩,fun k=>?_⟩
  rw [u91_l1]
  simp [f91_b1,hcl0,hA1,hA2,hQ1,hR]
 | succ n ih =>
  intro i S ls hi h hB hlen hR
  have hlt:i < L.length:=by omega
  have hw:=wrap_succ (i:=i) (by omega)
  have hdr:L.drop i=L[i] :: L.drop (i+1):=List.drop_eq_getElem_cons hlt
  have hcl0:=h.cl0
  have hX:=get_lt h.x
  have hx:=(List.getElem?_eq_some_iff.mp h.x).2
  have hM:=get_lt h.l
  have hm:=(List.getElem?_eq_some_iff.mp h.l).2
  have hA1:=get_lt hB.a
  have ha:=(List.getElem?_eq_some_iff.mp hB.a).2
  have hA2:=get_lt hB.n
  have ha2:=(List.getElem?_eq_some_iff.mp hB.n).2
  have hQ1:=get_lt hB.q
  have hq:=(List.getElem?_eq_some_iff.mp hB.q).2
  cases hst:L[i].static_ with
  | true =>
   have he:((L.drop i).filter fun f=>!f.static_).map (fun f=>(⟨s,f.name,f.type_⟩:GSlot))=((L.drop (i+1)).filter fun f=>!f.static_).map (fun f=>(⟨s,f.name,f.type_⟩:GSlot)):=by rw [hdr,List.filter_cons];simp [hst]
   rw [he]
   obtain ⟨S',i1,i2,i3,i4⟩:=ih (i+1) S ls (by omega) h hB (by omega) hR
   refine ⟨S',i1,i2,i3,fun k=>?_⟩
   rw [← i4 k,u91_l1]
   simp [f91_b1,hlt,hw,hst,hcl0,hA1,hA2,hQ1,hR]
  | false =>
   have he:((L.drop i).filter fun f=>!f.static_).map (fun f=>(⟨s,f.name,f.type_⟩:GSlot))=(⟨s,L[i].name,L[i].type_⟩:GSlot) :: ((L.drop (i+1)).filter fun f=>!f.static_).map (fun f=>(⟨s,f.name,f.type_⟩:GSlot)):=by rw [hdr,List.filter_cons];simp [hst]
   rw [he,List.foldl_cons]
   have hT':=h.setL (slotPut name ls ⟨s,L[i].name,L[i].type_⟩)
   have hB':=hB.set (i:=c+1) (by omega) (by omega) (.map (encL (slotPut name ls ⟨s,L[i].name,L[i].type_⟩)))
   obtain ⟨S',i1,i2,i3,i4⟩:=ih (i+1) _ (slotPut name ls ⟨s,L[i].name,L[i].type_⟩) (by omega) hT' hB' (by
    unfold slotPut
    rw [look_put]
    simp;omega) (by simpa using hR)
   refine ⟨S',i1,i2,⟨by simpa using i3.1,fun i hi=>by rw [i3.2 i hi,List.getElem?_set_ne (Ne.symm hi)]⟩,fun k=>?_⟩
   rw [← i4 k,u91_l1]
   have hcl1:=hT'.cl0
   rw [List.length_set] at hcl1
   have hb1:=h.xb
   have hbc:=h.bc
   have n2:¬ (c+1=Q):=by omega
   rcases map_L ls name with ⟨k1,k2,k3⟩ | ⟨j,v,hj,k1,hj2,k3,k4,k5⟩
   ·have e1:encL ls ++ [(vstr name,.c (.osl 4 [[.str s,.str L[i].name,.int .i64 L[i].type_.kind,.str L[i].type_.name]]))]=encL (slotPut name ls ⟨s,L[i].name,L[i].type_⟩):=by
     rw [slotPut,k2];exact k3 [(⟨s,L[i].name,L[i].type_⟩:GSlot)]
    simp [f91_b1,List.getElem?_append_left,List.getElem?_append_right,List.set_append_left,hlt,hw,hst,hcl0,hcl1,hX,hx,hM,hm,hA1,ha,hA2,ha2,hQ1,hq,hR,keyShape,k1,e1]
   ·have q1:v.length+1≤70368744177664:=by rw [k3] at hlen;simp at hlen;omega
    have q2:(v.length+1) * 56≤70368744177664:=by rw [k3] at hlen;simp at hlen;omega
    have e1:(encL ls).set j (vstr name,.c (.osl 4 (rows (v ++ [(⟨s,L[i].name,L[i].type_⟩:GSlot)]))))=encL (slotPut name ls ⟨s,L[i].name,L[i].type_⟩):=by
     rw [slotPut,k3];exact k4 _
    have e2:=k5 (.c (.b (.d (.sl (rows v)))))
    simp [f91_b1,List.getElem?_append_left,List.getElem?_append_right,List.set_append_left,hlt,hw,hst,hcl0,hcl1,hX,hx,hM,hm,hA1,ha,hA2,ha2,hQ1,hq,hR,keyShape,k1,hj,hj2,e1,e2,q1,q2,List.getElem_set,n2,List.set_set]
end
section
variable {p:GProgram} {X b c A Q:Nat} {S:List Ob} {d m e:Int} {t:Tabs} {name s:ByteArray}
def Stay (X c:Nat) (S S':List Ob):Prop:=S.length≤S'.length∧∀ i,i≠X→(i < c∨c+3 < i)→i < S.length→S'[i]?=S[i]?
theorem Stay.refl (X c:Nat) (S:List Ob):Stay X c S S:=⟨Nat.le_refl _,fun _ _ _ _=>rfl⟩
theorem Stay.set {X c:Nat} {S S':List Ob} (h:Stay X c S S') {i:Nat} (hi:i=X∨(c≤i∧i≤c+3)∨S.length≤i) (o:Ob):Stay X c S (S'.set i o):=⟨by rw [List.length_set];exact h.1,fun j a b d=>by rw [List.getElem?_set_ne (by omega)];exact h.2 j a b d⟩
theorem Stay.app {X c:Nat} {S S':List Ob} (h:Stay X c S S') (J:List Ob):Stay X c S (S' ++ J):=⟨by rw [List.length_append];have:=h.1;omega,fun j a b d=>by rw [List.getElem?_append_left (by have:=h.1;omega)];exact h.2 j a b d⟩
theorem Stay.trans {X c:Nat} {S S' T:List Ob} (h:Stay X c S S') (h':Stay X c S' T):Stay X c S T:=⟨Nat.le_trans h.1 h'.1,fun j a b d=>by rw [h'.2 j a b (by have:=h.1;omega)];exact h.2 j a b d⟩
theorem class_mets (hcA:c+3 < A) (hAQ:A+1 < Q) (env:Env) (e2:env.get 2=vptr A) (e3:env.get 3=vptr (A+1)) (e8:env.get 8=vptr Q) :
  ∀ (ms:List GMethod) (S:List Ob) (fs:List (Key2 × GMethod)) (ws:List (Key2 × ByteArray)),Tab p X b c S d m e { t with fs:=fs,ws:=ws }→Boxes S X A Q name s →
   ∃ S',Tab p X b c S' d m e { t with fs:=ms.foldl (metPut name) fs,ws:=ms.foldl (whoPut name s) ws }∧Boxes S' X A Q name s∧Stay X c S S' ∧
    ∀ k:List Ob→Option (V × List Ob),KR fns ⟨0,0⟩ 82 83 true f91_a0 f91_y0 env (rows ms) S k=k S':=by
 intro ms
 induction ms with
 | nil=>intro S fs ws h hB;exact ⟨S,h,hB,Stay.refl _ _ _,fun k=>rfl⟩
 | cons x ms ih =>
  intro S fs ws h hB
  have hF:=h.setF (metPut name fs x)
  have hW:=hF.setW (whoPut name s ws x)
  have hcl:=hW.cl
  have hT:=hW.app [cM x] (fun k=>by
   have:=hcl (1+k)
   rw [List.all_append,List.length_append,List.length_singleton,Nat.add_assoc,this]
   simp [Ob.closed,C.closed,B.closed])
  have hBq:=((hB.set (i:=c+2) (by omega) (by omega) (.map (encF (metPut name fs x)))).set (i:=c+3) (by omega) (by omega) (.map (encW (whoPut name s ws x)))).app [cM x]
  obtain ⟨S',i1,i2,i3,i4⟩:=ih _ _ _ hT hBq
  refine ⟨S',i1,i2,((((Stay.refl X c S).set (.inr (.inl (by omega))) _).set (.inr (.inl (by omega))) _).app _).trans i3,fun k=>?_⟩
  rw [← i4 k]
  have hX:=get_lt h.x
  have hx:=(List.getElem?_eq_some_iff.mp h.x).2
  have hf1:=get_lt h.f
  have hf:=(List.getElem?_eq_some_iff.mp h.f).2
  have hw1:=get_lt h.w
  have hw:=(List.getElem?_eq_some_iff.mp h.w).2
  have hA1:=get_lt hB.a
  have ha:=(List.getElem?_eq_some_iff.mp hB.a).2
  have hA2:=get_lt hB.n
  have ha2:=(List.getElem?_eq_some_iff.mp hB.n).2
  have hQ1:=get_lt hB.q
  have hq:=(List.getElem?_eq_some_iff.mp hB.q).2
  have hr:rowV true (Rec.row x)=vMethod x:=rfl
  have n1:¬ (c+2=c+3):=by omega
  rw [rs_cons,KR,hr]
  have d1:∀ a:Ob,(S.set (c+2) a).length=S.length:=fun a=>by simp
  rcases map_F fs (name,x.name) with ⟨k1,_,k3⟩ | ⟨j,v,hj,k1,hj2,_,k4,k5⟩
  ·have f1:findKey [2,2] (.agg [.b (.d (.str name)),.b (.d (.str x.name))]) (encF fs) 0=some none:=k1
   have f2:encF fs ++ [(.agg [.b (.d (.str name)),.b (.d (.str x.name))],vMethod x)]=encF (metPut name fs x):=k3 x
   rcases map_W ws (name,x.name) with ⟨k1,_,k3⟩ | ⟨j',v',hj',k1,hj2',_,k4',k5'⟩
   ·have w1:findKey [2,2] (.agg [.b (.d (.str name)),.b (.d (.str x.name))]) (encW ws) 0=some none:=k1
    have w2:encW ws ++ [(.agg [.b (.d (.str name)),.b (.d (.str x.name))],vstr s)]=encW (whoPut name s ws x):=k3 s
    simp [f91_a0,f91_y0,List.getElem?_append_left,List.getElem?_append_right,List.set_append_left,List.set_append_right,List.getElem_set,List.set_set,e2,e3,e8,hX,hx,hf1,hf,hw1,hw,hA1,ha,hA2,ha2,hQ1,hq,keyShape,n1,f1,f2,w1,w2]
   ·have w1:findKey [2,2] (.agg [.b (.d (.str name)),.b (.d (.str x.name))]) (encW ws) 0=some (some (j',vstr v')):=k1
    have w2:(encW ws).set j' (.agg [.b (.d (.str name)),.b (.d (.str x.name))],vstr s)=encW (whoPut name s ws x):=k4' s
    simp [f91_a0,f91_y0,List.getElem?_append_left,List.getElem?_append_right,List.set_append_left,List.set_append_right,List.getElem_set,List.set_set,e2,e3,e8,hX,hx,hf1,hf,hw1,hw,hA1,ha,hA2,ha2,hQ1,hq,keyShape,n1,f1,f2,w1,w2,hj']
  ·have f1:findKey [2,2] (.agg [.b (.d (.str name)),.b (.d (.str x.name))]) (encF fs) 0=some (some (j,vMethod v)):=k1
   have f2:(encF fs).set j (.agg [.b (.d (.str name)),.b (.d (.str x.name))],vMethod x)=encF (metPut name fs x):=k4 x
   rcases map_W ws (name,x.name) with ⟨k1,_,k3⟩ | ⟨j',v',hj',k1,hj2',_,k4',k5'⟩
   ·have w1:findKey [2,2] (.agg [.b (.d (.str name)),.b (.d (.str x.name))]) (encW ws) 0=some none:=k1
    have w2:encW ws ++ [(.agg [.b (.d (.str name)),.b (.d (.str x.name))],vstr s)]=encW (whoPut name s ws x):=k3 s
    simp [f91_a0,f91_y0,List.getElem?_append_left,List.getElem?_append_right,List.set_append_left,List.set_append_right,List.getElem_set,List.set_set,e2,e3,e8,hX,hx,hf1,hf,hw1,hw,hA1,ha,hA2,ha2,hQ1,hq,keyShape,n1,f1,f2,w1,w2,hj]
   ·have w1:findKey [2,2] (.agg [.b (.d (.str name)),.b (.d (.str x.name))]) (encW ws) 0=some (some (j',vstr v')):=k1
    have w2:(encW ws).set j' (.agg [.b (.d (.str name)),.b (.d (.str x.name))],vstr s)=encW (whoPut name s ws x):=k4' s
    simp [f91_a0,f91_y0,List.getElem?_append_left,List.getElem?_append_right,List.set_append_left,List.set_append_right,List.getElem_set,List.set_set,e2,e3,e8,hX,hx,hf1,hf,hw1,hw,hA1,ha,hA2,ha2,hQ1,hq,keyShape,n1,f1,f2,w1,w2,hj,hj']
theorem fn_backM (ms:List GMethod) (σ:List Ob) (lo tr:Nat):Fn fns 118 [vsl ms] σ lo tr=some (.c (.fn 149 [] [.ptr σ.length 0]),σ ++ [.cells [.b (.d (.sl (rows ms)))]]):=by
 rw [fn_eq t118 rfl rfl]
 simp [KF,params,f118,bsOf]
theorem fn_backS (ms:List ByteArray) (σ:List Ob) (lo tr:Nat):Fn fns 117 [vsl ms] σ lo tr=some (.c (.fn 148 [] [.ptr σ.length 0]),σ ++ [.cells [.b (.d (.sl (rows ms)))]]):=by
 rw [fn_eq t117 rfl rfl]
 simp [KF,params,f117,bsOf]
theorem cls_ok (hp:OkP p) (s:ByteArray):OkC (clsN (allL p) s):=by
 unfold clsN
 cases hf:findC (allL p) s with
 | none=>exact okC (by decide)
 | some c=>exact allL_ok hp c (find_mem hf).1
theorem Tab.cellsApp (h:Tab p X b c S d m e t) {cs:List C} (hc:∀ k,cs.all (C.closed (S.length+(1+k)))=true):Tab p X b c (S ++ [.cells cs]) d m e t:=by
 refine h.app _ fun k=>?_
 have:=h.cl (1+k)
 rw [List.all_append,List.length_append,List.length_singleton,Nat.add_assoc,this]
 simpa [Ob.closed] using hc k
theorem Tab.kill (h:Tab p X b c S d m e t) {q:Nat} (hq:c+3 < q):Tab p X b c (S.set q .dead) d m e t:=by
 have hx:=h.xb
 have hbc:=h.bc
 obtain ⟨σ,S0,h1,h2,h3,h4⟩:=h.tree
 have ne:∀ i,q≠i→(S.set q .dead)[i]?=S[i]?:=fun i hi=>List.getElem?_set_ne hi
 refine ⟨⟨σ,S0,h1,h2,h3,fun i a b=>by rw [ne i (by omega)];exact h4 i a b⟩,hx,?_,?_,?_,?_,?_,fun k=>?_⟩
 ·rw [ne _ (by omega)];exact h.x
 ·rw [ne _ (by omega)];exact h.r
 ·rw [ne _ (by omega)];exact h.l
 ·rw [ne _ (by omega)];exact h.f
 ·rw [ne _ (by omega)];exact h.w
 ·rw [List.length_set];exact all_set (h.cl k) rfl
theorem rows_rev {α:Type} [Rec α] (l:List α):(rows l).reverse=rows l.reverse:=by simp [rows]
theorem class_each (hp:OkP p) (hP:hierP p=0) (hcA:c+3 < A) (env:Env) (e2:env.get 2=vptr A) (e3:env.get 3=vptr (A+1)) :
  ∀ (ns:List ByteArray) (S:List Ob) (t:Tabs),(∀ s ∈ ns,s ∈ namesOf (allL p))→Tab p X b c S d m e t→S[A]?=some (.cells [.b (.ptr X 0)])→S[A+1]?=some (.cells [.b (.d (.str name))])→((lookA t.ls name).getD []).length+14 * ns.length≤100000 →
   ∃ S',Tab p X b c S' d m e (ns.foldl (rowStep (allL p) name) t)∧Stay X c S S' ∧
    ∀ k:List Ob→Option (V × List Ob),KR fns ⟨0,0⟩ 38 39 false f91_a1 f91_y1 env (rows ns) S k=k S':=by
 intro ns
 induction ns with
 | nil=>intro S t _ h _ _ _;exact ⟨S,h,Stay.refl _ _ _,fun k=>rfl⟩
 | cons s ns ih =>
  intro S t hns h hA hN hlen
  have hA1:=get_lt hA
  have hA2:=get_lt hN
  have hs:=hns s List.mem_cons_self
  have hX:=get_lt h.x
  have hok:=cls_ok hp s
  generalize hC:clsN (allL p) s=cl at hok
  have hT1:=h.cellsApp (cs:=[.b (.d (.str s))]) (fun k=>by simp [C.closed,B.closed])
  have hT2:=hT1.cellsApp (cs:=[.b (.d (.str cl.name)),.b (.d (.bool cl.iface)),.b (.d (.str cl.super)),.b (.d (.sl (rows cl.ifaces))),.b (.d (.sl (rows cl.fields))),.b (.d (.sl (rows cl.methods)))]) (fun k=>by simp [C.closed,B.closed])
  have hB:Boxes (S ++ [Ob.cells [.b (.d (.str s))]] ++ [cC cl]) X A S.length name s:=⟨get_app (get_app hA _) _,get_app (get_app hN _) _,get_app (by simp) _⟩
  obtain ⟨S1,s1,s2,s3,s4⟩:=class_slots hT2 hB hcA (by omega) cl.fields (by have:=hok.fields;omega) (S.length+1) cl.fields.length 0 _ t.ls (by omega) hT2 hB (by have:=hok.fields;simp only [List.length_cons] at hlen;omega) (by simp)
  simp only [List.drop_zero,Int.natCast_zero] at s1 s4
  have e1:(cl.fields.filter fun f=>!f.static_).map (fun f=>(⟨s,f.name,f.type_⟩:GSlot))=slN (allL p) s:=by rw [slN,hC]
  rw [e1] at s1
  have hS1:S1.length=S.length+2:=by rw [s3.1];simp
  have hT3:=s1.cellsApp (cs:=[.b (.d (.sl (rows cl.methods)))]) (fun k=>by simp [C.closed,B.closed])
  have hT4:=hT3.kill (q:=S1.length) (by omega)
  have hset:(S1 ++ [Ob.cells [.b (.d (.sl (rows cl.methods)))]]).set S1.length .dead=S1 ++ [.dead]:=by rw [List.set_append_right _ _ (Nat.le_refl _)];simp
  rw [hset] at hT4
  have hB4:=s2.app [.dead]
  obtain ⟨S2,m1,m2,m3,m4⟩:=class_mets (t:={ t with ls:=(slN (allL p) s).foldl (slotPut name) t.ls }) (Q:=S.length) hcA (by omega) (downE [(2,vptr A),(3,vptr (A+1)),(8,vptr S.length),(81,.c (.fn 149 [] [.ptr S1.length 0]))]) rfl rfl rfl cl.methods.reverse (S1 ++ [.dead]) t.fs t.ws hT4 hB4
  have e2':(⟨t.rs,(slN (allL p) s).foldl (slotPut name) t.ls,t.st,cl.methods.reverse.foldl (metPut name) t.fs,cl.methods.reverse.foldl (whoPut name s) t.ws⟩:Tabs)=rowStep (allL p) name t s:=by rw [rowStep,hC]
  have hm:Tab p X b c S2 d m e (rowStep (allL p) name t s):=by rw [← e2'];exact m1
  have hlen':((lookA (rowStep (allL p) name t s).ls name).getD []).length+14 * ns.length≤100000:=by
   simp only [rowStep]
   rw [slots_fold,if_pos rfl,List.length_append]
   have:(slN (allL p) s).length≤14:=by
    unfold slN
    rw [hC,List.length_map]
    exact Nat.le_trans (List.length_filter_le _ _) hok.fields
   simp only [List.length_cons] at hlen
   omega
  obtain ⟨S3,i1,i2,i3⟩:=ih S2 _ (fun x hx=>hns x (List.mem_cons_of_mem _ hx)) hm m2.a m2.n hlen'
  refine ⟨S3,by rw [List.foldl_cons];exact i1,?_,fun k=>?_⟩
  ·have s3':Stay X c (S ++ [Ob.cells [.b (.d (.str s))]] ++ [cC cl]) S1:=⟨Nat.le_of_eq s3.1.symm,fun i _ b _=>s3.2 i (by omega)⟩
   exact (((((Stay.refl X c S).app _).app _).trans s3').app _ |>.trans m3).trans i2
  rw [← i3 k]
  have hx:=(List.getElem?_eq_some_iff.mp h.x).2
  have ha:=(List.getElem?_eq_some_iff.mp hA).2
  obtain ⟨σ,hb,hT⟩:=(hT1).tr
  obtain ⟨l,hl,hcl⟩:=fn_tClass hT
  have hl:=hl hP
  subst hl
  subst hb
  have hcall:=fun lo tr hlo=>hcl s lo tr hlo
  obtain ⟨c',f1,f2,f3⟩:=find_name hs
  have hC':c'=cl:=by rw [← hC,clsN,f1];rfl
  subst hC'
  rw [f1] at hcall
  simp only [Option.getD_some,Option.isSome_some,hP,decide_true,Bool.and_true] at hcall
  have hr:rowV false (Rec.row s)=vstr s:=rfl
  have hbk:=fn_backM c'.methods
  have hml:c'.methods.length≤140737488355328:=by have:=hok.methods;omega
  have hz:S.length < S1.length:=by omega
  have hz1:S.length+1 < S1.length:=by omega
  have hq1:=get_lt s2.q
  have hA3:=get_lt s2.a
  have hA4:=get_lt s2.n
  have d1:∀ (a:Ob),(S ++ [a]).length=S.length+1:=fun a=>by simp
  simp only [List.append_assoc,List.singleton_append] at hcall s4
  have hR:S1[S.length+1]?=some (cC c'):=by
   rw [s3.2 _ (by omega)];simp [List.getElem?_append_right]
  obtain ⟨G,hG⟩:∃ G:List Ob→Option (V × List Ob),∀ σ,KR fns ⟨0,0⟩ 38 39 false f91_a1 f91_y1 env (rows ns) σ k=G σ:=⟨_,fun _=>rfl⟩
  have hR1:=get_lt hR
  have hR2:=(List.getElem?_eq_some_iff.mp hR).2
  have hset2:(S1 ++ [Ob.cells [.b (.d (.sl (rows c'.methods)))]]).set S1.length .dead=S1 ++ [.dead]:=hset
  rw [hG,rs_cons,KR,hr]
  simp only [hG]
  simp only [downE,V.down,C.down] at m4
  simp [f91_a1,f91_y1,List.getElem?_append_left,List.getElem?_append_right,List.set_append_left,List.set_append_right,List.getElem_set,e2,e3,hX,hx,hA1,ha,hcall,s4,hR1,hR2,hbk,u91_r0,rngGo,rows_rev,hml,downE,m4]
theorem fn_tabClass (hp:OkP p) (hP:hierP p=0) (h:Tab p X b c S d m e t) (hs:name ∈ namesOf (allL p)) (hlen:((lookA t.ls name).getD []).length≤1000) :
  ∃ S',Tab p X b c S' d m e (classStep (allL p) t name)∧Stay X c S S'∧Fn fns 91 [vptr X,vstr name] S 0 0=some (.tup [],S'):=by
 have hL:=all_len hp
 have hrl:=rowL_len (allL p) name
 have hX:=get_lt h.x
 have hT1:=h.cellsApp (cs:=[.b (.ptr X 0)]) (fun k=>by simp [C.closed,B.closed];omega)
 have hT2:=hT1.cellsApp (cs:=[.b (.d (.str name))]) (fun k=>by simp [C.closed,B.closed])
 have hcS:=get_lt h.w
 have hA:(S ++ [Ob.cells [.b (.ptr X 0)]] ++ [Ob.cells [.b (.d (.str name))]])[S.length]?=some (.cells [.b (.ptr X 0)]):=by simp [List.getElem?_append_right]
 have hN:(S ++ [Ob.cells [.b (.ptr X 0)]] ++ [Ob.cells [.b (.d (.str name))]])[S.length+1]?=some (.cells [.b (.d (.str name))]):=by simp [List.getElem?_append_right]
 have hrow:=fun k=>class_row hp hP hT2 hA (by simp) k name hs [] (by simp;omega)
 rw [List.nil_append] at hrow
 have hT3:=hT2.setR (putA t.rs name (rowL (allL p) name))
 have hT4:=hT3.cellsApp (cs:=[.dead].map fun _:Ob=>(.b (.d (.sl (rows (rowL (allL p) name)))):C)) (fun k=>by simp [C.closed,B.closed])
 have hT5:=hT4.kill (q:=S.length+2) (by omega)
 generalize hS3:(S ++ [Ob.cells [.b (.ptr X 0)]] ++ [Ob.cells [.b (.d (.str name))]]).set c (.map (encR (putA t.rs name (rowL (allL p) name))))=S3 at hT3 hT4 hT5
 have hS3l:S3.length=S.length+2:=by rw [← hS3];simp
 have hset:∀ (x:Ob),(S3 ++ [x]).set (S.length+2) .dead=S3 ++ [.dead]:=fun x=>by rw [List.set_append_right _ _ (by omega),hS3l];simp
 rw [hset] at hT5
 have hA5:(S3 ++ [Ob.dead])[S.length]?=some (.cells [.b (.ptr X 0)]):=by rw [List.getElem?_append_left (by omega),← hS3,List.getElem?_set_ne (by omega)];exact hA
 have hN5:(S3 ++ [Ob.dead])[S.length+1]?=some (.cells [.b (.d (.str name))]):=by rw [List.getElem?_append_left (by omega),← hS3,List.getElem?_set_ne (by omega)];exact hN
 obtain ⟨S',c1,c2,c3⟩:=class_each (name:=name) hp hP (A:=S.length) (by omega) (downE [(2,vptr S.length),(3,vptr (S.length+1)),(37,.c (.fn 148 [] [.ptr (S.length+2) 0]))]) rfl rfl (rowL (allL p) name).reverse (S3 ++ [.dead]) { t with rs:=putA t.rs name (rowL (allL p) name) } (fun s hm=>rowL_sub hp hP hs s (by simpa using hm)) hT5 hA5 hN5 (by simp only [List.length_reverse];omega)
 refine ⟨S',c1,?_,?_⟩
 ·have:Stay X c S S3:=by rw [← hS3];exact (((Stay.refl X c S).app _).app _).set (.inr (.inl (by omega))) _
  exact (this.app _).trans c2
 rw [fn_eq t91 rfl rfl]
 have hx:=(List.getElem?_eq_some_iff.mp h.x).2
 have hbk:=fn_backS (rowL (allL p) name)
 have hr1:=get_lt h.r
 have hr2:=(List.getElem?_eq_some_iff.mp h.r).2
 simp only [downE,V.down,C.down] at c3
 have hml:(rowL (allL p) name).length≤140737488355328:=by omega
 simp only [List.append_assoc,List.singleton_append,rs_nil] at hrow hS3
 rw [List.set_append_left _ _ hr1] at hS3
 rcases map_R t.rs name with ⟨k1,_,k3⟩ | ⟨j,v,hj,k1,hj2,_,k4,k5⟩
 ·have k3:=k3 (rowL (allL p) name)
  simp [KF,params,f91,List.getElem?_append_left,List.getElem?_append_right,List.set_append_left,List.set_append_right,List.getElem_set,hX,hx,hr1,hr2,hrow,keyShape,k1,k3,hS3,hS3l,hbk,u91_r1,rngGo,rows_rev,hml,downE,hset,c3]
 ·have k4:=k4 (rowL (allL p) name)
  simp [KF,params,f91,List.getElem?_append_left,List.getElem?_append_right,List.set_append_left,List.set_append_right,List.getElem_set,hX,hx,hr1,hr2,hrow,keyShape,k1,k4,hS3,hS3l,hbk,u91_r1,rngGo,rows_rev,hml,downE,hset,c3]
end
theorem fn_equalT (a b:List GType) (ha:a.length≤1000000) (hb:b.length≤1000000) (σ:List Ob) (lo tr:Nat):Fn fns 154 [vsl a,vsl b] σ lo tr=some (vbool (decide (a=b)),σ):=by
 refine fn_gen t154 rfl (σ1:=[]) rfl rfl ?_ σ lo tr
 by_cases hl:a.length=b.length
 ·have hl':(a.length:Int)=b.length:=by omega
  have L:∀ k:AExit→St→Option (V × List Ob),K fns ⟨0,0⟩ f154_l0 ⟨[(0,vsl a),(1,vsl b),(12,vint a.length),(13,vint 0)],[]⟩ k=if a=b then k (.exit 0) ⟨[],[]⟩ else k .ret ⟨[(4,vbool false)],[]⟩:=fun k =>
   scan_eq (a:=a) (b:=b) (X:=fun i=>K fns ⟨0,0⟩ f154_l0 ⟨[(0,vsl a),(1,vsl b),(12,vint a.length),(13,vint i)],[]⟩ k) hl
    (fun i hi hj=>by
     have hw:=wrap_succ (i:=i) (by omega)
     show K fns _ f154_l0 _ k=_
     rw [u154_l0]
     by_cases e:a[i]=b[i]
     ·simp [f154_b0,hi,hj,hw,e]
     ·simp [f154_b0,hi,hj,hw,e])
    (by show K fns _ f154_l0 _ k=_;rw [u154_l0];simp [f154_b0])
  by_cases e:a=b
  ·subst e
   simp [KF,params,f154,L]
  ·rw [hl] at L
   simp [KF,params,f154,hl',L,e]
 ·have hl':¬ (a.length:Int)=b.length:=by omega
  have e:¬ a=b:=fun e=>hl (by rw [e])
  simp [KF,params,f154,hl',e]
def alikeB (a b:GMethod):Bool:=decide (a.static_=b.static_) && (decide (a.params=b.params) && decide (a.ret=b.ret))
theorem fn_alike (a b:GMethod) (ha:OkM a) (hb:OkM b) (σ:List Ob) (lo tr:Nat):Fn fns 125 [vMethod a,vMethod b] σ lo tr=some (vbool (alikeB a b),σ):=by
 refine fn_gen t125 rfl (σ1:=[]) rfl rfl ?_ σ lo tr
 have he:=fn_equalT a.params b.params (by have:=ha.params;omega) (by have:=hb.params;omega)
 unfold alikeB
 cases h2:decide (a.params=b.params)<;>rw [h2] at he
 all_goals
  cases a1:a.static_<;>cases b1:b.static_
  all_goals simp [KF,params,f125,a1,b1,he]
theorem fn_voidT (x:GType) (σ:List Ob) (lo tr:Nat):Fn fns 120 [vType x] σ lo tr=some (vbool (decide (x.kind=1)),σ):=by
 refine fn_gen t120 rfl (σ1:=[]) rfl rfl ?_ σ lo tr
 simp [KF,params,f120]
section
variable {p:GProgram} {X b c:Nat} {S:List Ob} {d m e:Int} {t:Tabs}
def unkB (p:GProgram) (x:GType):Bool:=!decide (x.name=⟨#[]⟩) && !(findC (allL p) x.name).isSome
theorem fn_unknown (hP:hierP p=0) (h:Tab p X b c S d m e t) (x:GType) (lo tr:Nat) (hlo:lo≤S.length):Fn fns 122 [vptr X,vType x] S lo tr=some (vbool (unkB p x),S):=by
 rw [fn_eq t122 rfl rfl]
 have hm:max lo S.length=S.length:=by omega
 have hX:=get_lt h.x
 have hx:=(List.getElem?_eq_some_iff.mp h.x).2
 have hT1:=h.cellsApp (cs:=[.b (.d (.int .i64 x.kind)),.b (.d (.str x.name))]) (fun k=>by simp [C.closed,B.closed])
 obtain ⟨σ,hb,hT⟩:=hT1.tr
 obtain ⟨l,hl,hcl⟩:=fn_tClass hT
 have hl:=hl hP
 subst hl
 subst hb
 have hcall:=fun lo tr hlo=>hcl x.name lo tr hlo
 simp only [hP,decide_true,Bool.and_true] at hcall
 unfold unkB
 generalize (findC (allL p) x.name).getD noC=cc at hcall
 cases hs:(findC (allL p) x.name).isSome<;>rw [hs] at hcall<;>by_cases hn:x.name=⟨#[]⟩
 all_goals first | rw [hn] at hcall | skip
 all_goals simp [KF,params,f122,List.getElem?_append_left,List.getElem?_append_right,List.set_append_right,hm,hX,hx,hcall,hn]
end
theorem scan_some {α β γ:Type} {l:List α} {f:α→Option γ} {X:Nat→β} {r:γ→β} {e:β} (h:∀ i (hi:i < l.length),X i=(f l[i]).elim (X (i+1)) r) (he:X l.length=e):X 0=(l.findSome? f).elim e r:=by
 have key:∀ n i,i+n=l.length→X i=((l.drop i).findSome? f).elim e r:=by
  intro n
  induction n with
  | zero =>
   intro i hi
   have h1:i=l.length:=by omega
   subst h1
   rw [he];simp
  | succ n ih =>
   intro i hi
   have hia:i < l.length:=by omega
   rw [h i hia,ih (i+1) (by omega),List.drop_eq_getElem_cons hia,List.findSome?_cons]
   cases f l[i]<;>rfl
 simpa using key l.length 0 (by omega)
theorem fn_idxL (l:List GSlot) (g:Nat) (fst cap:List B) (σ:List Ob) (lo tr:Nat) (hlo:lo≤σ.length) (hc:(C.fn g fst cap).closed 0=false) (hf:(C.fn g fst cap).closed σ.length=true) (hσ:σ.all (Ob.closed σ.length)=true) (hs:l.length≤1000000) (p:GSlot→Bool)
  (hp:∀ i (h:i < l.length),∀ tr',Fn fns g (fst.map (fun b=>.c (.b b)) ++ [vSlot l[i]] ++ cap.map (fun b=>.c (.b b))) σ σ.length tr'=some (vbool (p l[i]),σ)):Fn fns 153 [vsl l,.c (.fn g fst cap)] σ lo tr=some (vint (idxI p l),σ):=by
 rw [fn_eq t153 rfl (by simp only [blindOk,List.all_cons,List.all_nil,V.closed,V.closed1,hc,Bool.false_and,Bool.and_false])]
 have hm:max lo σ.length=σ.length:=by omega
 have L:∀ (t:Nat) (k:AExit→St→Option (V × List Ob)),K fns ⟨σ.length,t⟩ f153_l0 ⟨[(0,vsl l),(1,.c (.fn g fst cap)),(7,vint l.length),(8,vint 0)],σ⟩ k=match l.findIdx? p with | some i=>k .ret ⟨[(4,vint i)],σ⟩ | none=>k (.exit 0) ⟨[],σ⟩:=fun t k =>
  scan_find (l:=l) (p:=p) (X:=fun i=>K fns ⟨σ.length,t⟩ f153_l0 ⟨[(0,vsl l),(1,.c (.fn g fst cap)),(7,vint l.length),(8,vint i)],σ⟩ k)
   (r:=fun i=>k .ret ⟨[(4,vint i)],σ⟩)
   (fun i hi=>by
    have hw:=wrap_succ (i:=i) (by omega)
    have h1:=hp i hi
    simp only [C.closed] at hf
    simp only [List.append_assoc,List.singleton_append] at h1
    show K fns _ f153_l0 _ k=_
    rw [u153_l0]
    cases hq:p l[i]<;>simp only [hq] at h1<;>simp [f153_b0,hi,hw,h1,hf,hσ])
   (by
    simp only [C.closed] at hf
    show K fns _ f153_l0 _ k=_;rw [u153_l0];simp [f153_b0,hσ])
 unfold idxI
 cases hq:l.findIdx? p<;>simp [KF,params,f153,hm,L,hq]
theorem fn_contL (l:List GSlot) (g:Nat) (fst cap:List B) (σ:List Ob) (lo tr:Nat) (hlo:lo≤σ.length) (hc:(C.fn g fst cap).closed 0=false) (hf:(C.fn g fst cap).closed σ.length=true) (hσ:σ.all (Ob.closed σ.length)=true) (hs:l.length≤1000000) (p:GSlot→Bool)
  (hp:∀ i (h:i < l.length),∀ tr',Fn fns g (fst.map (fun b=>.c (.b b)) ++ [vSlot l[i]] ++ cap.map (fun b=>.c (.b b))) σ σ.length tr'=some (vbool (p l[i]),σ)):Fn fns 123 [vsl l,.c (.fn g fst cap)] σ lo tr=some (vbool (l.any p),σ):=by
 rw [fn_eq t123 rfl (by simp only [blindOk,List.all_cons,List.all_nil,V.closed,V.closed1,hc,Bool.false_and,Bool.and_false])]
 rw [← idxI_ge]
 have h1:=fun lo tr hlo=>fn_idxL l g fst cap σ lo tr hlo hc hf hσ hs p hp
 have hm:max lo σ.length=σ.length:=by omega
 simp [KF,params,f123,hm,h1]
theorem fn_over1 (x:GSlot) (f:GField) {σ:List Ob} {q:Nat} (hq:σ[q]?=some (.cells [.b (.d (.str f.name)),.b (.d (.int .i64 f.type_.kind)),.b (.d (.str f.type_.name)),.b (.d (.bool f.static_))])) (lo tr:Nat) (hlo:lo≤σ.length):Fn fns 124 [vSlot x,vptr q] σ lo tr=some (vbool (decide (x.name=f.name)),σ):=by
 rw [fn_eq t124 rfl rfl]
 have hm:max lo σ.length=σ.length:=by omega
 have h1:=get_lt hq
 have h2:=(List.getElem?_eq_some_iff.mp hq).2
 simp [KF,params,f124,List.getElem?_append_left,List.getElem?_append_right,hm,h1,h2]
structure Small (t:Tabs):Prop where
 ls:∀ k,((lookA t.ls k).getD []).length≤1000
 fs:∀ k o,lookA t.fs k=some o→OkM o
abbrev slotsT (t:Tabs) (s:ByteArray):List GSlot:=(lookA t.ls s).getD []
def overF (t:Tabs) (s:ByteArray) (f:GField):Bool:=!f.static_ && (slotsT t s).any fun x=>decide (x.name=f.name)
def overM (t:Tabs) (s:ByteArray) (m:GMethod):Bool:=match lookA t.fs (s,m.name) with | some o=>!alikeB m o | none=>false
def overT (p:GProgram) (t:Tabs) (x:GClass):Int:=if x.iface then 0 else if x.fields.any (overF t (supN (allL p) x.name)) then 6 else if x.methods.any (overM t (supN (allL p) x.name)) then 8 else 0
section
variable {p:GProgram} {X b c:Nat} {S:List Ob} {d m e:Int} {t:Tabs}
abbrev cF (f:GField):Ob:=.cells [.b (.d (.str f.name)),.b (.d (.int .i64 f.type_.kind)),.b (.d (.str f.type_.name)),.b (.d (.bool f.static_))]
theorem over_fields (h:Tab p X b c S d m e t) (hsm:Small t) (x:GClass) (hok:OkC x) (s:ByteArray) (lo t':Nat) (hlo:lo≤S.length) (k:AExit→St→Option (V × List Ob)) (R0:Nat) (hB:R0 < S.length) :
  K fns ⟨lo,t'⟩ f93_l0 ⟨[(0,vptr X),(3,vptr R0),(5,vstr s),(26,vsl x.fields),(27,vint x.fields.length),(28,vint 0)],S⟩ k =
   if x.fields.any (overF t s) then k .ret ⟨[(4,vint 6)],S⟩ else k (.exit 0) ⟨[(0,vptr X),(3,vptr R0),(5,vstr s)],S⟩:=by
 have hcl0:=h.cl0
 have hX:=get_lt h.x
 have hx:=(List.getElem?_eq_some_iff.mp h.x).2
 have hl1:=get_lt h.l
 have hl2:=(List.getElem?_eq_some_iff.mp h.l).2
 have hfl:=hok.fields
 refine scan_any (l:=x.fields) (p:=overF t s) (X:=fun i=>K fns ⟨lo,t'⟩ f93_l0 ⟨[(0,vptr X),(3,vptr R0),(5,vstr s),(26,vsl x.fields),(27,vint x.fields.length),(28,vint i)],S⟩ k) (fun i hi=>?_) ?_
 ·have hw:=wrap_succ (i:=i) (by omega)
  show K fns _ f93_l0 _ k=_
  rw [u93_l0]
  generalize hf:x.fields[i]=f
  have hT1:=h.cellsApp (cs:=[.b (.d (.str f.name)),.b (.d (.int .i64 f.type_.kind)),.b (.d (.str f.type_.name)),.b (.d (.bool f.static_))]) (fun k=>by simp [C.closed,B.closed])
  have hcont:=fun tr=>fn_contL (slotsT t s) 124 [] [.ptr S.length 0] (S ++ [cF f]) lo tr (by simp;omega) (by simp [C.closed,B.closed]) (by simp [C.closed,B.closed]) hT1.cl0 (Nat.le_trans (hsm.ls s) (by decide)) (fun y=>decide (y.name=f.name)) (fun j hj tr'=>fn_over1 (slotsT t s)[j] f (by simp) _ _ (by simp))
  cases hst:f.static_ with
  | true =>
   simp [f93_b0,hi,hw,hf,hst,overF,hlo,hcl0,hX,hB]
  | false =>
   simp only [cF,hst] at hcont
   rcases map_L t.ls s with ⟨k1,k2,_⟩ | ⟨j,v,hj,k1,hj2,k2,_,_⟩
   ·have e1:slotsT t s=[]:=by simp [slotsT,k2]
    rw [e1] at hcont
    simp only [List.any_nil,vsl,rs_nil] at hcont
    simp [f93_b0,List.getElem?_append_left,hi,hw,hf,hst,overF,hlo,hcl0,hX,hx,hB,hl1,hl2,keyShape,mapOf,k1,got,bsOf,e1,hcont]
   ·have e1:slotsT t s=v:=by simp [slotsT,k2]
    rw [e1] at hcont
    cases ha:v.any fun y=>decide (y.name=f.name)<;>rw [ha] at hcont
    all_goals simp [f93_b0,List.getElem?_append_left,hi,hw,hf,hst,overF,hlo,hcl0,hX,hx,hB,hl1,hl2,keyShape,mapOf,k1,got,bsOf,e1,ha,hcont]
 ·show K fns _ f93_l0 _ k=_
  rw [u93_l0]
  simp [f93_b0,hcl0,hX,hB]
theorem got_F (t:Tabs) (k:Key2):∃ r,findKey [2,2] (.agg [.b (.d (.str k.1)),.b (.d (.str k.2))]) (encF t.fs) 0=some r∧((r=none∧lookA t.fs k=none)∨∃ i o,r=some (i,vMethod o)∧lookA t.fs k=some o):=by
 rcases map_F t.fs k with ⟨k1,k2,_⟩ | ⟨j,v,hj,k1,hj2,k2,_,_⟩
 ·exact ⟨none,k1,.inl ⟨rfl,k2⟩⟩
 ·exact ⟨_,k1,.inr ⟨j,v,rfl,k2⟩⟩
theorem over_mets (h:Tab p X b c S d m e t) (hsm:Small t) (x:GClass) (hok:OkC x) (s:ByteArray) (lo t':Nat) (hlo:lo≤S.length) (k:AExit→St→Option (V × List Ob)) :
  K fns ⟨lo,t'⟩ f93_l1 ⟨[(0,vptr X),(5,vstr s),(47,vsl x.methods),(48,vint x.methods.length),(49,vint 0)],S⟩ k =
   if x.methods.any (overM t s) then k .ret ⟨[(4,vint 8)],S⟩ else k (.exit 2) ⟨[],S⟩:=by
 have hcl0:=h.cl0
 have hX:=get_lt h.x
 have hx:=(List.getElem?_eq_some_iff.mp h.x).2
 have hl1:=get_lt h.f
 have hl2:=(List.getElem?_eq_some_iff.mp h.f).2
 have hfl:=hok.methods
 refine scan_any (l:=x.methods) (p:=overM t s) (X:=fun i=>K fns ⟨lo,t'⟩ f93_l1 ⟨[(0,vptr X),(5,vstr s),(47,vsl x.methods),(48,vint x.methods.length),(49,vint i)],S⟩ k) (fun i hi=>?_) ?_
 ·have hw:=wrap_succ (i:=i) (by omega)
  have hmo:=hok.ms _ (List.getElem_mem hi)
  show K fns _ f93_l1 _ k=_
  rw [u93_l1]
  generalize hf:x.methods[i]=f at hmo
  have hlo1:lo≤S.length+1:=by omega
  obtain ⟨r,k1,⟨rfl,k2⟩ | ⟨j,o,rfl,k2⟩⟩:=got_F t (s,f.name)
  ·simp [f93_b1,hlo1,List.getElem?_append_left,List.getElem?_append_right,List.set_append_left,List.set_append_right,hi,hw,hf,overM,k2,hlo,hcl0,hX,hx,hl1,hl2,keyShape,mapOf,k1,got]
  ·have hal:=fn_alike f o hmo (hsm.fs _ _ k2)
   cases ha:alikeB f o<;>rw [ha] at hal
   all_goals simp [f93_b1,hlo1,List.getElem?_append_left,List.getElem?_append_right,List.set_append_left,List.set_append_right,hi,hw,hf,overM,k2,ha,hal,hlo,hcl0,hX,hx,hl1,hl2,keyShape,mapOf,k1,got]
 ·show K fns _ f93_l1 _ k=_
  rw [u93_l1]
  simp [f93_b1,hcl0,hX]
theorem fn_over (hP:hierP p=0) (h:Tab p X b c S d m e t) (hsm:Small t) (x:GClass) (hok:OkC x) (lo tr:Nat) (hlo:lo≤S.length):Fn fns 93 [vptr X,vClass x] S lo tr=some (vint (overT p t x),S):=by
 rw [fn_eq t93 rfl rfl]
 have hm:max lo S.length=S.length:=by omega
 have hX:=get_lt h.x
 have hx:=(List.getElem?_eq_some_iff.mp h.x).2
 have hT1:=h.cellsApp (cs:=[.b (.d (.str x.name)),.b (.d (.bool x.iface)),.b (.d (.str x.super)),.b (.d (.sl (rows x.ifaces))),.b (.d (.sl (rows x.fields))),.b (.d (.sl (rows x.methods)))]) (fun k=>by simp [C.closed,B.closed])
 obtain ⟨σ,hb,hT⟩:=hT1.tr
 subst hb
 have hsup:=fun lo tr hlo=>fn_tSuper hT x.name lo tr hlo
 rw [supP_N hP] at hsup
 have L1:=fun lo t' hlo k=>over_fields hT1 hsm x hok (supN (allL p) x.name) lo t' hlo k S.length (by simp)
 have L2:=fun lo t' hlo k=>over_mets hT1 hsm x hok (supN (allL p) x.name) lo t' hlo k
 unfold overT
 generalize supN (allL p) x.name=s at *
 cases hi:x.iface
 ·simp only [hi] at hsup L1 L2
  cases b1:x.fields.any (overF t s)
  ·cases b2:x.methods.any (overM t s)
   all_goals simp [KF,params,f93,List.getElem?_append_left,List.getElem?_append_right,hm,hX,hx,hi,hsup,L1,L2,b1,b2]
  ·simp [KF,params,f93,List.getElem?_append_left,List.getElem?_append_right,hm,hX,hx,hi,hsup,L1,b1]
 ·simp [KF,params,f93,List.getElem?_append_left,List.getElem?_append_right,hm,hX,hx,hi]
end
def keepsM (t:Tabs) (a:ByteArray) (m:GMethod):Option Int:=match lookA t.fs (a,m.name) with | some o=>if alikeB m o then none else some 8 | none=>some 5
def keepsS (p:GProgram) (t:Tabs) (a s:ByteArray):Option Int:=if (clsN (allL p) s).iface && underP p a s then (clsN (allL p) s).methods.findSome? (keepsM t a) else none
def keepsT (p:GProgram) (t:Tabs) (x:GClass):Int:=if x.iface then 0 else ((namesOf (allL p)).findSome? (keepsS p t x.name)).getD 0
section
variable {p:GProgram} {X b c:Nat} {S:List Ob} {d m e:Int} {t:Tabs}
theorem keeps_mets (h:Tab p X b c S d m e t) (hsm:Small t) (x:GClass) {R0:Nat} (hR:S[R0]?=some (cC x)) (y:GClass) (hok:OkC y) (N:List ByteArray) (j:Nat) (lo t':Nat) (hlo:lo≤S.length) (k:AExit→St→Option (V × List Ob)) :
  K fns ⟨lo,t'⟩ f94_l0 ⟨[(0,vptr X),(3,vptr R0),(21,vsl N),(22,vint N.length),(23,vint j),(51,vsl y.methods),(52,vint y.methods.length),(53,vint 0)],S⟩ k =
   (y.methods.findSome? (keepsM t x.name)).elim (k (.exit 2) ⟨[(0,vptr X),(3,vptr R0),(21,vsl N),(22,vint N.length),(23,vint j)],S⟩) fun r=>k .ret ⟨[(4,vint r)],S⟩:=by
 have hcl0:=h.cl0
 have hX:=get_lt h.x
 have hx:=(List.getElem?_eq_some_iff.mp h.x).2
 have hl1:=get_lt h.f
 have hl2:=(List.getElem?_eq_some_iff.mp h.f).2
 have hR1:=get_lt hR
 have hR2:=(List.getElem?_eq_some_iff.mp hR).2
 have hfl:=hok.methods
 have hlo1:lo≤S.length+1:=by omega
 refine scan_some (l:=y.methods) (f:=keepsM t x.name) (r:=fun r=>k .ret ⟨[(4,vint r)],S⟩) (X:=fun i=>K fns ⟨lo,t'⟩ f94_l0 ⟨[(0,vptr X),(3,vptr R0),(21,vsl N),(22,vint N.length),(23,vint j),(51,vsl y.methods),(52,vint y.methods.length),(53,vint i)],S⟩ k) (fun i hi=>?_) ?_
 ·have hw:=wrap_succ (i:=i) (by omega)
  have hmo:=hok.ms _ (List.getElem_mem hi)
  show K fns _ f94_l0 _ k=_
  rw [u94_l0]
  generalize hf:y.methods[i]=f at hmo
  obtain ⟨r,k1,⟨rfl,k2⟩ | ⟨j,o,rfl,k2⟩⟩:=got_F t (x.name,f.name)
  ·simp [f94_b0,hlo1,List.getElem?_append_left,List.getElem?_append_right,List.set_append_left,List.set_append_right,hi,hw,hf,keepsM,k2,hlo,hcl0,hX,hx,hl1,hl2,hR1,hR2,keyShape,mapOf,k1,got]
  ·have hal:=fn_alike f o hmo (hsm.fs _ _ k2)
   cases ha:alikeB f o<;>rw [ha] at hal
   all_goals simp [f94_b0,hlo1,List.getElem?_append_left,List.getElem?_append_right,List.set_append_left,List.set_append_right,hi,hw,hf,keepsM,k2,ha,hal,hlo,hcl0,hX,hx,hl1,hl2,hR1,hR2,keyShape,mapOf,k1,got]
 ·show K fns _ f94_l0 _ k=_
  rw [u94_l0]
  simp [f94_b0,hcl0,hX,hR1]
theorem keeps_names (hp:OkP p) (hP:hierP p=0) (h:Tab p X b c S d m e t) (hsm:Small t) (x:GClass) {R0:Nat} (hR:S[R0]?=some (cC x)) (lo t':Nat) (hlo:lo≤S.length) (k:AExit→St→Option (V × List Ob)) :
  K fns ⟨lo,t'⟩ f94_l1 ⟨[(0,vptr X),(3,vptr R0),(21,vsl (namesOf (allL p))),(22,vint (namesOf (allL p)).length),(23,vint 0)],S⟩ k =
   ((namesOf (allL p)).findSome? (keepsS p t x.name)).elim (k (.exit 0) ⟨[],S⟩) fun r=>k .ret ⟨[(4,vint r)],S⟩:=by
 have hcl0:=h.cl0
 have hX:=get_lt h.x
 have hx:=(List.getElem?_eq_some_iff.mp h.x).2
 have hR1:=get_lt hR
 have hR2:=(List.getElem?_eq_some_iff.mp hR).2
 have hL:=all_len hp
 have hnl:(namesOf (allL p)).length≤100:=by simpa [namesOf] using hL
 have hlo1:lo≤S.length+1:=by omega
 refine scan_some (l:=namesOf (allL p)) (f:=keepsS p t x.name) (r:=fun r=>k .ret ⟨[(4,vint r)],S⟩) (X:=fun i=>K fns ⟨lo,t'⟩ f94_l1 ⟨[(0,vptr X),(3,vptr R0),(21,vsl (namesOf (allL p))),(22,vint (namesOf (allL p)).length),(23,vint i)],S⟩ k) (fun i hi=>?_) ?_
 ·have hw:=wrap_succ (i:=i) (by omega)
  have hs:(namesOf (allL p))[i] ∈ namesOf (allL p):=List.getElem_mem hi
  generalize hsn:(namesOf (allL p))[i]=s at hs
  obtain ⟨cl,f1,f2,f3⟩:=find_name hs
  have hok:=allL_ok hp cl f2
  have hcN:clsN (allL p) s=cl:=by rw [clsN,f1];rfl
  have hT1:=h.cellsApp (cs:=[.b (.d (.str cl.name)),.b (.d (.bool cl.iface)),.b (.d (.str cl.super)),.b (.d (.sl (rows cl.ifaces))),.b (.d (.sl (rows cl.fields))),.b (.d (.sl (rows cl.methods)))]) (fun k=>by simp [C.closed,B.closed])
  obtain ⟨σ0,hb0,hT0⟩:=h.tr
  obtain ⟨l,hl,hcl⟩:=fn_tClass hT0
  have hl:=hl hP
  subst hl
  have hcall:=fun lo tr hlo=>hcl s lo tr hlo
  rw [f1,hb0] at hcall
  simp only [Option.getD_some,Option.isSome_some,hP,decide_true,Bool.and_true] at hcall
  obtain ⟨σ1,hb1,hT1'⟩:=hT1.tr
  have hund:=fn_tUnder hT1' x.name s
  rw [hb1] at hund
  have L:=fun lo t' hlo k=>keeps_mets hT1 hsm x (get_app hR _) cl hok (namesOf (allL p)) i lo t' hlo k
  show K fns _ f94_l1 _ k=_
  rw [u94_l1]
  unfold keepsS
  rw [hcN]
  have hcl1:=hT1.cl0
  cases hif:cl.iface
  ·simp only [hif] at hund L hcl1
   simp [f94_b1,List.getElem?_append_left,List.getElem?_append_right,List.set_append_left,List.set_append_right,hi,hw,hsn,hlo,hlo1,hcl0,hX,hx,hR1,hR2,hcall,hif]
  ·simp only [hif] at hund L hcl1
   cases hu:underP p x.name s<;>rw [hu] at hund
   ·simp [f94_b1,List.getElem?_append_left,List.getElem?_append_right,List.set_append_left,List.set_append_right,hi,hw,hsn,hlo,hlo1,hcl0,hX,hx,hR1,hR2,hcall,hif,hund]
   ·have L1:=fun k=>L lo t' (by simp;omega) k
    cases hm:cl.methods.findSome? (keepsM t x.name)<;>rw [hm] at L1
    all_goals simp [f94_b1,List.getElem?_append_left,List.getElem?_append_right,List.set_append_left,List.set_append_right,hi,hw,hsn,hlo,hlo1,hcl0,hX,hx,hR1,hR2,hcall,hif,hund,L1,hm,-List.all_eq_true]
 ·show K fns _ f94_l1 _ k=_
  rw [u94_l1]
  simp [f94_b1,hcl0,hX,hR1]
theorem fn_keeps (hp:OkP p) (hP:hierP p=0) (h:Tab p X b c S d m e t) (hsm:Small t) (x:GClass) (lo tr:Nat) (hlo:lo≤S.length):Fn fns 94 [vptr X,vClass x] S lo tr=some (vint (keepsT p t x),S):=by
 rw [fn_eq t94 rfl rfl]
 have hm:max lo S.length=S.length:=by omega
 have hX:=get_lt h.x
 have hx:=(List.getElem?_eq_some_iff.mp h.x).2
 have hT1:=h.cellsApp (cs:=[.b (.d (.str x.name)),.b (.d (.bool x.iface)),.b (.d (.str x.super)),.b (.d (.sl (rows x.ifaces))),.b (.d (.sl (rows x.fields))),.b (.d (.sl (rows x.methods)))]) (fun k=>by simp [C.closed,B.closed])
 obtain ⟨σ,hb,hT⟩:=hT1.tr
 obtain ⟨az,_,hT2⟩:=hT.ok hP
 have ht:=hT2.t
 rw [hb] at ht
 have hbT:=h.bc
 have hw:=get_lt h.w
 have ht1:b+3 < S.length:=by omega
 rw [List.getElem?_append_left ht1] at ht
 have ht2:=(List.getElem?_eq_some_iff.mp ht).2
 have L:=fun lo t' hlo k=>keeps_names hp hP hT1 hsm x (R0:=S.length) (by simp) lo t' hlo k
 unfold keepsT
 cases hi:x.iface
 ·simp only [hi] at L
  cases hk:(namesOf (allL p)).findSome? (keepsS p t x.name)
  all_goals
   rw [hk] at L
   generalize namesOf (allL p)=N at *
   simp [KF,params,f94,List.getElem?_append_left,List.getElem?_append_right,hm,hX,hx,hi,ht1,ht2,L]
 ·simp [KF,params,f94,List.getElem?_append_left,List.getElem?_append_right,hm,hX,hx,hi]
end
end
end Go.Proofs.YteeofkbhopioiaaGreatDoor.Am
