/- Lemmas that the rows' proofs rest on; each states its own conditions. -/
import Derived.Test.YteeofkbhopioiaaGreatDoorMachB
import Derived.MapKept
set_option linter.unusedSimpArgs false
set_option linter.unusedVariables false
set_option linter.unusedSectionVars false
namespace Go.Proofs.YteeofkbhopioiaaGreatDoor.Am
open Go
section
variable {P:Program} {N:Nat} {g g' g1 g2:G} {w w':World} {Pr:Nat→Prop} {s s':St} {σ:List Ob}
def G.frz (g:G) (S:Nat→Bool):G:={ g with kind:=fun b=>match g.kind b with | .obj l=>if S l=true then .frozen else .obj l | k=>k }
theorem frz_kind {S:Nat→Bool} {b l:Nat} (h:g.kind b=.obj l):(g.frz S).kind b=if S l=true then .frozen else .obj l:=by simp only [G.frz,h]
theorem frz_kind' {S:Nat→Bool} {b:Nat} (h:∀ l,g.kind b≠.obj l):(g.frz S).kind b=g.kind b:=by
 show (match g.kind b with | .obj l=>if S l=true then .frozen else .obj l | k=>k)=g.kind b
 split
 ·rename_i l hk;exact absurd hk (h l)
 ·rfl
theorem frz_st {S:Nat→Bool} {a:Addr} {v:Value} (h:g.st w a v):(g.frz S).st w a v:=by
 obtain ⟨h1,h2,h3⟩:=h
 refine ⟨h1,h2,?_⟩
 rcases h3 with h3 | ⟨m,h3,h4⟩
 ·exact .inl (by rw [frz_kind' (fun l=>by rw [h3];simp)];exact h3)
 ·exact .inr ⟨m,by rw [frz_kind' (fun l=>by rw [h3];simp)];exact h3,h4⟩
theorem Ext.frz (S:Nat→Bool):Ext g w (g.frz S) w:=⟨fun _ _ h=>frz_st h,fun _ _ h=>h,Nat.le_refl _,fun _ arr _ _ h=>⟨arr,h,rfl⟩,rfl,rfl,rfl⟩
theorem Keep.frz (S:Nat→Bool) (p:Place):Keep g (g.frz S) p:=fun b m h1 h2=>⟨h1,by rw [frz_kind' (fun l=>by rw [h2];simp)];exact h2⟩
theorem Fr.frz (S:Nat→Bool) (hp:∀ b,Pr b→∀ l,g.kind b≠.obj l):Fr Pr g w (g.frz S) w:=fun b hb=>⟨rfl,frz_kind' (hp b hb),rfl⟩
theorem datasF_get {h:C→Option D}:∀ {cs:List C} {ds:List D},datasF h cs=some ds→ds.length=cs.length∧∀ (j:Nat) (d:D),ds[j]?=some d→∃ c,cs[j]?=some c∧h c=some d
 | [],ds,h=>by simp [datasF] at h;subst h;simp
 | c :: cs,ds,h=>by
  simp only [datasF] at h
  split at h
  ·rename_i x xs hx hxs
   cases h
   obtain ⟨h1,h2⟩:=datasF_get hxs
   refine ⟨by simp [h1],fun j d hj=>?_⟩
   cases j with
   | zero=>simp at hj;subst hj;exact ⟨c,rfl,hx⟩
   | succ j=>simpa using h2 j d (by simpa using hj)
  ·cases h
theorem chunkF_get {h:C→Option D}:∀ {k n:Nat} {cs:List C} {rows:List (List D)},chunkF h k n cs=some rows→rows.length=n∧(∀ r ∈ rows,r.length=k) ∧
  ∀ (i:Nat) (row:List D) (j:Nat) (d:D),rows[i]?=some row→row[j]?=some d→∃ c,cs[i * k+j]?=some c∧h c=some d
 | k,0,cs,rows,h=>by simp [chunkF] at h;subst h;simp
 | k,n+1,cs,rows,h=>by
  simp only [chunkF] at h
  split at h
  ·rename_i r rs hr hrs
   split at h
   ·rename_i hk
    cases h
    obtain ⟨h1,h2,h3⟩:=chunkF_get hrs
    obtain ⟨d1,d2⟩:=datasF_get hr
    refine ⟨by simp [h1],by simpa [hk] using h2,fun i row j d hi hj=>?_⟩
    cases i with
    | zero =>
     simp at hi;subst hi
     obtain ⟨c,c1,c2⟩:=d2 j d hj
     rw [List.getElem?_take] at c1
     split at c1
     ·exact ⟨c,by simpa using c1,c2⟩
     ·cases c1
    | succ i =>
     obtain ⟨c,c1,c2⟩:=h3 i row j d (by simpa using hi) hj
     rw [List.getElem?_drop] at c1
     exact ⟨c,by rw [Nat.succ_mul,Nat.add_right_comm,Nat.add_comm];exact c1,c2⟩
   ·cases h
  ·cases h
theorem frzD_rep (hI:Inv g w Pr σ) {S:Nat→Bool}:∀ {f:Nat} {c:C} {d:D} {p:Place} {u:Value},frzD S σ f c=some d→RepC g w Pr p c u→RepD ((g.frz S).st w) d u
 | 0,c,d,p,u,h,hc=>by simp [frzD] at h
 | f+1,c,d,p,u,h,hc=>by
  simp only [frzD] at h
  split at h
  ·cases h;exact RepD.mono (fun _ _ h=>frz_st h) hc
  ·cases h;exact RepD.mono (fun _ _ h=>frz_st h) hc.1
  ·cases h
   have:u=.slice none 0 0:=hc
   rw [this];exact RepD.nil
  ·cases h
   obtain ⟨ad,cap,rfl⟩:=hc
   exact RepD.sl [] ad 0 cap (fun _ _=>undef) (fun h=>absurd rfl h) (by simp) (by simp) (by simp) (by simp)
  ·rename_i k l off len
   split at h
   case isFalse=>cases h
   rename_i hnl
   split at h
   case h_2=>cases h
   rename_i cs hcs
   split at h
   case h_2=>cases h
   rename_i rows hrows
   cases h
   obtain ⟨b,q,cap,arr,ty,hl,e1,e2,e3,e4⟩:=hc
   obtain ⟨b',q',arr',ty',h3,h4,h5,h6,h7⟩:=hI.ob _ _ (getCells_eq hcs)
   rw [hl] at h3
   cases h3
   rw [e3] at h5
   cases h5
   obtain ⟨r1,r2,r3⟩:=chunkF_get hrows
   rw [e1,← r1]
   have hcell:∀ (i:Nat) (row:List D) (j:Nat) (d:D),rows[i]?=some row→row[j]?=some d→∃ u,arr[q+off+i * k+j]?=some u∧RepD ((g.frz S).st w) d u:=by
    intro i row j d hi hj
    obtain ⟨c,c1,c2⟩:=r3 i row j d hi hj
    rw [List.getElem?_drop] at c1
    obtain ⟨u,u1,u2,u3⟩:=h7 _ _ c1
    refine ⟨u,?_,frzD_rep hI c2 u3⟩
    rw [← u1]
    congr 1
    omega
   refine RepD.sl rows _ k cap (fun i j=>arr.getD (q+off+i * k+j) undef) (fun _=>rfl) (by omega) r2 ?_ ?_
   ·intro i row j d hi hj
    obtain ⟨u,u1,u2⟩:=hcell i row j d hi hj
    exact ⟨rfl,by rw [cell_of e3];simp [Array.getD_eq_getD_getElem?,u1],.inl (by rw [frz_kind h4,if_pos hnl])⟩
   ·intro i row j d hi hj
    obtain ⟨u,u1,u2⟩:=hcell i row j d hi hj
    simpa [Array.getD_eq_getD_getElem?,u1] using u2
  ·cases h
theorem killAll_get:∀ (L:List Nat) (σ:List Ob) (l:Nat),(killAll L σ)[l]?=if l ∈ L∧l < σ.length then some .dead else σ[l]?
 | [],σ,l=>by simp [killAll]
 | m :: L,σ,l=>by
  rw [killAll,killAll_get L (σ.set m .dead) l]
  by_cases h1:l ∈ L
  ·by_cases h2:l < σ.length
   ·simp [h1,h2]
   ·simp [h1,h2,List.getElem?_eq_none (Nat.le_of_not_lt h2)]
  ·by_cases h3:l=m
   ·subst h3
    by_cases h2:l < σ.length
    ·simp [h2,List.getElem?_set]
    ·simp [h2,List.getElem?_eq_none (Nat.le_of_not_lt h2)]
   ·have h4:¬ m=l:=fun e=>h3 e.symm
    simp [h1,h3,List.getElem?_set_ne h4]
theorem killAll_len:∀ (L:List Nat) (σ:List Ob),(killAll L σ).length=σ.length
 | [],σ=>rfl
 | m :: L,σ=>by rw [killAll,killAll_len L];simp
theorem frz_inv (hI:Inv g w Pr σ) {L:List Nat}:Inv (g.frz fun l=>L.contains l) w Pr (killAll L σ) where
 len:=by rw [killAll_len];exact hI.len
 ob l o ho:=by
  rw [killAll_get] at ho
  split at ho
  ·cases ho;trivial
  ·rename_i hn
   refine RepOb.frame (Ext.frz _) (fun i=>Keep.frz _ _) (fun b hb=>⟨rfl,?_⟩) (hI.ob l o ho)
   have hl:=(List.getElem?_eq_some_iff.mp ho).1
   have:L.contains l=false:=by
    cases hc:L.contains l with
    | false=>rfl
    | true=>exact absurd ⟨by simpa using hc,hl⟩ hn
   rw [frz_kind hb,this];rfl
 lt b h:=by
  refine hI.lt b (fun hk=>h ?_)
  rw [frz_kind' (fun l=>by rw [hk];simp)];exact hk
 pr b hb:=by
  obtain ⟨h1,h2,h3⟩:=hI.pr b hb
  refine ⟨h1,fun l=>?_,h3⟩
  rw [frz_kind' h2];exact h2 l
 gl:=hI.gl.mono fun _ _ h=>frz_st h
theorem ok_ld_frz {a:Act} {F:Oracle} {bd:Bd} (o:Oper) {t:TypeId} {x:Operand} {x':Opd} {v:V} (ho:o.op=.load t x) (hx:chkOpd x x'=true)
  (hd:(P.underlying t).isSome=true) (hs:isStr P t=false)
  (hv:stepOp F bd s (.ld .frz none x')=some (v,s')) (hI:Inv g w Pr s.σ) (hE:EnvOk g w Pr s.env a):OpOk P o a g w Pr s' v:=by
 have h1:=opd_rd hE hx (.tmp 0)
 simp only [stepOp] at hv
 split at hv
 case h_2=>cases hv
 rename_i l off hr
 rw [hr] at h1
 obtain ⟨b,q,hl,h2⟩:=h1
 split at hv
 case h_2=>cases hv
 rename_i cs hcs
 split at hv
 case h_2=>cases hv
 rename_i c hc
 split at hv
 case h_2=>cases hv
 rename_i d hfz
 split at hv
 case isFalse=>cases hv
 cases hv
 obtain ⟨b',q',arr,ty,h3,h4,h5,h6,h7⟩:=hI.ob _ _ (getCells_eq hcs)
 rw [hl] at h3
 cases h3
 obtain ⟨u,u1,u2,u3⟩:=h7 _ _ hc
 have hcell:w.cell? ⟨b,q+off,none⟩=some u:=by rw [cell_of h5];exact u1
 have hrun:=run_ld1 (P:=P) (t:=t) hd hs hcell
 refine ⟨u,w,g.frz (fun l=>(arrsOf s.σ 4 c).contains l),fun _ _ _=>rfl,.inl ?_,Ext.frz _,Fr.frz _ (fun b hb=>(hI.pr b hb).2.1),frz_inv hI,hE.ext (Ext.frz _) (fun _ _=>Keep.frz _ _),fun e _=>frzD_rep hI hfz u3⟩
 simp only [execOp,ho,h2]
 simp only [Sem.run_bind,hrun,Result.andThen_ok]
 rfl
theorem ok_ld_frzN {a:Act} {F:Oracle} {bd:Bd} (o:Oper) {t:TypeId} {x:Operand} {x':Opd} {n:Nat} {i:TypeInfo} {v:V} (ho:o.op=.load t x) (hx:chkOpd x x'=true)
  (hd:(P.underlying t).isSome=true) (hi:P.info? t=some i) (hs:isStr P t=true) (hn:n=i.size)
  (hv:stepOp F bd s (.ld .frz (some n) x')=some (v,s')) (hI:Inv g w Pr s.σ) (hE:EnvOk g w Pr s.env a):OpOk P o a g w Pr s' v:=by
 have h1:=opd_rd hE hx (.tmp 0)
 simp only [stepOp] at hv
 split at hv
 case h_2=>cases hv
 rename_i l hr
 rw [hr] at h1
 obtain ⟨b,q,hl,h2⟩:=h1
 split at hv
 case h_2=>cases hv
 rename_i cs hcs
 split at hv
 case h_2=>cases hv
 rename_i ds hfz
 split at hv
 case isFalse=>cases hv
 rename_i hall
 simp only [Option.some.injEq,Prod.mk.injEq] at hv
 obtain ⟨rfl,rfl⟩:=hv
 simp only [Bool.and_eq_true,decide_eq_true_eq,List.all_eq_true,Bool.not_eq_true'] at hall
 obtain ⟨hall,hlo,hlen⟩:=hall
 have hlen:=Nat.eq_of_beq_eq_true hlen
 have hnl:l ∉ cs.flatMap (arrsOf s.σ 4):=fun h=>by have:=(hall l h).2;simp at this
 obtain ⟨b',q',arr,ty,h3,h4,h5,h6,h7⟩:=hI.ob _ _ (getCells_eq hcs)
 rw [hl] at h3
 cases h3
 obtain ⟨d1,d2⟩:=datasF_get hfz
 subst hn
 have hc:0+i.size≤cs.length:=by omega
 obtain ⟨us,u1,u2,u3⟩:=take_list (R:=fun i c u=>u.oneCell'=true∧RepC g w Pr (.cell l,[i]) c u) h7 hc
 have hrun:=run_ldN (P:=P) (w:=w) (b:=b) (o:=q+0) hd hs hi us u1 (fun j u hj=>(cell_of h5 _).trans (u2 j u hj))
 generalize hS:(fun l=>(cs.flatMap (arrsOf s.σ 4)).contains l)=S at *
 have hI2:Inv (g.frz S) w Pr (killAll (cs.flatMap (arrsOf s.σ 4)) s.σ):=hS ▸ frz_inv hI
 have hkl:(killAll (cs.flatMap (arrsOf s.σ 4)) s.σ)[l]?=some (.cells cs):=by
  rw [killAll_get,if_neg (fun h=>hnl h.1)];exact getCells_eq hcs
 have hnew:∀ j d,ds[j]?=some d→∃ u,us[j]?=some u∧arr[q+j]?=some u∧u.oneCell'=true∧RepD ((g.frz S).st w) d u:=by
  intro j d hj
  obtain ⟨c,c1,c2⟩:=d2 j d hj
  have hjl:=(List.getElem?_eq_some_iff.mp c1).1
  obtain ⟨u,k1,k2,k3⟩:=u3 j c (by rw [List.getElem?_take,if_pos (by omega)];simpa using c1)
  exact ⟨u,k1,by simpa using u2 j u k1,k2,frzD_rep hI c2 k3⟩
 refine ⟨.agg us.toArray,w,g.frz S,fun _ _ _=>rfl,.inl ?_,Ext.frz _,Fr.frz _ (fun b hb=>(hI.pr b hb).2.1),?_,hE.ext (Ext.frz _) (fun _ _=>Keep.frz _ _),fun e _=>?_⟩
 ·simp only [execOp,ho,h2]
  simp only [Sem.run_bind,hrun,Result.andThen_ok]
  rfl
 ·refine ⟨by simpa using hI2.len,fun l' ob hob=>?_,hI2.lt,hI2.pr,hI2.gl⟩
  rw [List.getElem?_set] at hob
  split at hob
  ·subst_vars
   split at hob
   ·cases hob
    refine ⟨b,q,arr,ty,hl,?_,h5,by simpa [d1] using h6,fun j c hj=>?_⟩
    ·rw [frz_kind h4,if_neg];simpa using hnl
    ·simp only [List.getElem?_map,Option.map_eq_some_iff] at hj
     obtain ⟨d,hd',rfl⟩:=hj
     obtain ⟨u,e1,e2,e3,e4⟩:=hnew j d hd'
     exact ⟨u,e2,e3,e4⟩
   ·cases hob
  ·exact hI2.ob _ _ hob
 ·refine ⟨us.toArray,rfl,by simp [u1,d1,hlen],fun j c hj=>?_⟩
  simp only [List.getElem?_map,Option.map_eq_some_iff] at hj
  obtain ⟨d,hd',rfl⟩:=hj
  obtain ⟨u,e1,e2,e3,e4⟩:=hnew j d hd'
  exact ⟨u,by simpa using e1,e3,e4⟩
end
def scalarD:TypeDesc→Bool
 | .string=>true
 | .int _=>true
 | .bool=>true
 | _=>false
def keyTy (P:Program) (kt:TypeId) (ks:List Nat):Bool :=
 (flatTy P 50 kt == some ks) && (!isStr P kt || (ks.length == P.cellsOf kt && Nat.ble 2 ks.length)) && (match P.underlying kt with
  | some (.struct fs)=>fs.toList.all fun f=>!isStr P f.type && (P.info? f.type).isSome && decide (f.offset < P.cellsOf kt) && (match P.underlying f.type with | some d=>scalarD d | none=>false)
  | some d=>scalarD d
  | none=>false)
def notOsl:C→Bool
 | .osl _ _=>false
 | _=>true
def chkZeroV:Value→V→Bool
 | z,.c c=>(match c with | .osl _ _=>false | _=>true) && chkConst z (.c c)
 | .agg arr,.agg cs=>chkZero (.agg arr) cs && cs.all notOsl
 | _,_=>false
def KeyRep (g:G) (w:World):V→Value→Prop
 | .c (.b (.d d)),u=>RepD (g.st w) d u
 | .agg cs,u=>∃ arr:Array Value,u=.agg arr∧arr.size=cs.length∧Vals g w cs arr 0
 | _,_=>True
section
variable {P:Program} {g g':G} {w w':World} {Pr:Nat→Prop} {s s':St} {a:Act} {F:Oracle} {bd:Bd}
theorem KeyRep.of1 {r:Root} {path:List Nat} {x:V} {u:Value} (h:RepV1 g w Pr r path x u):KeyRep g w x u:=by
 cases x with
 | c y =>
  cases y with
  | b z=>cases z<;>first | exact h | trivial
  | _=>trivial
 | agg cs =>
  obtain ⟨arr,h1,h2,h3⟩:=h
  exact ⟨arr,h1,h2,fun i x hi=>by obtain ⟨u,q1,_,q3⟩:=h3 i _ hi;exact ⟨u,by simpa using q1,q3⟩⟩
 | tup vs=>exact h.elim
theorem KeyRep.of {r:Root} {x:V} {u:Value} (h:RepV g w Pr r x u):KeyRep g w x u:=by
 cases x with
 | c y=>exact KeyRep.of1 (x:=.c y) h
 | agg cs=>exact KeyRep.of1 (x:=.agg cs) h
 | tup vs=>trivial
theorem down_down' (x:V):x.down.down=x.down:=by
 cases x with
 | c y=>cases y<;>rfl
 | agg cs =>
  simp only [V.down,V.agg.injEq,List.map_map]
  exact List.map_congr_left fun c _=>by cases c<;>rfl
 | tup vs=>rfl
theorem run_getObj_map' {b:Nat} {es:Array MapEntry} {clock:Nat} (hb:w.heap[b]?=some (.map es clock)):(getObj b).run P w=.ok (.map es clock) w:=MapKept.run_getObj_map hb
theorem byt_eq (a b:ByteArray):(a == b)=(a.toList == b.toList):=by
 rw [ByteArray.toList_eq,ByteArray.toList_eq]
 have h:(a == b)=(a.data == b.data):=rfl
 rw [h]
 by_cases e:a.data=b.data
 ·simp [e]
 ·have e2:a.data.toList≠b.data.toList:=fun h=>e (Array.toList_inj.mp h)
  have e3:(a.data == b.data)=false:=by simpa using e
  rw [e3]
  symm
  simpa using e2
theorem run_checkKey1 {n:Nat} {kt:TypeId} {d:TypeDesc} {empty:Bool} {u:Value} (hu:P.underlying kt=some d) (hd:scalarD d=true):(Instr.checkKey empty (n+1) kt u).run P w=.ok () w:=by
 unfold Instr.checkKey
 simp only [Sem.run_bind,run_underlying hu,Result.andThen_ok]
 cases d<;>simp_all [scalarD]
theorem run_checkKey0 {kt:TypeId} {ks:List Nat} (hk:keyTy P kt ks=true) {empty:Bool} {u:Value} (hu:isStr P kt=true→∃ arr,u=.agg arr∧arr.size=P.cellsOf kt):(Instr.checkKey empty 10000 kt u).run P w=.ok () w:=by
 simp only [keyTy,Bool.and_eq_true] at hk
 obtain ⟨_,h3⟩:=hk
 split at h3
 ·rename_i fs hfs
  obtain ⟨arr,rfl,hsz⟩:=hu (by simp [isStr,hfs])
  unfold Instr.checkKey
  simp only [Sem.run_bind,run_underlying hfs,Result.andThen_ok]
  rw [← Array.forIn_toList]
  generalize fs.toList=fl at h3
  have key:∀ fl:List Field,(fl.all fun f =>
    !isStr P f.type && (P.info? f.type).isSome && decide (f.offset < P.cellsOf kt) && (match P.underlying f.type with | some d=>scalarD d | none=>false))=true→Sem.run P (forIn fl PUnit.unit fun f __s =>
      if f.name ≠ "_" then do
       let __do_lift ← part f.type arr f.offset
       Instr.checkKey empty 9999 f.type __do_lift
       pure (ForInStep.yield PUnit.unit)
      else pure (ForInStep.yield PUnit.unit)) w=.ok PUnit.unit w:=by
   intro fl
   induction fl with
   | nil=>intro _;simp
   | cons f fl ih =>
    intro h
    rw [List.all_cons,Bool.and_eq_true] at h
    have ih:=ih h.2
    simp only [Bool.and_eq_true,Bool.not_eq_true',decide_eq_true_eq] at h
    obtain ⟨⟨⟨⟨h0,h1⟩,h2⟩,h3⟩,_⟩:=h
    obtain ⟨i,hi⟩:=Option.isSome_iff_exists.mp h1
    have hund:∃ d,P.underlying f.type=some d∧scalarD d=true:=by
     split at h3
     ·rename_i d hd;exact ⟨d,hd,h3⟩
     ·cases h3
    obtain ⟨d,hd,hd'⟩:=hund
    have hp:=run_part (P:=P) (w:=w) (t:=f.type) (arr:=arr) (off:=f.offset) (by rw [hd];rfl) hi (fun _=>by omega)
    have hc:=run_checkKey1 (P:=P) (w:=w) (n:=9998) (kt:=f.type) (empty:=empty) (u:=partOf P f.type arr f.offset) hd hd'
    rw [List.forIn_cons]
    by_cases hn:f.name = "_"
    ·simp only [hn,ne_eq,not_true_eq_false,if_false,Sem.run_bind,Sem.run_pure,Result.andThen_ok]
     exact ih
    ·simp only [hn,ne_eq,not_false_eq_true,if_true,Sem.run_bind,Sem.run_pure,Result.andThen_ok,hp,hc]
     exact ih
  rw [key fl h3]
  rfl
 ·rename_i d _ hs;exact run_checkKey1 hs h3
 ·cases h3
theorem run_checkKey {kt:TypeId} {ks:List Nat} (hk:keyTy P kt ks=true) {key:V} (hs:keyShape ks key=true) {empty:Bool} {u:Value} (hu:KeyRep g w key u):(Instr.checkKey empty 10000 kt u).run P w=.ok () w:=by
 refine run_checkKey0 hk (fun hn=>?_)
 simp only [keyTy,Bool.and_eq_true,hn,Bool.not_true,Bool.false_or,beq_iff_eq] at hk
 obtain ⟨⟨_,h1,h2⟩,_⟩:=hk
 have h2:=Nat.le_of_ble_eq_true h2
 unfold keyShape at hs
 split at hs
 ·simp at hs;omega
 ·simp only [Bool.and_eq_true,beq_iff_eq] at hs
  obtain ⟨arr,e1,e2,_⟩:=hu
  exact ⟨arr,e1,by omega⟩
 ·cases hs
theorem sameNow_struct {fs:Array Field} {u v:Value}:Instr.sameNow (.struct fs) u v=none:=by simp [Instr.sameNow]
theorem eqKey_ok {kt:TypeId} {ks:List Nat} (hk:keyTy P kt ks=true) {x y:V} {u v:Value} {b:Bool} (hx:KeyRep g w x u) (hy:KeyRep g w y v) (h:eqKey ks x y=some b) :
  (isStr P kt=false→∃ d,P.underlying kt=some d∧Instr.sameNow d u v=some b)∧(isStr P kt=true→(Op.equal kt u v).run P w=.ok b w)∧(b=true→Instr.sameBits 10000 v u=true):=by
 simp only [keyTy,Bool.and_eq_true,beq_iff_eq] at hk
 obtain ⟨⟨hf,hs⟩,_⟩:=hk
 have same1:∀ {n k:Nat} {dx dy:D} {p:Bool} {u v:Value},D.same k dx dy=some p→RepD (g.st w) dx u→RepD (g.st w) dy v→p=true→Instr.sameBits n v u=true:=by
  intro n k dx dy p u v hp h1 h2 hpt
  unfold D.same at hp
  split at hp
  ·cases hp;cases h1;cases h2;cases n<;>simp_all [Instr.sameBits]
  ·split at hp
   ·rename_i a k' b hkk;subst hkk;cases hp;cases h1;cases h2;cases n<;>simp_all [Instr.sameBits]
   ·cases hp
  ·cases hp;cases h1;cases h2;cases n<;>simp_all [Instr.sameBits,byt_eq]
  ·cases hp
 unfold eqKey at h
 split at h
 ·obtain ⟨l1,l2⟩:=sames_len h
  obtain ⟨k,ks',e⟩:∃ k ks',ks=k :: ks':=by cases ks with | nil=>simp at l1 | cons k ks'=>exact ⟨k,ks',rfl⟩
  subst e
  have e:ks'=[]:=by simpa using l1.symm
  subst e
  obtain ⟨dx,dy,p,q,rfl,rfl,hp,hq,rfl⟩:=sames_cons h
  simp only [sames,Option.some.injEq] at hq
  subst hq
  have h1:RepD (g.st w) dx u:=hx
  have h2:RepD (g.st w) dy v:=hy
  refine ⟨fun hn=>?_,fun hn=>?_,fun hb=>same1 hp h1 h2 (by simpa using hb)⟩
  ·obtain ⟨k',e,h0,h3,h4⟩:=flat_scalar hf hn
   cases e
   unfold D.same at hp
   split at hp
   ·cases hp;cases h1;cases h2;exact ⟨_,h0 rfl,by simp [Instr.sameNow]⟩
   ·split at hp
    ·rename_i a k' b hkk;subst hkk;cases hp;cases h1;cases h2
     obtain ⟨kk,hkk⟩:=h3 rfl
     exact ⟨_,hkk,by simp [Instr.sameNow]⟩
    ·cases hp
   ·cases hp;cases h1;cases h2;exact ⟨_,h4 rfl,by simp [Instr.sameNow,byt_eq]⟩
   ·cases hp
  ·rw [hn] at hs
   simp at hs
 ·rename_i xs ys
  split at h
  case isFalse=>cases h
  rename_i h2
  have h2:=Nat.le_of_ble_eq_true h2
  obtain ⟨arr,rfl,l1,c1⟩:=hx
  obtain ⟨brr,rfl,l2,c2⟩:=hy
  obtain ⟨m1,m2⟩:=sames_len h
  refine ⟨fun hn=>?_,fun hn=>?_,fun hb=>?_⟩
  ·obtain ⟨k',e,_⟩:=flat_scalar hf hn
   rw [e] at h2;simp at h2
  ·rw [hn] at hs
   simp only [Bool.not_true,Bool.false_or,Bool.and_eq_true,beq_iff_eq] at hs
   have h0:=run_flat (P:=P) (w:=w) 50 kt ks hf Op.maxDepth (by decide) xs ys arr brr b 0 0 h c1 c2 (fun _=>hs.1)
   simp only [partOf,hn,if_true,Nat.zero_add] at h0
   rw [show arr.extract 0 (P.cellsOf kt)=arr by apply Array.extract_eq_self_of_le;omega,show brr.extract 0 (P.cellsOf kt)=brr by apply Array.extract_eq_self_of_le;omega] at h0
   exact h0
  ·subst hb
   have key:∀ (ks:List Nat) (xs ys:List C) (us vs:List Value),sames ks xs ys=some true→xs.length=us.length→ys.length=vs.length→(∀ (i:Nat) (x:D),xs[i]?=some (.b (.d x))→∃ u,us[i]?=some u∧RepD (g.st w) x u)→(∀ (i:Nat) (x:D),ys[i]?=some (.b (.d x))→∃ u,vs[i]?=some u∧RepD (g.st w) x u) →
     us.length=vs.length∧((vs.zip us).all fun (x,y)=>Instr.sameBits 9999 x y)=true:=by
    intro ks
    induction ks with
    | nil =>
     intro xs ys us vs h e1 e2 _ _
     obtain ⟨m1,m2⟩:=sames_len h
     have q1:us=[]:=List.length_eq_zero_iff.mp (by rw [← e1];simpa using m1)
     have q2:vs=[]:=List.length_eq_zero_iff.mp (by rw [← e2];simpa using m2)
     subst q1;subst q2;simp
    | cons k ks ih =>
     intro xs ys us vs h e1 e2 c1 c2
     obtain ⟨m1,m2⟩:=sames_len h
     cases xs with
     | nil=>simp at m1
     | cons x xs =>
     cases ys with
     | nil=>simp at m2
     | cons y ys =>
     cases us with
     | nil=>simp at e1
     | cons u us =>
     cases vs with
     | nil=>simp at e2
     | cons v vs =>
     obtain ⟨dx,dy,p,q,rfl,rfl,hp,hq,hpq⟩:=sames_cons h
     have hpq':p=true∧q=true:=by simpa using hpq.symm
     obtain ⟨rfl,rfl⟩:=hpq'
     obtain ⟨i1,i2⟩:=ih xs ys us vs hq (by simpa using e1) (by simpa using e2) (fun i x hi=>c1 (i+1) x (by simpa using hi)) (fun i x hi=>c2 (i+1) x (by simpa using hi))
     obtain ⟨u',u1,u2⟩:=c1 0 dx rfl
     obtain ⟨v',v1,v2⟩:=c2 0 dy rfl
     simp at u1 v1
     subst u1;subst v1
     refine ⟨by simp [i1],?_⟩
     simp only [List.zip_cons_cons,List.all_cons,Bool.and_eq_true]
     exact ⟨same1 hp u2 v2 rfl,i2⟩
   obtain ⟨k1,k2⟩:=key ks xs ys arr.toList brr.toList h (by simpa using l1.symm) (by simpa using l2.symm) (fun i x hi=>by obtain ⟨u,q1,q2⟩:=c1 i x hi;exact ⟨u,by simpa using q1,q2⟩) (fun i x hi=>by obtain ⟨u,q1,q2⟩:=c2 i x hi;exact ⟨u,by simpa using q1,q2⟩)
   simp only [Instr.sameBits,Bool.and_eq_true,beq_iff_eq]
   exact ⟨by simpa using k1.symm,k2⟩
 ·cases h
def Hit (ks:List Nat) (key:V) (es:List (V × V)) (ms:List MapEntry) (i:Nat) (r:Option (Nat × V)) (q:Option (Nat × Value)):Prop :=
 (r=none∧q=none)∨∃ j e m,es[j]?=some e∧ms[j]?=some m∧r=some (i+j,e.2)∧q=some (i+j,m.val)∧eqKey ks key e.1=some true
theorem find_ok {kt:TypeId} {ks:List Nat} (hk:keyTy P kt ks=true) {key:V} {u:Value} (hu:KeyRep g w key u):∀ (es:List (V × V)) (ms:List MapEntry) (i:Nat) (r:Option (Nat × V)),es.length=ms.length →
  (∀ (j:Nat) (e:V × V) (m:MapEntry),es[j]?=some e→ms[j]?=some m→KeyRep g w e.1 m.key)→findKey ks key es i=some r →
  ∃ q,(isStr P kt=false→∃ d,P.underlying kt=some d∧Instr.findNow d u ms i=some q)∧(isStr P kt=true→(Instr.findAsking kt u ms i).run P w=.ok q w)∧Hit ks key es ms i r q:=by
 have hd:(P.underlying kt).isSome=true:=by
  simp only [keyTy,Bool.and_eq_true,beq_iff_eq] at hk
  obtain ⟨_,_,h⟩:=flat_info hk.1.1
  exact h
 obtain ⟨d0,hd0⟩:=Option.isSome_iff_exists.mp hd
 intro es
 induction es with
 | nil =>
  intro ms i r hl _ h
  have:ms=[]:=List.length_eq_zero_iff.mp hl.symm
  subst this
  simp only [findKey,Option.some.injEq] at h
  subst h
  exact ⟨none,fun _=>⟨d0,hd0,rfl⟩,fun _=>by simp [Instr.findAsking],.inl ⟨rfl,rfl⟩⟩
 | cons e es ih =>
  intro ms i r hl hm h
  cases ms with
  | nil=>simp at hl
  | cons m ms =>
  obtain ⟨k,v⟩:=e
  simp only [findKey] at h
  split at h
  ·rename_i hb
   cases h
   obtain ⟨e1,e2,_⟩:=eqKey_ok hk hu (hm 0 _ _ rfl rfl) hb
   refine ⟨some (i,m.val),fun hn=>?_,fun hn=>?_,.inr ⟨0,(k,v),m,rfl,rfl,rfl,rfl,hb⟩⟩
   ·obtain ⟨d,h1,h2⟩:=e1 hn
    exact ⟨d,h1,by simp [Instr.findNow,h2]⟩
   ·simp [Instr.findAsking,e2 hn]
  ·rename_i hb
   obtain ⟨e1,e2,_⟩:=eqKey_ok hk hu (hm 0 _ _ rfl rfl) hb
   obtain ⟨q,q1,q2,q3⟩:=ih ms (i+1) r (by simpa using hl) (fun j e m he hm'=>hm (j+1) e m (by simpa using he) (by simpa using hm')) h
   refine ⟨q,fun hn=>?_,fun hn=>?_,?_⟩
   ·obtain ⟨d,h1,h2⟩:=e1 hn
    obtain ⟨d',h3,h4⟩:=q1 hn
    rw [h1] at h3
    cases h3
    exact ⟨d,h1,by simp [Instr.findNow,h2,h4]⟩
   ·simp [Instr.findAsking,e2 hn,q2 hn]
   ·rcases q3 with h5 | ⟨j,e,m',h6,h7,h8,h9,h10⟩
    ·exact .inl h5
    ·exact .inr ⟨j+1,e,m',by simpa using h6,by simpa using h7,by rw [h8];congr 2;omega,by rw [h9];congr 2;omega,h10⟩
  ·cases h
theorem run_find {kt:TypeId} {ks:List Nat} (hk:keyTy P kt ks=true) {key:V} {u:Value} (hu:KeyRep g w key u) {es:List (V × V)} {ms:List MapEntry} {r:Option (Nat × V)} (hl:es.length=ms.length)
  (hm:∀ (j:Nat) (e:V × V) (m:MapEntry),es[j]?=some e→ms[j]?=some m→KeyRep g w e.1 m.key) (h:findKey ks key es 0=some r):∃ q,(Instr.findKey kt u ms).run P w=.ok q w∧Hit ks key es ms 0 r q:=by
 obtain ⟨q,q1,q2,q3⟩:=find_ok hk hu es ms 0 r hl hm h
 refine ⟨q,?_,q3⟩
 cases hn:isStr P kt
 ·obtain ⟨d,h1,h2⟩:=q1 hn
  simp [Instr.findKey,run_underlying h1,h2]
 ·have h2:=q2 hn
  obtain ⟨fs,hfs⟩:∃ fs,P.underlying kt=some (.struct fs):=by
   simp only [keyTy,Bool.and_eq_true] at hk
   have hk3:=hk.2
   split at hk3
   ·rename_i fs h;exact ⟨fs,h⟩
   ·rename_i d hns hd
    cases d<;>simp_all [scalarD,isStr]
   ·cases hk3
  cases ms with
  | nil =>
   have e:q=none:=by
    simp [Instr.findAsking] at h2
    exact h2.symm
   subst e
   simp [Instr.findKey,run_underlying hfs,Instr.findNow]
  | cons m ms=>simp [Instr.findKey,run_underlying hfs,Instr.findNow,sameNow_struct,h2]
theorem chkZeroV_ok {z:Value} {zs:V} (h:chkZeroV z zs=true):zs.down=zs∧∀ r,RepV g w Pr r zs z:=by
 unfold chkZeroV at h
 split at h
 ·rename_i c
  have hd:(V.c c).down=.c c:=by
   simp only [Bool.and_eq_true] at h
   cases c with
   | osl k rows=>simp at h
   | _=>rfl
  simp only [Bool.and_eq_true] at h
  exact ⟨hd,fun r=>chkConst_ok h.2 r⟩
 ·rename_i arr cs
  simp only [Bool.and_eq_true] at h
  obtain ⟨h1,h2⟩:=chkZero_ok (g:=g) (w:=w) (Pr:=Pr) h.1
  refine ⟨?_,fun r=>⟨arr,rfl,h1,fun i c hi=>?_⟩⟩
  ·have:cs.map C.down=cs:=by
    conv=>rhs;rw [← List.map_id cs]
    refine List.map_congr_left fun c hc=>?_
    have:=List.all_eq_true.1 h.2 c hc
    cases c with
    | osl k rows=>simp [notOsl] at this
    | _=>rfl
   simp only [V.down,this]
  ·obtain ⟨u,k1,k2,k3⟩:=h2 i c hi
   exact ⟨u,k1,k2,k3 _⟩
 ·cases h
theorem map_rep (hI:Inv g w Pr s.σ) {r:Root} {x:V} {u:Value} {es:List (V × V)} (hx:RepV g w Pr r x u) (h:mapOf s.σ x=some es) :
  ∃ ms:Array MapEntry,ms.size=es.length∧(∀ (j:Nat) (e:V × V),es[j]?=some e→∃ m,ms[j]?=some m∧(∃ l,RepV1 g w Pr (.cell l) [j,0] e.1 m.key)∧∃ l,RepV1 g w Pr (.cell l) [j,1] e.2 m.val) ∧
   ((u=.map none∧ms = #[])∨∃ b clock,u=.map (some b)∧w.heap[b]?=some (.map ms clock)):=by
 unfold mapOf at h
 split at h
 ·rename_i l
  obtain ⟨b,o,hl,rfl⟩:=hx
  split at h
  case h_2=>cases h
  rename_i es' hob
  cases h
  obtain ⟨b',o',ms,clock,h1,h2,h3,h4,hbn,h5⟩:=hI.ob _ _ hob
  rw [hl] at h1
  cases h1
  exact ⟨ms,h4,fun j e he=>by obtain ⟨m,k1,k2,k3⟩:=h5 j e.1 e.2 he;exact ⟨m,k1,⟨l,k2⟩,⟨l,k3⟩⟩,.inr ⟨b,clock,rfl,h3⟩⟩
 ·cases h
  exact ⟨#[],rfl,by simp,.inl ⟨hx,rfl⟩⟩
 ·cases h
def gotV (z:Value):Option (Nat × Value)→Value
 | some (_,v)=>v
 | none=>z
theorem ok_lkp (o:Oper) {xt kt et:TypeId} {x y:Operand} {x' y':Opd} {ks:List Nat} {zs:V} {ok:Bool} {i:TypeInfo} {z:Value} {v:V} (ho:o.op=.lookup xt x y ok) (hx:chkOpd x x'=true) (hy:chkOpd y y'=true)
  (hu:P.underlying xt=some (.map kt et)) (hk:keyTy P kt ks=true) (hi:P.info? et=some i) (hz:i.zero=some z) (hzc:chkZeroV z zs=true)
  (hv:stepOp F bd s (.lkp ks zs ok x' y')=some (v,s')) (hI:Inv g w Pr s.σ) (hE:EnvOk g w Pr s.env a):OpOk P o a g w Pr s' v:=by
 have h1:=opd_rd hE hx (.tmp 0)
 have h2:=opd_rd hE hy (.tmp 0)
 simp only [stepOp] at hv
 split at hv
 case h_2=>cases hv
 rename_i es hes
 split at hv
 case isFalse=>cases hv
 rename_i hsh
 split at hv
 case h_2=>cases hv
 rename_i r hr
 cases hv
 obtain ⟨ms,m1,m2,m3⟩:=map_rep hI h1 hes
 have hkr:KeyRep g w (s.rd y') (a.eval y):=KeyRep.of h2
 obtain ⟨q,q1,q2⟩:=run_find (P:=P) (kt:=kt) hk hkr (es:=es) (ms:=ms.toList) (by simpa using m1.symm) (fun j e m he hm=>by
  obtain ⟨m',k1,⟨l,k2⟩,_⟩:=m2 j e he
  simp only [Array.getElem?_toList] at hm
  rw [hm] at k1;cases k1
  exact KeyRep.of1 k2) hr
 have hck:=fun e=>run_checkKey (P:=P) (w:=w) (empty:=e) hk hsh hkr
 have hval:∃ uv:Value,(∀ r',RepV g w Pr r' (got zs r) uv)∧(got zs r)=(got zs r).down ∧
   (∀ vs,(got zs r)≠.tup vs)∧gotV z q=uv∧q.isSome=r.isSome:=by
  rcases q2 with ⟨rfl,rfl⟩ | ⟨j,e,m,e1,e2,rfl,rfl,_⟩
  ·obtain ⟨z1,z2⟩:=chkZeroV_ok (g:=g) (w:=w) (Pr:=Pr) hzc
   refine ⟨z,z2,z1.symm,fun vs h=>?_,rfl,rfl⟩
   have h:zs=.tup vs:=h
   rw [h] at hzc;simp [chkZeroV] at hzc
  ·obtain ⟨m',k1,_,⟨l,k3⟩⟩:=m2 j e e1
   simp only [Array.getElem?_toList] at e2
   rw [e2] at k1;cases k1
   refine ⟨m.val,fun r'=>?_,?_,fun vs h=>?_,rfl,rfl⟩
   ·have:=RepV1.down (r':=r') (path':=[]) k3
    show RepV g w Pr r' e.2.down m.val
    cases he:e.2 with
    | c y=>rw [he] at this;exact this
    | agg y=>rw [he] at this;exact this
    | tup y=>rw [he] at k3;exact k3.elim
   ·exact (down_down' e.2).symm
   ·have h:e.2.down=.tup vs:=h
    cases he:e.2 with
    | c y=>rw [he] at h;simp [V.down] at h
    | agg y=>rw [he] at h;simp [V.down] at h
    | tup y=>rw [he] at k3;exact k3.elim
 obtain ⟨uv,v1,v2,v3,v4,v5⟩:=hval
 have hrun:(execOp a.eval o).run P w=.ok (.value (bif ok then .tuple #[uv,.bool r.isSome] else uv)) w:=by
  simp only [execOp,ho,Instr.lookup,Sem.run_bind,run_underlying hu,Result.andThen_ok]
  rcases m3 with ⟨e1,e2⟩ | ⟨b,clock,e1,e2⟩
  ·rw [e1]
   subst e2
   rcases q with _ | ⟨n,qv⟩
   ·simp only [gotV] at v4;subst v4
    cases ok<;>simp [hck,q1,zeroValue,typeInfo,hi,hz,← v5]<;>simp_all
   ·simp only [gotV] at v4;subst v4
    cases ok<;>simp [hck,q1,← v5]<;>simp_all
  ·rw [e1]
   rcases q with _ | ⟨n,qv⟩
   ·simp only [gotV] at v4;subst v4
    cases ok<;>simp [run_getObj_map' e2,hck,q1,zeroValue,typeInfo,hi,hz,← v5]
   ·simp only [gotV] at v4;subst v4
    cases ok<;>simp [run_getObj_map' e2,hck,q1,← v5]
 refine OpOk.pure hrun hI hE (fun r'=>?_)
 cases ok
 ·exact v1 r'
 ·refine ⟨_,rfl,fun j x hj=>?_⟩
  cases j with
  | zero =>
   simp at hj
   refine ⟨uv,rfl,?_⟩
   subst hj
   have h0:=v1 r'
   generalize (got zs r)=vv at *
   cases vv with
   | c y =>
    have hy:y.down=y:=by have:=v2;simp only [V.down,V.c.injEq] at this;exact this.symm
    have:=RepC.down (q:=(r',[0])) (p:=(r',[])) h0
    rw [hy] at this
    exact this
   | agg cs =>
    obtain ⟨arr,a1,a2,a3⟩:=h0
    refine ⟨arr,a1,a2,fun i c hc=>?_⟩
    obtain ⟨u,k1,k2,k3⟩:=a3 i c hc
    have hdc:c.down=c:=by
     have:=v2;simp only [V.down,V.agg.injEq] at this
     have:=congrArg (·[i]?) this
     simp only [List.getElem?_map,hc,Option.map_some,Option.some.injEq] at this
     exact this.symm
    have:=RepC.down (q:=(r',[0] ++ [i])) k3
    rw [hdc] at this
    exact ⟨u,k1,k2,this⟩
   | tup vs=>exact absurd rfl (v3 vs)
  | succ j =>
   cases j with
   | zero=>simp at hj;subst hj;exact ⟨_,rfl,RepD.bool _⟩
   | succ j=>simp at hj
def World.setOb (w:World) (b:Nat) (o:Obj):World:={ w with heap:=w.heap.setIfInBounds b o }
theorem setOb_get {b:Nat} {o o':Obj} (h:w.heap[b]?=some o'):(World.setOb w b o).heap[b]?=some o:=(MapKept.heap_set h).1
theorem setOb_other {b c:Nat} (o:Obj) (h:c≠b):(World.setOb w b o).heap[c]?=w.heap[c]?:=by simp [World.setOb,Ne.symm h]
theorem setOb_ext {b l:Nat} (hk:g.kind b=.obj l) {ms ms':Array MapEntry} {clock clock':Nat} (h:w.heap[b]?=some (.map ms clock)):Ext g w g (World.setOb w b (.map ms' clock')) where
 st x v hx:=by
  obtain ⟨h1,h2,h3⟩:=hx
  have hne:x.block≠b:=by
   intro e
   rw [e,hk] at h3
   rcases h3 with h3 | ⟨n,h3,_⟩<;>cases h3
  refine ⟨h1,?_,h3⟩
  simp only [World.cell?,setOb_other _ hne]
  exact h2
 loc l x h:=h
 size:=by simp [World.setOb]
 shape c arr' ty' fz h':=by
  by_cases hc:c=b
  ·subst hc
   rw [h] at h'
   cases h'
  ·exact ⟨arr',by rw [setOb_other _ hc];exact h',rfl⟩
 os:=rfl
 tape:=rfl
 output:=rfl
theorem setOb_fr (hI:Inv g w Pr s.σ) {b l:Nat} (hk:g.kind b=.obj l) (o:Obj):Fr Pr g w g (World.setOb w b o):=by
 intro c hc
 have hne:c≠b:=by rintro rfl;exact (hI.pr _ hc).2.1 l hk
 exact ⟨setOb_other _ hne,rfl,rfl⟩
theorem setOb_inv (hI:Inv g w Pr s.σ) {b l:Nat} (hk:g.kind b=.obj l) {ms ms':Array MapEntry} {clock clock':Nat} (h:w.heap[b]?=some (.map ms clock))
  {ob:Ob} (ho:RepOb g (World.setOb w b (.map ms' clock')) Pr l ob):Inv g (World.setOb w b (.map ms' clock')) Pr (s.σ.set l ob) where
 len:=by simpa using hI.len
 ob l' x hx:=by
  rw [List.getElem?_set] at hx
  split at hx
  ·subst_vars
   split at hx
   ·cases hx;exact ho
   ·cases hx
  ·rename_i hne
   refine RepOb.frame (setOb_ext hk h) (fun i=>Keep.refl _ _) ?_ (hI.ob l' x hx)
   intro c hc
   have:c≠b:=by rintro rfl;rw [hk] at hc;cases hc;exact hne rfl
   exact ⟨setOb_other _ this,hc⟩
 lt c hc:=by simpa [World.setOb] using hI.lt c hc
 pr c hc:=by
  obtain ⟨h1,h2,h3⟩:=hI.pr c hc
  exact ⟨by simpa [World.setOb] using h1,h2,h3⟩
 gl:=hI.gl.mono (setOb_ext (ms':=ms') (clock':=clock') hk h).st
theorem rep_any {r r':Root} {path:List Nat} {x:V} {u:Value} (h:RepV g w Pr r x u) (hd:x.down=x) (hc:∃ cs,x.cells=some cs):RepV1 g w Pr r' path x u:=by
 cases x with
 | c y =>
  have hy:y.down=y:=by simpa [V.down] using hd
  have:=RepC.down (q:=(r',path)) (p:=(r,[])) h
  rw [hy] at this
  exact this
 | agg cs =>
  obtain ⟨arr,a1,a2,a3⟩:=h
  refine ⟨arr,a1,a2,fun i c hc=>?_⟩
  obtain ⟨u,k1,k2,k3⟩:=a3 i c hc
  have hdc:c.down=c:=by
   have hm:cs.map C.down=cs:=by simpa [V.down] using hd
   have:=congrArg (·[i]?) hm
   simp only [List.getElem?_map,hc,Option.map_some,Option.some.injEq] at this
   exact this
  have:=RepC.down (q:=(r',path ++ [i])) k3
  rw [hdc] at this
  exact ⟨u,k1,k2,this⟩
 | tup vs=>obtain ⟨cs,h⟩:=hc;simp [V.cells] at h
theorem ok_upd (o:Oper) {mt kt et:TypeId} {x y z:Operand} {x' y' z':Opd} {ks:List Nat} {v:V} (ho:o.op=.mapUpdate mt x y z∨o.op=.insert mt x y z) (hd:o.dst=none) (hx:chkOpd x x'=true) (hy:chkOpd y y'=true) (hz:chkOpd z z'=true)
  (hu:P.underlying mt=some (.map kt et)) (hk:keyTy P kt ks=true)
  (hv:stepOp F bd s (.upd ks x' y' z')=some (v,s')) (hI:Inv g w Pr s.σ) (hE:EnvOk g w Pr s.env a):OpOk P o a g w Pr s' v:=by
 have h1:=opd_rd hE hx (.tmp 0)
 have h2:=opd_rd hE hy (.tmp 0)
 have h3:=opd_rd hE hz (.tmp 0)
 have d2:(s.rd y').down=s.rd y':=down_down _
 have d3:(s.rd z').down=s.rd z':=down_down _
 simp only [stepOp] at hv
 split at hv
 case h_2=>cases hv
 rename_i l kc cs hxl hkc hcs
 rw [hxl] at h1
 obtain ⟨b,q0,hl,hxe⟩:=h1
 split at hv
 case h_2=>cases hv
 rename_i es hes
 split at hv
 case isFalse=>cases hv
 rename_i hmw
 simp only [Bool.and_eq_true] at hmw
 obtain ⟨⟨_,_⟩,hsh⟩:=hmw
 obtain ⟨b',o',ms,clock,g1,g2,g3,g4,hbn,g5⟩:=hI.ob _ _ hes
 rw [hl] at g1
 cases g1
 have hkr:KeyRep g w (s.rd y') (a.eval y):=KeyRep.of h2
 have hck:=run_checkKey (P:=P) (w:=w) (empty:=false) hk hsh hkr
 have hfind:∀ r,findKey ks (s.rd y') es 0=some r→∃ q,(Instr.findKey kt (a.eval y) ms.toList).run P w=.ok q w∧Hit ks (s.rd y') es ms.toList 0 r q:=fun r hr =>
  run_find (P:=P) (kt:=kt) hk hkr (es:=es) (ms:=ms.toList) (by simpa using g4.symm) (fun j e m he hm=>by
   obtain ⟨m',k1,k2,_⟩:=g5 j e.1 e.2 he
   simp only [Array.getElem?_toList] at hm
   rw [hm] at k1;cases k1
   exact KeyRep.of1 k2) hr
 have hex:execOp a.eval o=(do Instr.mapUpdate mt (a.eval x) (a.eval y) (a.eval z);pure .skip):=by
  rcases ho with ho | ho<;>simp [execOp,ho]
 have hst:still o.op=true→Same w w:=fun _ _ _=>rfl
 have hns:still o.op=false:=by rcases ho with ho | ho<;>rw [ho]<;>rfl
 have fin:∀ (ms':Array MapEntry) (clock':Nat) (es':List (V × V)),(Instr.mapUpdate mt (a.eval x) (a.eval y) (a.eval z)).run P w=.ok () (World.setOb w b (.map ms' clock'))→ms'.size=es'.length→Born ms' clock' →
   (∀ (i:Nat) (k vv:V),es'[i]?=some (k,vv)→∃ m,ms'[i]?=some m∧RepV1 g w Pr (.cell l) [i,0] k m.key∧RepV1 g w Pr (.cell l) [i,1] vv m.val) →
   OpOk P o a g w Pr { s with σ:=s.σ.set l (.map es') } (.c (.b .any)):=by
  intro ms' clock' es' hrun hsz hbn' hent
  have hext:Ext g w g (World.setOb w b (.map ms' clock')):=setOb_ext g2 g3
  refine ⟨undef,_,g,fun h=>(by rw [hns] at h;cases h),.inr ⟨?_,rfl⟩,hext,setOb_fr hI g2 _,setOb_inv hI g2 g3 ⟨b,q0,ms',clock',hl,g2,setOb_get g3,hsz,hbn',fun i k vv hi=>?_⟩,hE.ext hext (fun _ _=>Keep.refl _ _),fun d hd'=>by rw [hd] at hd';cases hd'⟩
  ·rw [hex];simp [hrun]
  ·obtain ⟨m,k1,k2,k3⟩:=hent i k vv hi
   exact ⟨m,k1,RepV1.ext hext (fun _=>Keep.refl _ _) k2,RepV1.ext hext (fun _=>Keep.refl _ _) k3⟩
 have rk:∀ i,RepV1 g w Pr (.cell l) [i,0] (s.rd y') (a.eval y):=fun i=>rep_any h2 d2 ⟨_,hkc⟩
 have rv:∀ i,RepV1 g w Pr (.cell l) [i,1] (s.rd z') (a.eval z):=fun i=>rep_any h3 d3 ⟨_,hcs⟩
 split at hv
 ·rename_i i v0 hr
  cases hv
  obtain ⟨q,q1,q2⟩:=hfind _ hr
  rcases q2 with ⟨h,_⟩ | ⟨j,e,m,e1,e2,e3,e4,e5⟩
  ·cases h
  ·simp only [Nat.zero_add,Option.some.injEq,Prod.mk.injEq] at e3
   obtain ⟨rfl,rfl⟩:=e3
   simp only [Array.getElem?_toList] at e2
   obtain ⟨m',k1,k2,k3⟩:=g5 i e.1 e.2 e1
   rw [e2] at k1;cases k1
   have hsb:=(eqKey_ok (P:=P) hk hkr (KeyRep.of1 k2) e5).2.2 rfl
   refine fin (ms.modify i fun e=>{ e with key:=a.eval y,val:=a.eval z }) clock _ ?_ (by simp [g4]) (hbn.modify _ _ (fun _=>rfl)) ?_
   ·simp only [Instr.mapUpdate,Sem.run_bind,run_underlying hu,Result.andThen_ok,hxe,MapKept.run_getObj_map g3,hck,q1,e4]
    simp [e2,Instr.keyThatStays,hsb,MapKept.run_setObj_map _ g3,World.setOb]
   ·intro n k vv hn
    by_cases hni:n=i
    ·subst hni
     have hlt:n < es.length:=(List.getElem?_eq_some_iff.mp e1).1
     rw [List.getElem?_set_self hlt] at hn
     cases hn
     exact ⟨{ m with key:=a.eval y,val:=a.eval z },by simp [Array.getElem?_modify,e2],rk _,rv _⟩
    ·rw [List.getElem?_set_ne (fun h=>hni h.symm)] at hn
     obtain ⟨m2,k1,k2,k3⟩:=g5 n k vv hn
     exact ⟨m2,by rw [Array.getElem?_modify,if_neg (fun h=>hni h.symm)];exact k1,k2,k3⟩
 ·rename_i hr
  cases hv
  obtain ⟨q,q1,q2⟩:=hfind _ hr
  rcases q2 with ⟨_,rfl⟩ | ⟨j,e,m,e1,e2,e3,e4,e5⟩
  ·refine fin (ms.push { key:=a.eval y,val:=a.eval z,born:=clock }) (clock+1) _ ?_ (by simp [g4]) (hbn.push _ _) ?_
   ·simp only [Instr.mapUpdate,Sem.run_bind,run_underlying hu,Result.andThen_ok,hxe,MapKept.run_getObj_map g3,hck,q1]
    simp [MapKept.run_setObj_map _ g3,World.setOb]
   ·intro n k vv hn
    by_cases hlt:n < es.length
    ·rw [List.getElem?_append_left hlt] at hn
     obtain ⟨m2,k1,k2,k3⟩:=g5 n k vv hn
     exact ⟨m2,by rw [Array.getElem?_push,if_neg (by omega)];exact k1,k2,k3⟩
    ·rw [List.getElem?_append_right (by omega)] at hn
     have hn0:n - es.length=0:=by
      have:=(List.getElem?_eq_some_iff.mp hn).1
      simp at this;omega
     rw [hn0] at hn
     cases hn
     have:n=ms.size:=by omega
     subst this
     exact ⟨_,by rw [Array.getElem?_push,if_pos rfl],rk _,rv _⟩
  ·cases e3
 ·cases hv
theorem ok_lko (o:Oper) {xt kt et:TypeId} {x y:Operand} {x' y':Opd} {ks:List Nat} {m:Nat} {i:TypeInfo} {v:V} (ho:o.op=.lookup xt x y false) (hx:chkOpd x x'=true) (hy:chkOpd y y'=true)
  (hu:P.underlying xt=some (.map kt et)) (hk:keyTy P kt ks=true) (hi:P.info? et=some i) (hz:i.zero=some (.slice none 0 0))
  (hv:stepOp F bd s (.lko ks m x' y')=some (v,s')) (hI:Inv g w Pr s.σ) (hE:EnvOk g w Pr s.env a):OpOk P o a g w Pr s' v:=by
 have h1:=opd_rd hE hx (.tmp 0)
 have h2:=opd_rd hE hy (.tmp 0)
 simp only [stepOp] at hv
 split at hv
 case h_2=>cases hv
 rename_i l hxl
 rw [hxl] at h1
 obtain ⟨b,q0,hl,hxe⟩:=h1
 split at hv
 case h_2=>cases hv
 rename_i es hes
 split at hv
 case isFalse=>cases hv
 rename_i hsh
 simp only [Bool.and_eq_true,decide_eq_true_eq] at hsh
 obtain ⟨b',o',ms,clock,g1,g2,g3,g4,hbn,g5⟩:=hI.ob _ _ hes
 rw [hl] at g1
 cases g1
 have hkr:KeyRep g w (s.rd y') (a.eval y):=KeyRep.of h2
 have hck:=fun e=>run_checkKey (P:=P) (w:=w) (empty:=e) hk hsh.1 hkr
 have hfind:∀ r,findKey ks (s.rd y') es 0=some r→∃ q,(Instr.findKey kt (a.eval y) ms.toList).run P w=.ok q w∧Hit ks (s.rd y') es ms.toList 0 r q:=fun r hr =>
  run_find (P:=P) (kt:=kt) hk hkr (es:=es) (ms:=ms.toList) (by simpa using g4.symm) (fun j e m he hm=>by
   obtain ⟨m',k1,k2,_⟩:=g5 j e.1 e.2 he
   simp only [Array.getElem?_toList] at hm
   rw [hm] at k1;cases k1
   exact KeyRep.of1 k2) hr
 split at hv
 ·rename_i j v0 hr
  split at hv
  case h_2=>cases hv
  rename_i e he
  split at hv
  case h_2=>cases hv
  rename_i c hc
  cases hv
  obtain ⟨q,q1,q2⟩:=hfind _ hr
  rcases q2 with ⟨h,_⟩ | ⟨j',e',mm,e1,e2,e3,e4,e5⟩
  ·cases h
  simp only [Nat.zero_add,Option.some.injEq,Prod.mk.injEq] at e3
  obtain ⟨rfl,rfl⟩:=e3
  rw [he] at e1
  cases e1
  simp only [Array.getElem?_toList] at e2
  obtain ⟨m',k1,k2,k3⟩:=g5 j e.1 e.2 he
  rw [e2] at k1;cases k1
  rw [hc] at k3
  let φ:Place→Place:=fun p=>if p=(.cell l,[j,1]) then (.tmp (o.dst.getD 0),[]) else p
  have hφ:∀ p,p≠(.cell l,[j,1])→φ p=p:=fun p hp=>by simp only [φ];rw [if_neg hp]
  have hφe:φ (.cell l,[j,1])=(.tmp (o.dst.getD 0),[]):=by simp [φ]
  have hrun:(execOp a.eval o).run P w=.ok (.value mm.val) w:=by
   simp only [execOp,ho,Instr.lookup,Sem.run_bind,run_underlying hu,Result.andThen_ok,hxe]
   simp [run_getObj_map' g3,hck,q1,e4]
  refine ⟨mm.val,w,g.ren Pr φ,fun _ _ _=>rfl,.inl hrun,Ext.ren φ,Fr.ren φ,?_,?_,fun d hd'=>?_⟩
  ·refine ⟨by simpa [G.ren] using hI.len,fun l' ob hob=>?_,hI.lt,fun c hc=>?_,hI.gl⟩
   ·rw [List.getElem?_set] at hob
    split at hob
    ·subst_vars
     split at hob
     ·cases hob
      refine ⟨b,q0,ms,clock,hl,g2,g3,by simpa using g4,hbn,fun n k vv hn=>?_⟩
      rw [List.getElem?_set] at hn
      split at hn
      ·subst_vars
       split at hn
       ·cases hn
        refine ⟨mm,e2,?_,RepC.down (RepC.ren φ hφe k3)⟩
        refine RepV1.ren φ (fun p=>hφ _ (by intro h;simp at h)) k2
       ·cases hn
      ·rename_i hne
       obtain ⟨m2,t1,t2,t3⟩:=g5 n k vv hn
       exact ⟨m2,t1,RepV1.ren φ (fun p=>hφ _ (by intro h;simp at h)) t2,RepV1.ren φ (fun p=>hφ _ (by intro h;simp at h;exact hne h.1.symm)) t3⟩
     ·cases hob
    ·rename_i hne
     exact RepOb.ren φ (fun i=>hφ _ (by intro e;simp at e;exact hne e.1.symm)) (hI.ob _ _ hob)
   ·obtain ⟨p1,p2,p3⟩:=hI.pr c hc
    exact ⟨p1,p2,by simpa [G.ren,hc] using p3⟩
  ·intro t
   exact RepV.ren (r:=.tmp t) (r':=.tmp t) φ (fun p=>hφ _ (by simp)) (hE t)
  ·exact RepC.ren φ (by rw [hφe];simp [hd']) k3
 ·rename_i hr
  cases hv
  obtain ⟨q,q1,q2⟩:=hfind _ hr
  rcases q2 with ⟨_,rfl⟩ | ⟨j',e',mm,e1,e2,e3,e4,e5⟩
  ·have hrun:(execOp a.eval o).run P w=.ok (.value (.slice none 0 0)) w:=by
    simp only [execOp,ho,Instr.lookup,Sem.run_bind,run_underlying hu,Result.andThen_ok,hxe]
    simp [run_getObj_map' g3,hck,q1,zeroValue,typeInfo,hi,hz]
   exact OpOk.pure hrun hI hE (fun r'=>⟨RepD.nil,by simp,.inl rfl⟩)
  ·cases e3
 ·cases hv
theorem give_map {y:Operand} {y':Opd} {l n k:Nat} {rows:List (List D)} (hy:chkOpd y y'=true) (hcs:s.raw y'=.c (.osl k rows)) (hI:Inv g w Pr s.σ) (hE:EnvOk g w Pr s.env a) :
  ∃ g1,Ext g w g1 w∧Fr Pr g w g1 w∧Inv g1 w Pr s.σ∧EnvOk g1 w Pr (s.took y').env a∧RepC g1 w Pr (.cell l,[n,1]) (.osl k rows) (a.eval y):=by
 cases y' with
 | k cv =>
  obtain ⟨c,rfl,hc⟩:=opd_k hE hy
  simp only [St.raw] at hcs
  cases hcs
  exact ⟨g,.refl _ _,.refl _ _ _,hI,hE,hc _⟩
 | t m =>
  have hv:=(opd_raw hE hy).1 m rfl
  rw [hcs] at hv
  let φ:Place→Place:=fun p=>if p=(.tmp m,[]) then (.cell l,[n,1]) else p
  have hφ:∀ p,p≠(.tmp m,[])→φ p=p:=fun p hp=>by simp only [φ];rw [if_neg hp]
  have hφe:φ (.tmp m,[])=(.cell l,[n,1]):=by simp [φ]
  refine ⟨g.ren Pr φ,Ext.ren φ,Fr.ren φ,Inv.ren φ (fun l i=>hφ _ (by simp)) hI,?_,RepC.ren φ hφe hv⟩
  intro t
  simp only [St.took]
  rw [env_get_cons]
  split
  ·subst_vars
   have hget:s.env.get t=.c (.osl k rows):=hcs
   rw [hget]
   have h0:=hE t
   rw [hget] at h0
   have h0:RepC g w Pr (.tmp t,[]) (.osl k rows) (a.tmps.getD t undef):=h0
   exact RepC.down (p:=(.cell l,[n,1])) (q:=(.tmp t,[])) (RepC.ren φ hφe h0)
  ·rename_i hne
   exact RepV.ren (r:=.tmp t) (r':=.tmp t) φ (fun p=>hφ _ (by intro h;simp at h;exact hne (by rw [h.1]))) (hE t)
theorem took_rd (s:St) (x y:Opd):(s.took x).rd y=s.rd y:=by
 cases x with
 | k v=>rfl
 | t n =>
  cases y with
  | k v=>rfl
  | t m =>
   simp only [St.rd,St.raw,St.took,env_get_cons]
   split
   ·subst_vars;exact down_down' _
   ·rfl
theorem ok_updo (o:Oper) {mt kt et:TypeId} {x y z:Operand} {x' y' z':Opd} {ks:List Nat} {v:V} (ho:o.op=.mapUpdate mt x y z∨o.op=.insert mt x y z) (hd:o.dst=none) (hx:chkOpd x x'=true) (hy:chkOpd y y'=true) (hz:chkOpd z z'=true)
  (hu:P.underlying mt=some (.map kt et)) (hk:keyTy P kt ks=true)
  (hv:stepOp F bd s (.updo ks x' y' z')=some (v,s')) (hI0:Inv g w Pr s.σ) (hE0:EnvOk g w Pr s.env a):OpOk P o a g w Pr s' v:=by
 have d2:(s.rd y').down=s.rd y':=down_down _
 simp only [stepOp] at hv
 split at hv
 case h_2=>cases hv
 rename_i l kc k rows hxl hkc hcs
 split at hv
 case h_2=>cases hv
 rename_i es hes
 split at hv
 case isFalse=>cases hv
 rename_i hmw
 simp only [Bool.and_eq_true] at hmw
 obtain ⟨⟨_,_⟩,hsh⟩:=hmw
 have hex:execOp a.eval o=(do Instr.mapUpdate mt (a.eval x) (a.eval y) (a.eval z);pure .skip):=by
  rcases ho with ho | ho<;>simp [execOp,ho]
 have hns:still o.op=false:=by rcases ho with ho | ho<;>rw [ho]<;>rfl
 have main:∀ (n:Nat) (r:Option (Nat × V)),findKey ks (s.rd y') es 0=some r→∃ (g1:G) (b q0:Nat) (ms:Array MapEntry) (clock:Nat) (q:Option (Nat × Value)),Ext g w g1 w∧Fr Pr g w g1 w∧Inv g1 w Pr s.σ∧EnvOk g1 w Pr (s.took z').env a∧RepC g1 w Pr (.cell l,[n,1]) (.osl k rows) (a.eval z) ∧
   g1.loc[l]?=some (b,q0)∧a.eval x=.map (some b)∧g1.kind b=.obj l∧w.heap[b]?=some (.map ms clock)∧ms.size=es.length∧Born ms clock ∧
   (∀ i k v,es[i]?=some (k,v)→∃ m,ms[i]?=some m∧RepV1 g1 w Pr (.cell l) [i,0] k m.key∧RepV1 g1 w Pr (.cell l) [i,1] v m.val) ∧
   (Instr.checkKey false 10000 kt (a.eval y)).run P w=.ok () w∧(Instr.findKey kt (a.eval y) ms.toList).run P w=.ok q w∧Hit ks (s.rd y') es ms.toList 0 r q∧(∀ i,RepV1 g1 w Pr (.cell l) [i,0] (s.rd y') (a.eval y))∧KeyRep g1 w (s.rd y') (a.eval y):=by
  intro n r hr
  obtain ⟨g1,x1,x2,hI,hE,hz1⟩:=give_map (l:=l) (n:=n) hz hcs hI0 hE0
  have h1:=opd_rd (s:=s.took z') hE hx (.tmp 0)
  have h2:=opd_rd (s:=s.took z') hE hy (.tmp 0)
  rw [took_rd] at h1 h2
  rw [hxl] at h1
  obtain ⟨b,q0,hl,hxe⟩:=h1
  obtain ⟨b',o',ms,clock,g1',g2,g3,g4,hbn,g5⟩:=hI.ob _ _ hes
  rw [hl] at g1'
  cases g1'
  have hkr:KeyRep g1 w (s.rd y') (a.eval y):=KeyRep.of h2
  have hck:=run_checkKey (P:=P) (w:=w) (empty:=false) hk hsh hkr
  obtain ⟨q,q1,q2⟩:=run_find (P:=P) (kt:=kt) hk hkr (es:=es) (ms:=ms.toList) (by simpa using g4.symm) (fun j e m he hm=>by
   obtain ⟨m',k1,k2,_⟩:=g5 j e.1 e.2 he
   simp only [Array.getElem?_toList] at hm
   rw [hm] at k1;cases k1
   exact KeyRep.of1 k2) hr
  exact ⟨g1,b,q0,ms,clock,q,x1,x2,hI,hE,hz1,hl,hxe,g2,g3,g4,hbn,g5,hck,q1,q2,fun i=>rep_any h2 d2 ⟨_,hkc⟩,hkr⟩
 have fin:∀ (g1:G) (b q0:Nat) (ms:Array MapEntry) (clock:Nat) (ms':Array MapEntry) (clock':Nat) (es':List (V × V)),Ext g w g1 w→Fr Pr g w g1 w→Inv g1 w Pr s.σ→EnvOk g1 w Pr (s.took z').env a→g1.loc[l]?=some (b,q0)→g1.kind b=.obj l→w.heap[b]?=some (.map ms clock) →
   (Instr.mapUpdate mt (a.eval x) (a.eval y) (a.eval z)).run P w=.ok () (World.setOb w b (.map ms' clock'))→ms'.size=es'.length→Born ms' clock' →
   (∀ (i:Nat) (k vv:V),es'[i]?=some (k,vv)→∃ m,ms'[i]?=some m∧RepV1 g1 w Pr (.cell l) [i,0] k m.key∧RepV1 g1 w Pr (.cell l) [i,1] vv m.val) →
   OpOk P o a g w Pr { s.took z' with σ:=s.σ.set l (.map es') } (.c (.b .any)):=by
  intro g1 b q0 ms clock ms' clock' es' x1 x2 hI hE hl g2 g3 hrun hsz hbn' hent
  have hext:Ext g1 w g1 (World.setOb w b (.map ms' clock')):=setOb_ext g2 g3
  refine ⟨undef,_,g1,fun h=>(by rw [hns] at h;cases h),.inr ⟨?_,rfl⟩,x1.trans hext,x2.trans (setOb_fr hI g2 _),setOb_inv hI g2 g3 ⟨b,q0,ms',clock',hl,g2,setOb_get g3,hsz,hbn',fun i k vv hi=>?_⟩,hE.ext hext (fun _ _=>Keep.refl _ _),fun d hd'=>by rw [hd] at hd';cases hd'⟩
  ·rw [hex];simp [hrun]
  ·obtain ⟨m,k1,k2,k3⟩:=hent i k vv hi
   exact ⟨m,k1,RepV1.ext hext (fun _=>Keep.refl _ _) k2,RepV1.ext hext (fun _=>Keep.refl _ _) k3⟩
 split at hv
 ·rename_i i v0 hr
  cases hv
  obtain ⟨g1,b,q0,ms,clock,q,x1,x2,hI,hE,hz1,hl,hxe,g2,g3,g4,hbn,g5,hck,q1,q2,rk,hkr⟩:=main i _ hr
  rcases q2 with ⟨h,_⟩ | ⟨j,e,m,e1,e2,e3,e4,e5⟩
  ·cases h
  ·simp only [Nat.zero_add,Option.some.injEq,Prod.mk.injEq] at e3
   obtain ⟨rfl,rfl⟩:=e3
   simp only [Array.getElem?_toList] at e2
   obtain ⟨m',k1,k2,k3⟩:=g5 i e.1 e.2 e1
   rw [e2] at k1;cases k1
   have hsb:=(eqKey_ok (P:=P) hk hkr (KeyRep.of1 k2) e5).2.2 rfl
   refine fin g1 b q0 ms clock (ms.modify i fun e=>{ e with key:=a.eval y,val:=a.eval z }) clock _ x1 x2 hI hE hl g2 g3 ?_ (by simp [g4]) (hbn.modify _ _ (fun _=>rfl)) ?_
   ·simp only [Instr.mapUpdate,Sem.run_bind,run_underlying hu,Result.andThen_ok,hxe,MapKept.run_getObj_map g3,hck,q1,e4]
    simp [e2,Instr.keyThatStays,hsb,MapKept.run_setObj_map _ g3,World.setOb]
   ·intro n k vv hn
    by_cases hni:n=i
    ·subst hni
     have hlt:n < es.length:=(List.getElem?_eq_some_iff.mp e1).1
     rw [List.getElem?_set_self hlt] at hn
     cases hn
     exact ⟨{ m with key:=a.eval y,val:=a.eval z },by simp [Array.getElem?_modify,e2],rk _,hz1⟩
    ·rw [List.getElem?_set_ne (fun h=>hni h.symm)] at hn
     obtain ⟨m2,k1,k2,k3⟩:=g5 n k vv hn
     exact ⟨m2,by rw [Array.getElem?_modify,if_neg (fun h=>hni h.symm)];exact k1,k2,k3⟩
 ·rename_i hr
  cases hv
  obtain ⟨g1,b,q0,ms,clock,q,x1,x2,hI,hE,hz1,hl,hxe,g2,g3,g4,hbn,g5,hck,q1,q2,rk,hkr⟩:=main es.length _ hr
  rcases q2 with ⟨_,rfl⟩ | ⟨j,e,m,e1,e2,e3,e4,e5⟩
  ·refine fin g1 b q0 ms clock (ms.push { key:=a.eval y,val:=a.eval z,born:=clock }) (clock+1) _ x1 x2 hI hE hl g2 g3 ?_ (by simp [g4]) (hbn.push _ _) ?_
   ·simp only [Instr.mapUpdate,Sem.run_bind,run_underlying hu,Result.andThen_ok,hxe,MapKept.run_getObj_map g3,hck,q1]
    simp [MapKept.run_setObj_map _ g3,World.setOb]
   ·intro n k vv hn
    by_cases hlt:n < es.length
    ·rw [List.getElem?_append_left hlt] at hn
     obtain ⟨m2,k1,k2,k3⟩:=g5 n k vv hn
     exact ⟨m2,by rw [Array.getElem?_push,if_neg (by omega)];exact k1,k2,k3⟩
    ·rw [List.getElem?_append_right (by omega)] at hn
     have hn0:n - es.length=0:=by
      have:=(List.getElem?_eq_some_iff.mp hn).1
      simp at this;omega
     have hne:n=es.length:=by omega
     rw [hn0] at hn
     cases hn
     subst hne
     exact ⟨{ key:=a.eval y,val:=a.eval z,born:=clock },by rw [Array.getElem?_push,if_pos g4.symm],rk _,hz1⟩
  ·cases e3
 ·cases hv
theorem ok_ment (o:Oper) {mt kt et:TypeId} {x y:Operand} {x' y':Opd} {ks:List Nat} {i:TypeInfo} {z:Value} {v:V} (ho:o.op=.mapEntry mt x y) (hx:chkOpd x x'=true) (hy:chkOpd y y'=true)
  (hu:P.underlying mt=some (.map kt et)) (hk:keyTy P kt ks=true) (hi:P.info? et=some i) (hz:i.zero=some z)
  (hv:stepOp F bd s (.ment ks x' y')=some (v,s')) (hI:Inv g w Pr s.σ) (hE:EnvOk g w Pr s.env a):OpOk P o a g w Pr s' v:=by
 have h1:=opd_rd hE hx (.tmp 0)
 have h2:=opd_rd hE hy (.tmp 0)
 have d2:(s.rd y').down=s.rd y':=down_down _
 simp only [stepOp] at hv
 split at hv
 case h_2=>cases hv
 rename_i l kc hxl hkc
 rw [hxl] at h1
 obtain ⟨b,q0,hl,hxe⟩:=h1
 split at hv
 case h_2=>cases hv
 rename_i es hes
 split at hv
 case isFalse=>cases hv
 rename_i hmw
 simp only [Bool.and_eq_true] at hmw
 obtain ⟨⟨_,_⟩,hsh⟩:=hmw
 obtain ⟨b',o',ms,clock,g1,g2,g3,g4,hbn,g5⟩:=hI.ob _ _ hes
 rw [hl] at g1
 cases g1
 have hkr:KeyRep g w (s.rd y') (a.eval y):=KeyRep.of h2
 have hck:=run_checkKey (P:=P) (w:=w) (empty:=false) hk hsh hkr
 have hfind:∀ r,findKey ks (s.rd y') es 0=some r→∃ q,(Instr.findKey kt (a.eval y) ms.toList).run P w=.ok q w∧Hit ks (s.rd y') es ms.toList 0 r q:=fun r hr =>
  run_find (P:=P) (kt:=kt) hk hkr (es:=es) (ms:=ms.toList) (by simpa using g4.symm) (fun j e m he hm=>by
   obtain ⟨m',k1,k2,_⟩:=g5 j e.1 e.2 he
   simp only [Array.getElem?_toList] at hm
   rw [hm] at k1;cases k1
   exact KeyRep.of1 k2) hr
 have hns:still o.op=false:=by rw [ho];rfl
 have fin:∀ (n:Nat) (u:Value) (ms':Array MapEntry) (clock':Nat) (es':List (V × V)),(Instr.mapEntry mt (a.eval x) (a.eval y)).run P w=.ok (.tuple #[u,.int .i64 n]) (World.setOb w b (.map ms' clock'))→ms'.size=es'.length→Born ms' clock' →
   (∀ (i:Nat) (k vv:V),es'[i]?=some (k,vv)→∃ m,ms'[i]?=some m∧RepV1 g w Pr (.cell l) [i,0] k m.key∧RepV1 g w Pr (.cell l) [i,1] vv m.val) →
   OpOk P o a g w Pr { s with σ:=s.σ.set l (.map es') } (.tup [.c (.b .any),.c (.b (.d (.int .i64 n)))]):=by
  intro n u ms' clock' es' hrun hsz hbn' hent
  have hext:Ext g w g (World.setOb w b (.map ms' clock')):=setOb_ext g2 g3
  refine ⟨.tuple #[u,.int .i64 n],_,g,fun h=>(by rw [hns] at h;cases h),.inl ?_,hext,setOb_fr hI g2 _,setOb_inv hI g2 g3 ⟨b,q0,ms',clock',hl,g2,setOb_get g3,hsz,hbn',fun i k vv hi=>?_⟩,hE.ext hext (fun _ _=>Keep.refl _ _),fun d hd'=>?_⟩
  ·simp [execOp,ho,hrun]
  ·obtain ⟨m,k1,k2,k3⟩:=hent i k vv hi
   exact ⟨m,k1,RepV1.ext hext (fun _=>Keep.refl _ _) k2,RepV1.ext hext (fun _=>Keep.refl _ _) k3⟩
  ·refine ⟨#[u,.int .i64 n],rfl,fun i x hi=>?_⟩
   match i with
   | 0=>cases hi;exact ⟨u,rfl,trivial⟩
   | 1=>cases hi;exact ⟨_,rfl,RepD.int _ _⟩
   | i+2=>simp at hi
 have rk:∀ i,RepV1 g w Pr (.cell l) [i,0] (s.rd y') (a.eval y):=fun i=>rep_any h2 d2 ⟨_,hkc⟩
 split at hv
 ·rename_i i v0 hr
  cases hv
  obtain ⟨q,q1,q2⟩:=hfind _ hr
  rcases q2 with ⟨h,_⟩ | ⟨j,e,m,e1,e2,e3,e4,e5⟩
  ·cases h
  ·simp only [Nat.zero_add,Option.some.injEq,Prod.mk.injEq] at e3
   obtain ⟨rfl,rfl⟩:=e3
   simp only [Array.getElem?_toList] at e2
   obtain ⟨m',k1,k2,k3⟩:=g5 i e.1 e.2 e1
   rw [e2] at k1;cases k1
   have hsb:=(eqKey_ok (P:=P) hk hkr (KeyRep.of1 k2) e5).2.2 rfl
   refine fin i m.val (ms.modify i fun e=>{ e with key:=a.eval y }) clock _ ?_ (by simp [g4]) (hbn.modify _ _ (fun _=>rfl)) ?_
   ·simp only [Instr.mapEntry,Sem.run_bind,run_underlying hu,Result.andThen_ok,hxe,MapKept.run_getObj_map g3,hck,q1,e4]
    simp [e2,Instr.keyThatStays,hsb,MapKept.run_setObj_map _ g3,World.setOb,hbn.2 _ _ e2,goInt]
   ·intro n k vv hn
    by_cases hni:n=i
    ·subst hni
     have hlt:n < es.length:=(List.getElem?_eq_some_iff.mp e1).1
     rw [List.getElem?_set_self hlt] at hn
     cases hn
     exact ⟨{ m with key:=a.eval y },by simp [Array.getElem?_modify,e2],rk _,k3⟩
    ·rw [List.getElem?_set_ne (fun h=>hni h.symm)] at hn
     obtain ⟨m2,k1,k2,k3⟩:=g5 n k vv hn
     exact ⟨m2,by rw [Array.getElem?_modify,if_neg (fun h=>hni h.symm)];exact k1,k2,k3⟩
 ·rename_i hr
  cases hv
  obtain ⟨q,q1,q2⟩:=hfind _ hr
  rcases q2 with ⟨_,rfl⟩ | ⟨j,e,m,e1,e2,e3,e4,e5⟩
  ·refine fin es.length z (ms.push { key:=a.eval y,val:=z,born:=clock }) (clock+1) _ ?_ (by simp [g4]) (hbn.push _ _) ?_
   ·simp only [Instr.mapEntry,Sem.run_bind,run_underlying hu,Result.andThen_ok,hxe,MapKept.run_getObj_map g3,hck,q1]
    have hcl:(clock:Int)=(es.length:Int):=by rw [hbn.1,g4]
    simp [MapKept.run_setObj_map _ g3,World.setOb,zeroValue,typeInfo,hi,hz,goInt,hcl]
   ·intro n k vv hn
    by_cases hlt:n < es.length
    ·rw [List.getElem?_append_left hlt] at hn
     obtain ⟨m2,k1,k2,k3⟩:=g5 n k vv hn
     exact ⟨m2,by rw [Array.getElem?_push,if_neg (by omega)];exact k1,k2,k3⟩
    ·rw [List.getElem?_append_right (by omega)] at hn
     have hn0:n - es.length=0:=by
      have:=(List.getElem?_eq_some_iff.mp hn).1
      simp at this;omega
     rw [hn0] at hn
     cases hn
     have:n=ms.size:=by omega
     subst this
     exact ⟨_,by rw [Array.getElem?_push,if_pos rfl],rk _,trivial⟩
  ·cases e3
 ·cases hv
theorem Born.find {ms:Array MapEntry} {clock n:Nat} (h:Born ms clock) (hn:n < ms.size):ms.findIdx? (fun e=>(e.born:Int) == (n:Int))=some n:=by
 rw [Array.findIdx?_eq_some_iff_getElem]
 refine ⟨hn,?_,fun j hj=>?_⟩
 ·have:=h.2 n ms[n] (Array.getElem?_eq_getElem hn)
  simp [this]
 ·have:=h.2 j ms[j] (Array.getElem?_eq_getElem (by omega))
  simp [this];omega
theorem ok_estr (o:Oper) {mt:TypeId} {x t y:Operand} {x' t' y':Opd} {v:V} (ho:o.op=.entryStore mt x t y) (hd:o.dst=none) (hx:chkOpd x x'=true) (ht:chkOpd t t'=true) (hy:chkOpd y y'=true)
  (hv:stepOp F bd s (.estr x' t' y')=some (v,s')) (hI:Inv g w Pr s.σ) (hE:EnvOk g w Pr s.env a):OpOk P o a g w Pr s' v:=by
 have h1:=opd_rd hE hx (.tmp 0)
 have h2:=opd_rd hE ht (.tmp 0)
 have h3:=opd_rd hE hy (.tmp 0)
 have d3:(s.rd y').down=s.rd y':=down_down _
 simp only [stepOp] at hv
 split at hv
 case h_2=>cases hv
 rename_i l n cs hxl htn hcs
 rw [hxl] at h1
 obtain ⟨b,q0,hl,hxe⟩:=h1
 rw [htn] at h2
 have hte:a.eval t=.int .i64 n:=rep_int h2
 split at hv
 case h_2=>cases hv
 rename_i es hes
 split at hv
 case isFalse=>cases hv
 rename_i hmw
 simp only [Bool.and_eq_true,decide_eq_true_eq] at hmw
 split at hv
 case h_2=>cases hv
 rename_i e he
 cases hv
 obtain ⟨b',o',ms,clock,g1,g2,g3,g4,hbn,g5⟩:=hI.ob _ _ hes
 rw [hl] at g1
 cases g1
 have hlt:n.toNat < es.length:=(List.getElem?_eq_some_iff.mp he).1
 obtain ⟨m,k1,k2,k3⟩:=g5 _ e.1 e.2 he
 have hfi:=hbn.find (n:=n.toNat) (by omega)
 rw [Int.toNat_of_nonneg hmw.2] at hfi
 have hns:still o.op=false:=by rw [ho];rfl
 have hext:Ext g w g (World.setOb w b (.map (ms.modify n.toNat fun e=>{ e with val:=a.eval y }) clock)):=setOb_ext g2 g3
 refine ⟨undef,World.setOb w b (.map (ms.modify n.toNat fun e=>{ e with val:=a.eval y }) clock),g,fun h=>(by rw [hns] at h;cases h),.inr ⟨?_,rfl⟩,hext,setOb_fr hI g2 _,setOb_inv hI g2 g3 ⟨b,q0,ms.modify n.toNat fun e=>{ e with val:=a.eval y },clock,hl,g2,setOb_get g3,by simp [g4],hbn.modify _ _ (fun _=>rfl),fun i k vv hi=>?_⟩,hE.ext hext (fun _ _=>Keep.refl _ _),fun d hd'=>by rw [hd] at hd';cases hd'⟩
 ·simp only [execOp,ho,Instr.entryStore,hxe,hte,Sem.run_bind,MapKept.run_getObj_map g3,Result.andThen_ok]
  simp [asInt,asIntOf,hfi,MapKept.run_setObj_map _ g3,World.setOb]
 ·by_cases hni:i=n.toNat
  ·subst hni
   rw [List.getElem?_set_self hlt] at hi
   cases hi
   exact ⟨{ m with val:=a.eval y },by simp [Array.getElem?_modify,k1],RepV1.ext hext (fun _=>Keep.refl _ _) k2,RepV1.ext hext (fun _=>Keep.refl _ _) (rep_any h3 d3 ⟨_,hcs⟩)⟩
  ·rw [List.getElem?_set_ne (fun h=>hni h.symm)] at hi
   obtain ⟨m2,k1,k2,k3⟩:=g5 i k vv hi
   exact ⟨m2,by rw [Array.getElem?_modify,if_neg (fun h=>hni h.symm)];exact k1,RepV1.ext hext (fun _=>Keep.refl _ _) k2,RepV1.ext hext (fun _=>Keep.refl _ _) k3⟩
theorem ok_nilc (o:Oper) {x:Operand} {x':Opd} {v:V} (ho:o.op=.nilCheck x) (hx:chkOpd x x'=true)
  (hv:stepOp F bd s (.nilc x')=some (v,s')) (hI:Inv g w Pr s.σ) (hE:EnvOk g w Pr s.env a):OpOk P o a g w Pr s' v:=by
 have h1:=opd_rd hE hx (.tmp 0)
 simp only [stepOp] at hv
 split at hv
 ·rename_i l q hr
  rw [hr] at h1
  cases hv
  obtain ⟨b,p,hl,h2⟩:=h1
  refine OpOk.pure (u:=.pointer (some ⟨b,p+q,none⟩)) ?_ hI hE (fun r=>⟨b,p,hl,rfl⟩)
  simp [execOp,ho,h2]
 ·rename_i row q hr
  rw [hr] at h1
  cases hv
  obtain ⟨b,p,vs,h2,h3⟩:=h1
  refine OpOk.pure (u:=.pointer (some ⟨b,p+q,none⟩)) ?_ hI hE (fun r=>⟨b,p,vs,rfl,h3⟩)
  simp [execOp,ho,h2]
 ·cases hv
theorem gcells_mem {G:Nat} {row:List D} (h:gcells G=some row):(G,row) ∈ gtab:=by
 unfold gcells at h
 rw [Option.map_eq_some_iff] at h
 obtain ⟨p,h1,rfl⟩:=h
 have h2:=List.mem_of_find?_eq_some h1
 have h3:=List.find?_some h1
 have h4:p.1=G:=Nat.eq_of_beq_eq_true h3
 rw [← h4]
 exact h2
theorem ok_ga (o:Oper) {t e:TypeId} {G n k:Nat} {x:Operand} {x':Opd} {i:TypeInfo} {row:List D} {v:V} (ho:o.op=.indexAddr t (.global G) x) (hx:chkOpd x x'=true)
  (hu:P.underlying t=some (.array n e)) (hk:P.cellsOf e=k) (hi:P.info? e=some i) (hrow:gcells G=some row) (hn:2≤n) (hl:row.length=n * k) (hk1:1≤k)
  (hv:stepOp F bd s (.ga G k x')=some (v,s')) (hI:Inv g w Pr s.σ) (hE:EnvOk g w Pr s.env a):OpOk P o a g w Pr s' v:=by
 have h1:=opd_rd hE hx (.tmp 0)
 simp only [stepOp,hrow] at hv
 split at hv
 case h_2=>cases hv
 rename_i row' j hr0 hj
 cases hr0
 split at hv
 case isFalse=>cases hv
 rename_i hin
 cases hv
 obtain ⟨vs,hvs⟩:=hI.gl _ (gcells_mem hrow)
 obtain ⟨kk,hr⟩:∃ kk,s.rd x'=.c (.b (.d (.int kk j))):=by
  unfold intOf at hj
  split at hj
  ·rename_i kk n hr;cases hj;exact ⟨kk,hr⟩
  ·cases hj
 rw [hr] at h1
 have he:=rep_int h1
 have hlt:j < n:=by
  have h5:=hin.2
  rw [hl] at h5
  have:j.toNat+1≤n:=Nat.le_of_mul_le_mul_right h5 (by omega)
  omega
 have htiny:¬ n≤1:=by omega
 have hrun:(Instr.indexAt t (.pointer (some ⟨G,0,none⟩)) (.int kk j)).run P w=.ok (.pointer (some ⟨G,j.toNat * k,none⟩)) w:=by
  simp [Instr.indexAt,asIntOf,run_underlying hu,Instr.sureAddr,hin.1,hlt,run_sizeOf w hi,hk,Addr.add,htiny]
  omega
 have eg:a.eval (.global G)=.pointer (some ⟨G,0,none⟩):=rfl
 refine OpOk.pure (u:=.pointer (some ⟨G,j.toNat * k,none⟩)) ?_ hI hE (fun r=>⟨G,0,vs,by simp,fun m d hm=>by simpa using hvs m d hm⟩)
 simp only [execOp,ho,eg,he,Sem.run_bind,hrun];rfl
end
def Post (o:Oper) (a:Act) (g:G) (w:World) (Pr:Nat→Prop) (s':St) (v:V) (a':Act) (w':World):Prop :=
 ∃ g' u,a'=a.put o.dst u∧(still o.op=true→Same w w')∧Ext g w g' w'∧Fr Pr g w g' w'∧Inv g' w' Pr s'.σ∧EnvOk g' w' Pr s'.env a∧∀ d,o.dst=some d→RepV g' w' Pr (.tmp d) v u
def Answer (g:G) (w:World) (Pr:Nat→Prop) (d:Nat) (v:V) (σ:List Ob) (e:Ending) (w':World):Prop :=
 ∃ u g',e=.returned u∧Ext g w g' w'∧Fr Pr g w g' w'∧Inv g' w' Pr σ∧RepV g' w' Pr (.tmp d) v u
def Args (g:G) (w:World) (Pr:Nat→Prop) (args:List V) (vs:Array Value):Prop :=
 vs.size=args.length∧∀ (i:Nat) (x:V),args[i]?=some x→x.down=x∧∃ u,vs[i]?=some u∧RepV g w Pr (.tmp i) x u
def SoundAt (P:Program) (F:Oracle) (f:Nat):Prop :=
 ∀ args σ lo tr v σ',F f args σ lo tr=some (v,σ')→∀ g w Pr vs d,Inv g w Pr σ→Args g w Pr args vs→Calls P (fnOf f) vs w (Answer g w Pr d v σ')
def KeepF (F:Oracle):Prop:=∀ f args σ lo tr v σ',F f args σ lo tr=some (v,σ')→∀ l,l < lo→l < σ.length→σ'[l]?=σ[l]?
def Sound (P:Program) (F:Oracle):Prop:=(∀ f,SoundAt P F f)∧KeepF F
section
variable {P:Program} {g g':G} {w w':World} {Pr Pr':Nat→Prop} {s s':St} {a:Act} {F:Oracle} {bd:Bd}
theorem OpOk.wp {o:Oper} {v:V} (h:OpOk P o a g w Pr s' v) (Q:Exit→Act→World→Prop):o.wp P a w (Post o a g w Pr s' v) Q:=by
 obtain ⟨u,w',g',q,hr,x1,x2,x3,x4,x5⟩:=h
 unfold Oper.wp
 rcases hr with hr | ⟨hr,rfl⟩
 ·rw [hr];exact ⟨g',u,rfl,q,x1,x2,x3,x4,x5⟩
 ·rw [hr];exact ⟨g',undef,rfl,q,x1,x2,x3,x4,x5⟩
def Mine (g:G) (w:World):Nat→Prop:=fun b=>b < w.heap.size∧(∀ l,g.kind b≠.obj l)∧∀ l i,g.own b≠some (.cell l,i)
theorem RepC.pr {p:Place} {x:C} {v:Value} (h:RepC g w Pr p x v) (hp:∀ k rows,x=.osl k rows→∀ b,g.own b=some p→¬ Pr' b):RepC g w Pr' p x v:=by
 cases x with
 | b x=>exact h
 | osl k rows =>
  obtain ⟨h1,h2,h3⟩:=h
  refine ⟨h1,h2,h3.imp id ?_⟩
  rintro ⟨a,cap,h4,h5⟩
  refine ⟨a,cap,h4,h5.imp id ?_⟩
  rintro ⟨s1,s2,s3,s4,s5,s6⟩
  exact ⟨s1,s2,s3,s4,hp k rows rfl _ s4,s6⟩
 | fn f p q=>exact h
 | nilf=>exact h
theorem RepC.weaken {p:Place} {x:C} {v:Value} (h:RepC g w Pr' p x v) (hp:∀ b,Pr b→Pr' b):RepC g w Pr p x v:=by
 cases x with
 | b x=>exact h
 | osl k rows =>
  obtain ⟨h1,h2,h3⟩:=h
  refine ⟨h1,h2,h3.imp id ?_⟩
  rintro ⟨a,cap,h4,h5⟩
  refine ⟨a,cap,h4,h5.imp id ?_⟩
  rintro ⟨s1,s2,s3,s4,s5,s6⟩
  exact ⟨s1,s2,s3,s4,fun h=>s5 (hp _ h),s6⟩
 | fn f p q=>exact h
 | nilf=>exact h
theorem RepV1.weaken {r:Root} {path:List Nat} {x:V} {v:Value} (h:RepV1 g w Pr' r path x v) (hp:∀ b,Pr b→Pr' b):RepV1 g w Pr r path x v:=by
 cases x with
 | c x=>exact RepC.weaken h hp
 | agg cs =>
  obtain ⟨arr,h1,h2,h3⟩:=h
  refine ⟨arr,h1,h2,fun i c hi=>?_⟩
  obtain ⟨u,k1,k2,k3⟩:=h3 i c hi
  exact ⟨u,k1,k2,RepC.weaken k3 hp⟩
 | tup vs=>exact h
theorem RepV.weaken {r:Root} {x:V} {v:Value} (h:RepV g w Pr' r x v) (hp:∀ b,Pr b→Pr' b):RepV g w Pr r x v:=by
 cases x with
 | c x=>exact RepV1.weaken (x:=.c x) (path:=[]) h hp
 | agg cs=>exact RepV1.weaken (x:=.agg cs) (path:=[]) h hp
 | tup vs =>
  obtain ⟨arr,h1,h2⟩:=h
  refine ⟨arr,h1,fun i x hi=>?_⟩
  obtain ⟨u,k1,k2⟩:=h2 i x hi
  exact ⟨u,k1,RepV1.weaken k2 hp⟩
theorem RepOb.weaken {l:Nat} {o:Ob} (h:RepOb g w Pr' l o) (hp:∀ b,Pr b→Pr' b):RepOb g w Pr l o:=by
 cases o with
 | cells cs =>
  obtain ⟨b,o,arr,ty,h1,h2,h3,h4,h5⟩:=h
  refine ⟨b,o,arr,ty,h1,h2,h3,h4,fun i c hi=>?_⟩
  obtain ⟨u,k1,k2,k3⟩:=h5 i c hi
  exact ⟨u,k1,k2,RepC.weaken k3 hp⟩
 | map es =>
  obtain ⟨b,o,mes,clock,h1,h2,h3,h4,hbn,h5⟩:=h
  refine ⟨b,o,mes,clock,h1,h2,h3,h4,hbn,fun i k v hi=>?_⟩
  obtain ⟨m,k1,k2,k3⟩:=h5 i k v hi
  exact ⟨m,k1,RepV1.weaken k2 hp,RepV1.weaken k3 hp⟩
 | dead=>trivial
 | blank n=>exact h
theorem RepV1.mine {l:Nat} {path:List Nat} {x:V} {v:Value} (h:RepV1 g w Pr (.cell l) path x v):RepV1 g w (Mine g w) (.cell l) path x v:=by
 cases x with
 | c x=>exact RepC.pr h (fun _ _ _ b hb hm=>hm.2.2 _ _ hb)
 | agg cs =>
  obtain ⟨arr,h1,h2,h3⟩:=h
  refine ⟨arr,h1,h2,fun i c hi=>?_⟩
  obtain ⟨u,k1,k2,k3⟩:=h3 i c hi
  exact ⟨u,k1,k2,RepC.pr k3 (fun _ _ _ b hb hm=>hm.2.2 _ _ hb)⟩
 | tup vs=>exact h
theorem Inv.mine {σ:List Ob} (hI:Inv g w Pr σ):Inv g w (Mine g w) σ where
 len:=hI.len
 lt:=hI.lt
 pr b hb:=hb
 gl:=hI.gl
 ob l o ho:=by
  have h:=hI.ob l o ho
  cases o with
  | cells cs =>
   obtain ⟨b,o,arr,ty,h1,h2,h3,h4,h5⟩:=h
   refine ⟨b,o,arr,ty,h1,h2,h3,h4,fun i c hi=>?_⟩
   obtain ⟨u,k1,k2,k3⟩:=h5 i c hi
   exact ⟨u,k1,k2,RepC.pr k3 (fun _ _ _ b hb hm=>hm.2.2 _ _ hb)⟩
  | map es =>
   obtain ⟨b,o,mes,clock,h1,h2,h3,h4,hbn,h5⟩:=h
   refine ⟨b,o,mes,clock,h1,h2,h3,h4,hbn,fun i k v hi=>?_⟩
   obtain ⟨m,k1,k2,k3⟩:=h5 i k v hi
   exact ⟨m,k1,RepV1.mine k2,RepV1.mine k3⟩
  | dead=>trivial
  | blank n=>exact h
theorem RepV.any_pr {r r':Root} {x:V} {v:Value} (h:RepV g w Pr r x v) (hx:x.down=x):RepV g w Pr' r' x v:=by
 have hc:∀ (c:C) (p q:Place) (u:Value),c.down=c→RepC g w Pr p c u→RepC g w Pr' q c u:=by
  intro c p q u hd hc
  cases c with
  | b y=>exact hc
  | osl k rows=>simp [C.down] at hd
  | fn f p q=>exact hc
  | nilf=>exact hc
 cases x with
 | c y=>exact hc y (r,[]) (r',[]) v (by simpa [V.down] using hx) h
 | agg cs =>
  obtain ⟨arr,h1,h2,h3⟩:=h
  refine ⟨arr,h1,h2,fun i c hi=>?_⟩
  obtain ⟨u,k1,k2,k3⟩:=h3 i c hi
  have:c.down=c:=by
   have hm:cs.map C.down=cs:=by simpa [V.down] using hx
   have:=congrArg (·[i]?) hm
   simp only [List.getElem?_map,hi,Option.map_some,Option.some.injEq] at this
   exact this
  exact ⟨u,k1,k2,hc c _ _ u this k3⟩
 | tup vs=>simp [V.down] at hx
theorem answer_mine (hI:Inv g w Pr s.σ) (hE:EnvOk g w Pr s.env a) {d:Nat} {v:V} {σ:List Ob} {e:Ending} {w':World} (h:Answer g w (Mine g w) d v σ e w') :
  ∃ u g',e=.returned u∧Ext g w g' w'∧Fr Pr g w g' w'∧Inv g' w' Pr σ∧EnvOk g' w' Pr s.env a∧RepV g' w' Pr (.tmp d) v u:=by
 obtain ⟨u,g',he,x1,x2,x3,x4⟩:=h
 have hsub:∀ b,Pr b→Mine g w b:=fun b hb=>hI.pr b hb
 refine ⟨u,g',he,x1,fun b hb=>x2 b (hsub b hb),⟨x3.len,fun l o ho=>RepOb.weaken (x3.ob l o ho) hsub,x3.lt,fun b hb=>x3.pr b (hsub b hb),x3.gl⟩,?_,RepV.weaken x4 hsub⟩
 refine hE.ext x1 (fun t i b n h1 h2=>?_)
 have hm:Mine g w b:=⟨hI.lt b (by rw [h2];simp),fun l=>by rw [h2];simp,fun l i=>by rw [h1];simp⟩
 obtain ⟨_,y2,y3⟩:=x2 b hm
 exact ⟨by rw [y3];exact h1,by rw [y2];exact h2⟩
def entered (P:Program) (f:Nat):Bool:=match P.funcs[f]? with
 | some fn=>fn.name != "runtime.NumGoroutine" && fn.body.isSome
 | none=>false
theorem run_callFunc {f:Nat} {vs:Array Value} (h:entered P f=true):(callFunc f vs).run P w=.ok (.enter f vs) w:=by
 unfold entered at h
 split at h
 ·rename_i fn hf
  simp only [Bool.and_eq_true,bne_iff_ne,ne_eq] at h
  obtain ⟨h1,h2⟩:=h
  obtain ⟨b,hb⟩:=Option.isSome_iff_exists.mp h2
  simp [callFunc,hf,h1,hb]
 ·cases h
def chkOpds:List Operand→List Opd→Bool
 | [],[]=>true
 | x :: xs,y :: ys=>chkOpd x y && chkOpds xs ys
 | _,_=>false
theorem opds_args (hE:EnvOk g w Pr s.env a):∀ {xs:List Operand} {ys:List Opd},chkOpds xs ys=true→xs.length=ys.length∧∀ (i:Nat) (x:V),(ys.map s.rd)[i]?=some x→x.down=x∧∃ u,(xs.map a.eval)[i]?=some u∧∀ r,RepV g w Pr' r x u
 | [],[],_=>⟨rfl,by simp⟩
 | [],_ :: _,h=>by simp [chkOpds] at h
 | _ :: _,[],h=>by simp [chkOpds] at h
 | x :: xs,y :: ys,h=>by
  simp only [chkOpds,Bool.and_eq_true] at h
  obtain ⟨h1,h2⟩:=opds_args hE h.2
  refine ⟨by simp [h1],fun i v hi=>?_⟩
  cases i with
  | zero =>
   simp at hi;subst hi
   exact ⟨down_down _,_,rfl,fun r=>RepV.any_pr (opd_rd hE h.1 (.tmp 0)) (down_down _)⟩
  | succ i=>simpa using h2 i v (by simpa using hi)
theorem ok_call (o:Oper) {f:Nat} {xs:Array Operand} {ts:Array TypeId} {ys:List Opd} {v:V} (hS:SoundAt P F f) (ho:o.op=.call { callee:=.value (.func (fnOf f)),args:=xs,argTypes:=ts })
  (hx:chkOpds xs.toList ys=true) (hf:entered P (fnOf f)=true)
  (hv:stepOp F bd s (.call f ys)=some (v,s')) (hI:Inv g w Pr s.σ) (hE:EnvOk g w Pr s.env a) (Q:Exit→Act→World→Prop):o.wp P a w (Post o a g w Pr s' v) Q:=by
 simp only [stepOp] at hv
 split at hv
 case h_2=>cases hv
 rename_i v0 σ hF
 cases hv
 have hrun:(execOp a.eval o).run P w=.ok (.enter (fnOf f) (xs.map a.eval)) w:=by
  simp only [execOp,ho,resolve,Act.eval,Deferred.ofValue,invoke,Sem.run_bind,Sem.run_pure,Result.andThen_ok]
  rw [run_callFunc hf]
  simp
 unfold Oper.wp
 rw [hrun]
 obtain ⟨l1,l2⟩:=opds_args (Pr':=Mine g w) hE hx
 have hargs:Args g w (Mine g w) (ys.map s.rd) (xs.map a.eval):=by
  refine ⟨by simpa using l1,fun i x hi=>?_⟩
  obtain ⟨m1,u,m2,m3⟩:=l2 i x hi
  refine ⟨m1,u,?_,m3 _⟩
  rw [← m2]
  simp
 refine (hS _ _ _ _ _ _ hF g w (Mine g w) _ (o.dst.getD 0) hI.mine hargs).mono ?_
 intro e w' h
 obtain ⟨u,g',rfl,x1,x2,x3,x4,x5⟩:=answer_mine hI hE h
 exact ⟨g',u,rfl,fun h=>(by rw [ho] at h;cases h),x1,x2,x3,x4,fun d hd=>by rw [hd] at x5;exact x5⟩
theorem ok_callv (o:Oper) {f0:Operand} {f0':Opd} {xs:Array Operand} {ts:Array TypeId} {ys:List Opd} {v:V} (hS:Sound P F) (hen:∀ f args σ lo tr r,F f args σ lo tr=some r→entered P (fnOf f)=true) (ho:o.op=.call { callee:=.value f0,args:=xs,argTypes:=ts })
  (hf0:chkOpd f0 f0'=true) (hx:chkOpds xs.toList ys=true)
  (hv:stepOp F bd s (.callv f0' ys)=some (v,s')) (hI:Inv g w Pr s.σ) (hE:EnvOk g w Pr s.env a) (Q:Exit→Act→World→Prop):o.wp P a w (Post o a g w Pr s' v) Q:=by
 have h0:=opd_rd hE hf0 (.tmp 0)
 simp only [stepOp] at hv
 split at hv
 case h_2=>cases hv
 rename_i f fst cap hr
 rw [hr] at h0
 obtain ⟨us,ws,q1,q2,q3,q4,q5⟩:=h0
 split at hv
 case h_2=>cases hv
 rename_i v0 σ hF
 cases hv
 have hf:=hen _ _ _ _ _ _ hF
 have hrun:(execOp a.eval o).run P w=.ok (.enter (fnOf f) (us ++ xs.map a.eval ++ ws)) w:=by
  simp only [execOp,ho,resolve,q1,Deferred.ofValue,invoke,Sem.run_bind,Sem.run_pure,Result.andThen_ok]
  rw [run_callFunc hf]
 unfold Oper.wp
 rw [hrun]
 obtain ⟨l1,l2⟩:=opds_args (Pr':=Mine g w) hE hx
 have hargs:Args g w (Mine g w) (fst.map (fun b=>V.c (.b b)) ++ ys.map s.rd ++ cap.map (fun b=>V.c (.b b))) (us ++ xs.map a.eval ++ ws):=by
  have hl:xs.size=ys.length:=by simpa using l1
  refine ⟨by simp [q2,q3,hl],fun i x hi=>?_⟩
  by_cases h1:i < fst.length
  ·rw [List.append_assoc,List.getElem?_append_left (by simpa using h1)] at hi
   simp only [List.getElem?_map,Option.map_eq_some_iff] at hi
   obtain ⟨b,hb,rfl⟩:=hi
   obtain ⟨u,z1,_,z2⟩:=q4 i b hb
   exact ⟨rfl,u,by rw [Array.append_assoc,Array.getElem?_append_left (by omega)];exact z1,z2⟩
  ·rw [List.append_assoc,List.getElem?_append_right (by simpa using h1)] at hi
   simp only [List.length_map] at hi
   by_cases h2:i - fst.length < ys.length
   ·rw [List.getElem?_append_left (by simpa using h2)] at hi
    obtain ⟨m1,u,m2,m3⟩:=l2 _ x hi
    refine ⟨m1,u,?_,m3 _⟩
    rw [Array.append_assoc,Array.getElem?_append_right (by omega),Array.getElem?_append_left (by simp;omega),q2,← m2]
    simp
   ·rw [List.getElem?_append_right (by simpa using h2)] at hi
    simp only [List.length_map,List.getElem?_map,Option.map_eq_some_iff] at hi
    obtain ⟨b,hb,rfl⟩:=hi
    obtain ⟨u,z1,_,z2⟩:=q5 _ b hb
    refine ⟨rfl,u,?_,z2⟩
    rw [Array.append_assoc,Array.getElem?_append_right (by omega),Array.getElem?_append_right (by simp;omega),q2]
    simpa [hl] using z1
 refine (hS.1 f _ _ _ _ _ _ hF g w (Mine g w) _ (o.dst.getD 0) hI.mine hargs).mono ?_
 intro e w' h
 obtain ⟨u,g',rfl,x1,x2,x3,x4,x5⟩:=answer_mine hI hE h
 exact ⟨g',u,rfl,fun h=>(by rw [ho] at h;cases h),x1,x2,x3,x4,fun d hd=>by rw [hd] at x5;exact x5⟩
end
structure OnceLaw (P:Program) (f:Nat):Prop where
 done:∀ (a:Addr) (d:Int) (fv:Value) (w:World),¬ d=0→w.cell? a=some (.int .u32 d)→Calls P f #[.pointer (some a),fv] w fun e w'=>e=.returned (.tuple #[])∧w'=w
 first:∀ (b o k:Nat) (xs ys:Array Value) (w:World) (R:Ending→World→Prop),entered P k=true →
  w.cell? ⟨b,o,none⟩=some (.int .u32 0)→w.cell? ⟨b,o+1,none⟩=some (.int .i32 0)→w.frozen? ⟨b,o,none⟩=false→w.frozen? ⟨b,o+1,none⟩=false →
  Calls P k (xs ++ ys) (w.setCell ⟨b,o+1,none⟩ (.int .i32 1)) R →
  (∀ e w',R e w'→(∃ u,e=.returned u)∧w'.cell? ⟨b,o,none⟩=some (.int .u32 0)∧w'.cell? ⟨b,o+1,none⟩=some (.int .i32 1)∧w'.frozen? ⟨b,o,none⟩=false∧w'.frozen? ⟨b,o+1,none⟩=false) →
  Calls P f #[.pointer (some ⟨b,o,none⟩),.func (.func k) xs ys] w fun e w'=>e=.returned (.tuple #[])∧∃ e1 w1,R e1 w1∧w'=(w1.drew.setCell ⟨b,o,none⟩ (.int .u32 1)).setCell ⟨b,o+1,none⟩ (.int .i32 0)
section
variable {P:Program} {g g':G} {w w':World} {Pr:Nat→Prop} {σ:List Ob} {F:Oracle}
theorem set_row {b i:Nat} {v:Value} {arr:Array Value} {ty:TypeId} {fz:Nat × Nat} (h:w.heap[b]?=some (.cells arr ty fz)):w.setCell ⟨b,i,none⟩ v=w.setRow b (arr.setIfInBounds i v):=by
 unfold World.setCell World.setRow
 congr 1
 apply Array.ext_getElem?
 intro j
 simp only [Array.getElem?_modify]
 by_cases hj:b=j
 ·subst hj
  rw [h]
  simp
 ·simp [hj]
theorem set_num (hI:Inv g w Pr σ) {l j b q:Nat} {cs:List C} {k:IntKind} {n:Int} (hcs:getCells σ l=some cs) (hl:g.loc[l]?=some (b,q)) (hj:j < cs.length) :
  Ext g w g (w.setCell ⟨b,q+j,none⟩ (.int k n))∧Fr Pr g w g (w.setCell ⟨b,q+j,none⟩ (.int k n))∧Inv g (w.setCell ⟨b,q+j,none⟩ (.int k n)) Pr (σ.set l (.cells (cs.set j (.b (.d (.int k n)))))):=by
 obtain ⟨b',q',arr,ty,h3,h4,h5,h6,h7⟩:=hI.ob _ _ (getCells_eq hcs)
 rw [hl] at h3
 cases h3
 rw [set_row h5]
 have hsz:(arr.setIfInBounds (q+j) (.int k n)).size=arr.size:=by simp
 have hext:=setRow_ext (s:=⟨[],σ⟩) hI h4 h5 hsz
 refine ⟨hext,setRow_fr (s:=⟨[],σ⟩) hI h4 _,setRow_inv (s:=⟨[],σ⟩) hI h4 h5 hsz ⟨b,q,_,ty,hl,h4,setRow_get _ _ h5,by rw [hsz];simpa using h6,fun i c hi=>?_⟩⟩
 rw [List.getElem?_set] at hi
 split at hi
 ·subst_vars
  cases hi
  exact ⟨.int k n,by rw [Array.getElem?_setIfInBounds_self_of_lt (by omega)],rfl,RepD.int k n⟩
 ·rename_i hne
  obtain ⟨u,k1,k2,k3⟩:=h7 i c hi
  refine ⟨u,?_,k2,RepC.ext hext (Keep.refl _ _) k3⟩
  rw [Array.getElem?_setIfInBounds_ne (by omega)]
  exact k1
theorem num_cell (hI:Inv g w Pr σ) {l j b q:Nat} {cs:List C} {k:IntKind} {n:Int} (hcs:getCells σ l=some cs) (hl:g.loc[l]?=some (b,q)) (hj:cs[j]?=some (.b (.d (.int k n)))) :
  w.cell? ⟨b,q+j,none⟩=some (.int k n)∧w.frozen? ⟨b,q+j,none⟩=false:=by
 obtain ⟨b',q',arr,ty,h3,h4,h5,h6,h7⟩:=hI.ob _ _ (getCells_eq hcs)
 rw [hl] at h3
 cases h3
 obtain ⟨u,k1,k2,k3⟩:=h7 j _ hj
 have hu:u=.int k n:=by cases k3;rfl
 subst hu
 exact ⟨by rw [cell_of h5];exact k1,by simp [World.frozen?,h5]⟩
theorem once_sound (hS:Sound P F) (hen:∀ f args σ lo tr r,F f args σ lo tr=some r→entered P (fnOf f)=true) {f:Nat} (hO:OnceLaw P f) {args:List V} {lo tr:Nat} {v:V} {σ':List Ob} (h:onceRun F args σ lo tr=some (v,σ'))
  {vs:Array Value} {d:Nat} (hI:Inv g w Pr σ) (hargs:Args g w Pr args vs):Calls P f vs w (Answer g w Pr d v σ'):=by
 unfold onceRun at h
 split at h
 case h_2=>cases h
 rename_i l off k fst cap
 obtain ⟨a1,a2⟩:=hargs
 obtain ⟨_,v0,z0,b,q,hl,rfl⟩:=a2 0 _ rfl
 obtain ⟨_,v1,z1,xs,ys,rfl,q2,q3,q4,q5⟩:=a2 1 _ rfl
 have hvs:vs = #[.pointer (some ⟨b,q+off,none⟩),.func (.func (fnOf k)) xs ys]:=by
  apply Array.ext_getElem?
  intro i
  match i with
  | 0=>exact z0
  | 1=>exact z1
  | i+2 =>
   simp at a1
   rw [Array.getElem?_eq_none (by omega),Array.getElem?_eq_none (by simp)]
 subst hvs
 split at h
 case h_2=>cases h
 rename_i cs hcs
 split at h
 case h_2=>cases h
 rename_i dn hdn
 obtain ⟨c0,f0⟩:=num_cell hI hcs hl hdn
 split at h
 case isFalse =>
  rename_i hd
  cases h
  refine (hO.done _ _ _ w hd c0).mono ?_
  rintro e w' ⟨rfl,rfl⟩
  exact ⟨_,g,rfl,Ext.refl _ _,Fr.refl _ _ _,hI,#[],rfl,by simp⟩
 rename_i hd
 subst hd
 split at h
 case h_2=>cases h
 rename_i hmu
 split at h
 case isFalse=>cases h
 rename_i hlo
 split at h
 case h_2=>cases h
 rename_i σ1 hF
 split at h
 case h_2=>cases h
 rename_i cs1 hcs1
 split at h
 case h_2=>cases h
 rename_i hd1 hm1
 cases h
 obtain ⟨c1,f1⟩:=num_cell hI hcs hl hmu
 have hj:off+1 < cs.length:=(List.getElem?_eq_some_iff.mp hmu).1
 obtain ⟨x1,x2,x3⟩:=set_num (k:=.i32) (n:=1) hI hcs hl hj
 rw [← Nat.add_assoc] at x1 x2 x3 c1 f1
 have hargs1:Args g (w.setCell ⟨b,q+off+1,none⟩ (.int .i32 1)) Pr (fst.map (fun b=>V.c (.b b)) ++ cap.map (fun b=>V.c (.b b))) (xs ++ ys):=by
  refine ⟨by simp [q2,q3],fun i x hi=>?_⟩
  by_cases h1:i < fst.length
  ·rw [List.getElem?_append_left (by simpa using h1)] at hi
   simp only [List.getElem?_map,Option.map_eq_some_iff] at hi
   obtain ⟨y,hy,rfl⟩:=hi
   obtain ⟨u,y1,_,y2⟩:=q4 i y hy
   exact ⟨rfl,u,by rw [Array.getElem?_append_left (by omega)];exact y1,RepB.ext x1 y2⟩
  ·rw [List.getElem?_append_right (by simpa using h1)] at hi
   simp only [List.length_map,List.getElem?_map,Option.map_eq_some_iff] at hi
   obtain ⟨y,hy,rfl⟩:=hi
   obtain ⟨u,y1,_,y2⟩:=q5 _ y hy
   exact ⟨rfl,u,by rw [Array.getElem?_append_right (by omega),q2];exact y1,RepB.ext x1 y2⟩
 have hcall:=hS.1 k _ _ _ _ _ _ hF g _ Pr _ d x3 hargs1
 refine (hO.first b (q+off) (fnOf k) xs ys w _ (hen _ _ _ _ _ _ hF) c0 c1 f0 f1 hcall ?_).mono ?_
 ·rintro e w' ⟨u,g',rfl,y1,y2,y3,y4⟩
  have hl':=y1.loc _ _ hl
  obtain ⟨k1,k2⟩:=num_cell y3 hcs1 hl' hd1
  obtain ⟨k3,k4⟩:=num_cell y3 hcs1 hl' hm1
  rw [← Nat.add_assoc] at k3 k4
  exact ⟨⟨u,rfl⟩,k1,k3,k2,k4⟩
 ·rintro e w' ⟨rfl,e1,w1,⟨u,g',rfl,y1,y2,y3,y4⟩,rfl⟩
  have hl':=y1.loc _ _ hl
  have e0:Ext g' w1 g' w1.drew:=Ext.heap rfl rfl rfl rfl
  have i0:Inv g' w1.drew Pr σ1:=y3.heap rfl rfl rfl rfl
  have r0:Fr Pr g' w1 g' w1.drew:=Fr.heap rfl
  obtain ⟨m1,m2,m3⟩:=set_num (k:=.u32) (n:=1) i0 hcs1 hl' (List.getElem?_eq_some_iff.mp hd1).1
  have hlt:l < σ1.length:=(List.getElem?_eq_some_iff.mp (getCells_eq hcs1)).1
  have hcs2:getCells (σ1.set l (.cells (cs1.set off (.b (.d (.int .u32 1)))))) l=some (cs1.set off (.b (.d (.int .u32 1)))):=by
   unfold getCells;rw [List.getElem?_set_self hlt]
  obtain ⟨n1,n2,n3⟩:=set_num (k:=.i32) (n:=0) m3 hcs2 hl' (j:=off+1) (by rw [List.length_set];exact (List.getElem?_eq_some_iff.mp hm1).1)
  rw [List.set_set,← Nat.add_assoc] at n3
  rw [← Nat.add_assoc] at n1 n2
  exact ⟨_,g',rfl,(((x1.trans y1).trans e0).trans m1).trans n1,(((x2.trans y2).trans r0).trans m2).trans n2,n3,#[],rfl,by simp⟩
end
section
variable {P:Program} {g g1 g2 g':G} {w w1 w2 w':World} {Pr Pr1 Pr2:Nat→Prop} {s s':St} {a:Act} {F:Oracle} {bd:Bd}
theorem RepB.blind (hst:∀ x v,g1.st w1 x v→g2.st w2 x v) {x:B} {v:Value} (hx:x.closed 0=true) (h:RepB g1 w1 x v):RepB g2 w2 x v:=by
 cases x with
 | d x=>exact RepD.mono hst h
 | ptr l off=>simp [B.closed] at hx
 | nilp=>exact h
 | rop row off =>
  obtain ⟨b,o,vs,h1,h2⟩:=h
  exact ⟨b,o,vs,h1,fun j d hj=>⟨hst _ _ (h2 j d hj).1,RepD.mono hst (h2 j d hj).2⟩⟩
 | arr k l off len=>simp [B.closed] at hx
 | map l=>simp [B.closed] at hx
 | nilm=>exact h
 | nils=>exact h
 | emp=>exact h
 | any=>trivial
def Owns (g1:G) (w1:World) (Pr1:Nat→Prop) (g2:G) (w2:World) (Pr2:Nat→Prop) (r:Root):Prop :=
 ∀ (b n:Nat) (i:List Nat),g1.kind b=.grow n→g1.own b=some (r,i)→¬ Pr1 b→g2.kind b=.grow n∧g2.own b=some (r,i)∧¬ Pr2 b∧w2.heap[b]?=w1.heap[b]?
theorem RepC.blind (hst:∀ x v,g1.st w1 x v→g2.st w2 x v) {r:Root} {i:List Nat} (ho:Owns g1 w1 Pr1 g2 w2 Pr2 r) {x:C} {v:Value} (hx:x.closed 0=true) (h:RepC g1 w1 Pr1 (r,i) x v):RepC g2 w2 Pr2 (r,i) x v:=by
 cases x with
 | b x=>exact RepB.blind hst hx h
 | osl k rows =>
  obtain ⟨h1,h2,h3⟩:=h
  refine ⟨RepD.mono hst h1,h2,h3.imp id ?_⟩
  rintro ⟨a,cap,h4,h5⟩
  refine ⟨a,cap,h4,h5.imp id ?_⟩
  rintro ⟨s1,s2,s3,s4,s5,arr,ty,s6,s7⟩
  obtain ⟨q1,q2,q3,q4⟩:=ho _ _ _ s3 s4 s5
  exact ⟨s1,s2,q1,q2,q3,arr,ty,by rw [q4];exact s6,s7⟩
 | fn f fst cap =>
  simp only [C.closed,Bool.and_eq_true,List.all_eq_true] at hx
  obtain ⟨xs,ys,h1,h2,h3,h4,h5⟩:=h
  refine ⟨xs,ys,h1,h2,h3,fun i b hi=>?_,fun i b hi=>?_⟩
  ·obtain ⟨u,k1,k2,k3⟩:=h4 i b hi;exact ⟨u,k1,k2,RepB.blind hst (hx.1 _ (List.mem_of_getElem? hi)) k3⟩
  ·obtain ⟨u,k1,k2,k3⟩:=h5 i b hi;exact ⟨u,k1,k2,RepB.blind hst (hx.2 _ (List.mem_of_getElem? hi)) k3⟩
 | nilf=>exact h
theorem RepV1.blind (hst:∀ x v,g1.st w1 x v→g2.st w2 x v) {r:Root} {path:List Nat} (ho:Owns g1 w1 Pr1 g2 w2 Pr2 r) {x:V} {v:Value} (hx:x.closed1 0=true) (h:RepV1 g1 w1 Pr1 r path x v):RepV1 g2 w2 Pr2 r path x v:=by
 cases x with
 | c x=>exact RepC.blind hst ho hx h
 | agg cs =>
  simp only [V.closed1,List.all_eq_true] at hx
  obtain ⟨arr,h1,h2,h3⟩:=h
  refine ⟨arr,h1,h2,fun i c hi=>?_⟩
  obtain ⟨u,k1,k2,k3⟩:=h3 i c hi
  exact ⟨u,k1,k2,RepC.blind hst ho (hx _ (List.mem_of_getElem? hi)) k3⟩
 | tup vs=>exact h
theorem RepV.blind (hst:∀ x v,g1.st w1 x v→g2.st w2 x v) {r:Root} (ho:Owns g1 w1 Pr1 g2 w2 Pr2 r) {x:V} {v:Value} (hx:x.closed 0=true) (h:RepV g1 w1 Pr1 r x v):RepV g2 w2 Pr2 r x v:=by
 cases x with
 | c x=>exact RepV1.blind (x:=.c x) (path:=[]) hst ho hx h
 | agg cs=>exact RepV1.blind (x:=.agg cs) (path:=[]) hst ho hx h
 | tup vs =>
  simp only [V.closed,List.all_eq_true] at hx
  obtain ⟨arr,h1,h2⟩:=h
  refine ⟨arr,h1,fun i x hi=>?_⟩
  obtain ⟨u,k1,k2⟩:=h2 i x hi
  exact ⟨u,k1,RepV1.blind hst ho (hx _ (List.mem_of_getElem? hi)) k2⟩
def unobj:Bk→Bk
 | .obj _=>.free
 | k=>k
def G.blind (g:G):G:=⟨[],fun b=>unobj (g.kind b),fun _=>none⟩
def Old (w:World):Nat→Prop:=fun b=>b < w.heap.size
theorem unobj_ne {k:Bk} (h:unobj k≠.free):k≠.free:=by rintro rfl;exact h rfl
theorem blind_st {x:Addr} {v:Value}:g.blind.st w x v↔g.st w x v:=by
 simp only [G.st,G.blind]
 constructor
 ·rintro ⟨h1,h2,h3⟩
  refine ⟨h1,h2,?_⟩
  cases hk:g.kind x.block<;>rw [hk] at h3<;>simp_all [unobj]
 ·rintro ⟨h1,h2,h3⟩
  refine ⟨h1,h2,?_⟩
  rcases h3 with h3 | ⟨n,h3,h4⟩
  ·exact .inl (by rw [h3];rfl)
  ·exact .inr ⟨n,by rw [h3];rfl,h4⟩
theorem blind_inv (hI:Inv g w Pr s.σ):Inv g.blind w (Old w) [] where
 len:=rfl
 ob l o h:=by simp at h
 lt b h:=hI.lt b (unobj_ne h)
 pr b h:=by
  refine ⟨h,fun l hl=>?_,fun l i hl=>(by cases hl)⟩
  have hl':unobj (g.kind b)=.obj l:=hl
  cases hk:g.kind b<;>rw [hk] at hl'<;>cases hl'
 gl:=hI.gl.mono fun x v h=>blind_st.2 h
theorem answer_blind (hI:Inv g w Pr s.σ) (hE:EnvOk g w Pr s.env a) {d:Nat} {v:V} {σ:List Ob} {e:Ending} {w':World} (hv:v.closed 0=true) (h:Answer g.blind w (Old w) d v σ e w') :
  ∃ u g',e=.returned u∧Same w w'∧Ext g w g' w'∧Fr Pr g w g' w'∧Inv g' w' Pr s.σ∧EnvOk g' w' Pr s.env a∧RepV g' w' Pr (.tmp d) v u:=by
 obtain ⟨u,g1,he,x1,x2,x3,x4⟩:=h
 have hsame:Same w w':=fun b hb=>(x2 b hb).1
 let g2:G:=⟨g.loc,fun b=>if b < w.heap.size then g.kind b else unobj (g1.kind b),fun b=>if b < w.heap.size then g.own b else g1.own b⟩
 have hst:∀ x v,g1.st w' x v→g2.st w' x v:=by
  rintro x v ⟨h1,h2,h3⟩
  refine ⟨h1,h2,?_⟩
  simp only [g2]
  by_cases hb:x.block < w.heap.size
  ·rw [if_pos hb]
   have hk:=(x2 _ hb).2.1
   rw [hk] at h3
   simp only [G.blind] at h3
   cases hg:g.kind x.block<;>rw [hg] at h3<;>simp_all [unobj]
  ·rw [if_neg hb]
   rcases h3 with h3 | ⟨n,h3,h4⟩
   ·exact .inl (by rw [h3];rfl)
   ·exact .inr ⟨n,by rw [h3];rfl,h4⟩
 have hext:Ext g w g2 w':=by
  refine ⟨fun x v hx=>?_,fun l x h=>h,x1.size,x1.shape,x1.os,x1.tape,x1.output⟩
  obtain ⟨h1,h2,h3⟩:=hx
  have hlt:x.block < w.heap.size:=hI.lt _ (by rcases h3 with h3 | ⟨n,h3,_⟩<;>rw [h3]<;>simp)
  refine ⟨h1,?_,by simpa [g2,hlt] using h3⟩
  simp only [World.cell?,hsame _ hlt]
  exact h2
 have hkeep:∀ p,Keep g g2 p:=by
  intro p b n h1 h2
  have hlt:b < w.heap.size:=hI.lt _ (by rw [h2];simp)
  exact ⟨by simpa [g2,hlt] using h1,by simpa [g2,hlt] using h2⟩
 refine ⟨u,g2,he,hsame,hext,fun b hb=>?_,⟨hI.len,fun l o ho=>?_,fun b hb=>?_,fun b hb=>?_,hI.gl.mono hext.st⟩,hE.ext hext (fun _ _=>hkeep _),?_⟩
 ·have hlt:=(hI.pr b hb).1
  exact ⟨hsame b hlt,by simp [g2,hlt],by simp [g2,hlt]⟩
 ·refine RepOb.frame hext (fun i=>hkeep _) (fun b hb=>?_) (hI.ob l o ho)
  have hlt:b < w.heap.size:=hI.lt _ (by rw [hb];simp)
  exact ⟨hsame b hlt,by simpa [g2,hlt] using hb⟩
 ·by_cases hlt:b < w.heap.size
  ·exact Nat.lt_of_lt_of_le hlt x1.size
  ·exact x3.lt b (unobj_ne (by simpa [g2,hlt] using hb))
 ·obtain ⟨p1,p2,p3⟩:=hI.pr b hb
  exact ⟨Nat.lt_of_lt_of_le p1 x1.size,by simpa [g2,p1] using p2,by simpa [g2,p1] using p3⟩
 ·refine RepV.blind hst (Pr1:=Old w) ?_ hv x4
  intro b n i h1 h2 h3
  have hlt:¬ b < w.heap.size:=h3
  refine ⟨by simp [g2,hlt,h1,unobj],by simp [g2,hlt,h2],fun hp=>hlt (hI.pr b hp).1,rfl⟩
theorem ok_callb (o:Oper) {f:Nat} {xs:Array Operand} {ts:Array TypeId} {ys:List Opd} {v:V} (hS:SoundAt P F f) (ho:o.op=.call { callee:=.value (.func (fnOf f)),args:=xs,argTypes:=ts })
  (hx:chkOpds xs.toList ys=true) (hf:entered P (fnOf f)=true)
  (hv:stepOp F bd s (.callb f ys)=some (v,s')) (hI:Inv g w Pr s.σ) (hE:EnvOk g w Pr s.env a) (Q:Exit→Act→World→Prop):o.wp P a w (fun a' w'=>Post o a g w Pr s' v a' w'∧Same w w') Q:=by
 simp only [stepOp] at hv
 split at hv
 case isFalse=>cases hv
 rename_i hcl
 split at hv
 case h_2=>cases hv
 rename_i v0 σ hF
 split at hv
 case isFalse=>cases hv
 rename_i hvc
 cases hv
 have hrun:(execOp a.eval o).run P w=.ok (.enter (fnOf f) (xs.map a.eval)) w:=by
  simp only [execOp,ho,resolve,Act.eval,Deferred.ofValue,invoke,Sem.run_bind,Sem.run_pure,Result.andThen_ok]
  rw [run_callFunc hf]
  simp
 unfold Oper.wp
 rw [hrun]
 obtain ⟨l1,l2⟩:=opds_args (Pr':=fun _=>True) hE hx
 have hargs:Args g.blind w (Old w) (ys.map s.rd) (xs.map a.eval):=by
  refine ⟨by simpa using l1,fun i x hi=>?_⟩
  obtain ⟨m1,u,m2,m3⟩:=l2 i x hi
  refine ⟨m1,u,?_,RepV.blind (fun x v h=>blind_st.2 h) (fun _ _ _ _ _ h=>absurd trivial h) (List.all_eq_true.1 hcl x (List.mem_of_getElem? hi)) (m3 _)⟩
  rw [← m2]
  simp
 refine (hS _ _ _ _ _ _ hF g.blind w (Old w) _ (o.dst.getD 0) (blind_inv hI) hargs).mono ?_
 intro e w' h
 obtain ⟨u,g',rfl,x0,x1,x2,x3,x4,x5⟩:=answer_blind hI hE hvc h
 exact ⟨⟨g',u,rfl,fun _=>x0,x1,x2,x3,x4,fun d hd=>by rw [hd] at x5;exact x5⟩,x0⟩
end
def chkOptOpd:Option Operand→Option Opd→Bool
 | none,none=>true
 | some x,some y=>chkOpd x y
 | _,_=>false
def aggOf (P:Program) (t:TypeId) (i:TypeInfo):Option Nat:=if isStr P t then some i.size else none
def fieldIs (P:Program) (t:TypeId) (f off:Nat):Option TypeId :=
 match P.underlying t with
 | some (.struct fields)=>match fields[f]? with
  | some fld=>if fld.offset=off then some fld.type else none
  | none=>none
 | _=>none
def sliceElem (P:Program) (t:TypeId):Option (TypeId × TypeInfo) :=
 match P.underlying t with
 | some (.slice e)=>match P.info? e with
  | some i=>some (e,i)
  | none=>none
 | _=>none
def opOf:BinOp→Option Bool
 | .eql=>some false
 | .neq=>some true
 | _=>none
def chkOp (P:Program) (o:Oper):AOp→Bool
 | .mov _ x=>match o.op with
  | .move y | .assign y=>chkOpd y x
  | _=>false
 | .pick c x y=>match o.op with
  | .pick c' x' y'=>chkOpd c' c && chkOpd x' x && chkOpd y' y
  | _=>false
 | .alloc zs=>match o.op with
  | .alloc t=>match P.info? t with
   | some i=>match i.zero with
    | some z=>chkZero z zs
    | none=>false
   | none=>false
  | _=>false
 | .box x=>match o.op with
  | .box _ y=>chkOpd y x
  | _=>false
 | .build zs ps=>match o.op with
  | .build t ps'=>match P.info? t,placesOf P t with
   | some i,some places=>match i.zero with
    | some z=>chkZero z zs && chkParts (places.toArray[·]?) ps'.toList ps
    | none=>false
   | _,_=>false
  | _=>false
 | .bsl .own k n zs ps=>match o.op with
  | .buildSlice t n' ps'=>match sliceElem P t with
   | some (e,i)=>match i.zero with
    | some z=>chkZero z zs && i.size == k && zs.length == k && n == n' && decide (n * k≤16777216) && chkParts (fun j=>some (j * k,k)) ps'.toList (ps.map fun p=>(p.1 * k,k,p.2))
    | none=>false
   | none=>false
  | _=>false
 | .bsl .arr k n zs ps=>match o.op with
  | .buildSlice t n' ps'=>match sliceElem P t with
   | some (e,i)=>match i.zero with
    | some z=>chkZero z zs && i.size == k && zs.length == k && n == n' && decide (n * k≤16777216) && chkParts (fun j=>some (j * k,k)) ps'.toList (ps.map fun p=>(p.1 * k,k,p.2))
    | none=>false
   | none=>false
  | _=>false
 | .bsl _ _ _ _ _=>false
 | .ld .cp n x=>match o.op with
  | .load t y=>match P.info? t with
   | some i=>chkOpd y x && (P.underlying t).isSome && n == aggOf P t i
   | none=>false
  | _=>false
 | .ld .own none x=>match o.op with
  | .load t y=>chkOpd y x && (P.underlying t).isSome && !isStr P t && (P.info? t).isSome
  | _=>false
 | .ld .frz none x=>match o.op with
  | .load t y=>chkOpd y x && (P.underlying t).isSome && !isStr P t
  | _=>false
 | .ld .own (some n) x=>match o.op with
  | .load t y=>match P.info? t with
   | some i=>chkOpd y x && (P.underlying t).isSome && isStr P t && n == i.size
   | none=>false
  | _=>false
 | .ld .frz (some n) x=>match o.op with
  | .load t y=>match P.info? t with
   | some i=>chkOpd y x && (P.underlying t).isSome && isStr P t && n == i.size
   | none=>false
  | _=>false
 | .ld .arr n x=>match o.op with
  | .load t y=>match P.info? t with
   | some i=>chkOpd y x && (P.underlying t).isSome && n == aggOf P t i
   | none=>false
  | _=>false
 | .ldn n x _=>match o.op with
  | .load t y=>match P.info? t with
   | some i=>chkOpd y x && (P.underlying t).isSome && n == aggOf P t i
   | none=>false
  | _=>false
 | .st n a x=>match o.op with
  | .store t a' x'=>match P.info? t with
   | some i=>chkOpd a' a && chkOpd x' x && i.size == n && o.dst.isNone
   | none=>false
  | _=>false
 | .bin op x y=>match o.op with
  | .binOp op' _ x' y' _=>decide (op=op') && chkOpd x' x && chkOpd y' y
  | _=>false
 | .eq neg kd ks x y=>match o.op with
  | .binOp op t x' y' _=>opOf op == some neg && chkOpd x' x && chkOpd y' y && eqKind P t ks kd
  | _=>false
 | .un op x=>match o.op with
  | .unOp op' _ x'=>decide (op=op') && chkOpd x' x
  | _=>false
 | .conv k x=>match o.op with
  | .convert src dst x'=>chkOpd x' x && (P.underlying src).isSome && (match P.underlying dst with | some (.int k')=>decide (k=k') | _=>false)
  | _=>false
 | .fa off x=>match o.op with
  | .fieldAddr t x' f=>chkOpd x' x && (match fieldIs P t f off with
   | some ft=>match P.info? ft with
    | some i=>i.size != 0
    | none=>false
   | none=>false)
  | _=>false
 | .fld off n x=>match o.op with
  | .field t x' f=>chkOpd x' x && (match fieldIs P t f off with
   | some ft=>match P.info? ft with
    | some i=>(P.underlying ft).isSome && n == aggOf P ft i
    | none=>false
   | none=>false)
  | _=>false
 | .ia k x i=>match o.op with
  | .indexAddr t x' i'=>chkOpd x' x && chkOpd i' i && (match sliceElem P t with
   | some (_,ti)=>ti.size == k
   | none=>false)
  | _=>false
 | .ixs x i=>match o.op with
  | .index t x' i'=>chkOpd x' x && chkOpd i' i && (match P.underlying t with | some .string=>true | _=>false)
  | _=>false
 | .slc .cp k x lo hi=>match o.op with
  | .slice t x' lo' hi' none=>chkOpd x' x && chkOptOpd lo' lo && chkOptOpd hi' hi && (match sliceElem P t with
   | some (_,ti)=>ti.size == k
   | none=>false)
  | _=>false
 | .slc .own k x lo none=>match o.op with
  | .slice t x' lo' none none=>chkOpd x' x && chkOptOpd lo' lo && (match sliceElem P t with
   | some (_,ti)=>ti.size == k
   | none=>false)
  | _=>false
 | .slc _ _ _ _ _=>false
 | .slcs x lo hi=>match o.op with
  | .slice t x' lo' hi' none=>chkOpd x' x && chkOptOpd lo' lo && chkOptOpd hi' hi && (match P.underlying t with | some .string=>true | _=>false)
  | _=>false
 | .mks .own k bytes zs n c=>match o.op with
  | .makeSlice t n' c'=>match sliceElem P t with
   | some (e,i)=>match i.zero with
    | some z=>chkZero z zs && i.size == k && i.bytes == bytes && chkOpd n' n && chkOpd c' c
    | none=>false
   | none=>false
  | _=>false
 | .mks .arr k bytes zs n c=>match o.op with
  | .makeSlice t n' c'=>match sliceElem P t with
   | some (e,i)=>match i.zero with
    | some z=>chkZero z zs && i.size == k && i.bytes == bytes && chkOpd n' n && chkOpd c' c
    | none=>false
   | none=>false
  | _=>false
 | .mks _ _ _ _ _ _=>false
 | .exd ix x=>match o.op with
  | .extract x' ix'=>chkOpd x' x && ix == ix'
  | _=>false
 | .ext ix x=>match o.op with
  | .extract x' ix'=>chkOpd x' x && ix == ix'
  | _=>false
 | .len kd x=>match o.op with
  | .call { callee:=.builtin .len,args:=xs,argTypes:=ts }=>match xs.toList,ts.toList with
   | [x'],[t]=>chkOpd x' x && (match kd,P.underlying t with
    | 0,some (.slice _)=>true
    | 1,some .string=>true
    | 2,some (.map _ _)=>true
    | _,_=>false)
   | _,_=>false
  | _=>false
 | .app k bytes x y=>match o.op with
  | .call { callee:=.builtin .append,args:=xs,argTypes:=ts }=>match xs.toList,ts.toList with
   | [x',y'],[t,t2]=>chkOpd x' x && chkOpd y' y && (match sliceElem P t,P.underlying t2 with
    | some (_,i),some (.slice _)=>match i.zero with
     | some z=>z.cells.size == i.size && i.size == k && i.bytes == bytes && i.bytes != 0
     | none=>false
    | _,_=>false)
   | _,_=>false
  | _=>false
 | .appa k bytes x y=>match o.op with
  | .call { callee:=.builtin .append,args:=xs,argTypes:=ts }=>match xs.toList,ts.toList with
   | [x',y'],[t,t2]=>chkOpd x' x && chkOpd y' y && (match sliceElem P t,P.underlying t2 with
    | some (_,i),some (.slice _)=>match i.zero with
     | some z=>z.cells.size == i.size && i.size == k && i.bytes == bytes && i.bytes != 0
     | none=>false
    | _,_=>false)
   | _,_=>false
  | _=>false
 | .appl k bytes x y _=>match o.op with
  | .call { callee:=.builtin .append,args:=xs,argTypes:=ts }=>match xs.toList,ts.toList with
   | [x',y'],[t,t2]=>chkOpd x' x && chkOpd y' y && (match sliceElem P t,P.underlying t2 with
    | some (_,i),some (.slice _)=>match i.zero with
     | some z=>z.cells.size == i.size && i.size == k && i.bytes == bytes && i.bytes != 0
     | none=>false
    | _,_=>false)
   | _,_=>false
  | _=>false
 | .clr k zs x=>match o.op with
  | .call { callee:=.builtin .clear,args:=xs,argTypes:=ts }=>match xs.toList,ts.toList with
   | [x'],[t]=>chkOpd x' x && (match sliceElem P t with
    | some (e,i)=>match i.zero with
     | some z=>chkZero z zs
     | none=>false
    | none=>false)
   | _,_=>false
  | _=>false
 | .cpy k x y=>match o.op with
  | .call { callee:=.builtin .copy,args:=xs,argTypes:=ts }=>match xs.toList,ts.toList with
   | [x',y'],[t,t2]=>chkOpd x' x && chkOpd y' y && (match sliceElem P t with
    | some (_,i)=>i.size == k
    | none=>false)
   | _,_=>false
  | _=>false
 | .mm mx x y=>match o.op with
  | .call { callee:=.builtin b,args:=xs,.. }=>match xs.toList with
   | [x',y']=>chkOpd x' x && chkOpd y' y && decide (b=bif mx then .max else .min)
   | _=>false
  | _=>false
 | .call f ys=>match o.op with
  | .call { callee:=.value (.func f'),args:=xs,.. }=>fnOf f == f' && chkOpds xs.toList ys && entered P (fnOf f)
  | _=>false
 | .callp f ys=>match o.op with
  | .call { callee:=.value (.func f'),args:=xs,.. }=>fnOf f == f' && chkOpds xs.toList ys && entered P (fnOf f)
  | _=>false
 | .callb f ys=>match o.op with
  | .call { callee:=.value (.func f'),args:=xs,.. }=>fnOf f == f' && chkOpds xs.toList ys && entered P (fnOf f)
  | _=>false
 | .bad=>true
 | .callv x ys=>match o.op with
  | .call { callee:=.value x',args:=xs,.. }=>chkOpd x' x && chkOpds xs.toList ys
  | _=>false
 | .mkf f fst cap=>match o.op with
  | .makeFunc (.func f') fst' cap'=>fnOf f == f' && chkOpds fst'.toList fst && chkOpds cap'.toList cap
  | _=>false
 | .mkm=>match o.op with
  | .makeMap _ none=>true
  | _=>false
 | .nilc x=>match o.op with
  | .nilCheck x'=>chkOpd x' x
  | _=>false
 | .stl n a x _=>match o.op with
  | .store t a' x'=>match P.info? t with
   | some i=>chkOpd a' a && chkOpd x' x && i.size == n && o.dst.isNone
   | none=>false
  | _=>false
 | .appn k bytes x y=>match o.op with
  | .call { callee:=.builtin .append,args:=xs,argTypes:=ts }=>match xs.toList,ts.toList with
   | [x',y'],[t,t2]=>chkOpd x' x && chkOpd y' y && (match sliceElem P t,P.underlying t2 with
    | some (_,i),some (.slice _)=>match i.zero with
     | some z=>z.cells.size == i.size && i.size == k && i.bytes == bytes && i.bytes != 0
     | none=>false
    | _,_=>false)
   | _,_=>false
  | _=>false
 | .ga g k x=>match o.op with
  | .indexAddr t (.global g') x'=>g == g' && chkOpd x' x && (match P.underlying t with
   | some (.array n e)=>P.cellsOf e == k && (P.info? e).isSome && (match gcells g with
    | some row=>decide (2≤n) && row.length == n * k && decide (1≤k)
    | none=>false)
   | _=>false)
  | _=>false
 | .lkp ks zs ok x key=>match o.op with
  | .lookup xt x' key' ok'=>chkOpd x' x && chkOpd key' key && ok == ok' && (match P.underlying xt with
   | some (.map kt et)=>keyTy P kt ks && (match P.info? et with
    | some i=>match i.zero with
     | some z=>chkZeroV z zs
     | none=>false
    | none=>false)
   | _=>false)
  | _=>false
 | .lko ks k x key=>match o.op with
  | .lookup xt x' key' ok'=>chkOpd x' x && chkOpd key' key && !ok' && (match P.underlying xt with
   | some (.map kt et)=>keyTy P kt ks && (match P.info? et with
    | some i=>match i.zero with
     | some (.slice none 0 0)=>true
     | _=>false
    | none=>false)
   | _=>false)
  | _=>false
 | .ment ks x key=>match o.op with
  | .mapEntry mt x' key'=>chkOpd x' x && chkOpd key' key && (match P.underlying mt with
   | some (.map kt et)=>keyTy P kt ks && (match P.info? et with
    | some i=>i.zero.isSome
    | none=>false)
   | _=>false)
  | _=>false
 | .estr x st v=>match o.op with
  | .entryStore _ x' st' v'=>chkOpd x' x && chkOpd st' st && chkOpd v' v && o.dst.isNone
  | _=>false
 | .updo ks x key v=>match o.op with
  | .mapUpdate mt x' key' v'=>chkOpd x' x && chkOpd key' key && chkOpd v' v && o.dst.isNone && (match P.underlying mt with
   | some (.map kt _)=>keyTy P kt ks
   | _=>false)
  | .insert mt x' key' v'=>chkOpd x' x && chkOpd key' key && chkOpd v' v && o.dst.isNone && (match P.underlying mt with
   | some (.map kt _)=>keyTy P kt ks
   | _=>false)
  | _=>false
 | .upd ks x key v=>match o.op with
  | .mapUpdate mt x' key' v'=>chkOpd x' x && chkOpd key' key && chkOpd v' v && o.dst.isNone && (match P.underlying mt with
   | some (.map kt _)=>keyTy P kt ks
   | _=>false)
  | .insert mt x' key' v'=>chkOpd x' x && chkOpd key' key && chkOpd v' v && o.dst.isNone && (match P.underlying mt with
   | some (.map kt _)=>keyTy P kt ks
   | _=>false)
  | _=>false
section
variable {P:Program} {g g':G} {w w':World} {Pr:Nat→Prop} {s s':St} {a:Act} {F:Oracle} {bd:Bd}
theorem chkOptOpd_ok {x:Option Operand} {y:Option Opd} (h:chkOptOpd x y=true):(x=none∧y=none)∨∃ u v,x=some u∧y=some v∧chkOpd u v=true:=by
 unfold chkOptOpd at h
 split at h
 ·exact .inl ⟨rfl,rfl⟩
 ·exact .inr ⟨_,_,rfl,rfl,h⟩
 ·cases h
theorem fieldIs_ok {t:TypeId} {f off:Nat} {ft:TypeId} (h:fieldIs P t f off=some ft):∃ (fields:Array Field) (fld:Field),P.underlying t=some (.struct fields)∧fields[f]?=some fld∧fld.offset=off∧fld.type=ft:=by
 unfold fieldIs at h
 split at h
 ·rename_i fields hu
  split at h
  ·rename_i fld hf
   split at h
   ·rename_i ho;cases h;exact ⟨fields,fld,hu,hf,ho,rfl⟩
   ·cases h
  ·cases h
 ·cases h
theorem sliceElem_ok {t e:TypeId} {i:TypeInfo} (h:sliceElem P t=some (e,i)):P.underlying t=some (.slice e)∧P.info? e=some i:=by
 unfold sliceElem at h
 split at h
 ·rename_i e' hu
  split at h
  ·rename_i i' hi;cases h;exact ⟨hu,hi⟩
  ·cases h
 ·cases h
theorem chkOpds_get:∀ {xs:List Operand} {ys:List Opd},chkOpds xs ys=true→xs.length=ys.length∧∀ (i:Nat) (x:Operand) (y:Opd),xs[i]?=some x→ys[i]?=some y→chkOpd x y=true
 | [],[],_=>⟨rfl,by simp⟩
 | [],_ :: _,h=>by simp [chkOpds] at h
 | _ :: _,[],h=>by simp [chkOpds] at h
 | x :: xs,y :: ys,h=>by
  simp only [chkOpds,Bool.and_eq_true] at h
  obtain ⟨h1,h2⟩:=chkOpds_get h.2
  refine ⟨by simp [h1],fun i u v hi hj=>?_⟩
  cases i with
  | zero=>simp at hi hj;subst hi;subst hj;exact h.1
  | succ i=>exact h2 i u v (by simpa using hi) (by simpa using hj)
theorem op_ok (hS:Sound P F) (hen:∀ f args σ lo tr r,F f args σ lo tr=some r→entered P (fnOf f)=true) {o:Oper} {ao:AOp} {v:V} (hc:chkOp P o ao=true)
  (hv:stepOp F bd s ao=some (v,s')) (hI:Inv g w Pr s.σ) (hE:EnvOk g w Pr s.env a) (Q:Exit→Act→World→Prop):o.wp P a w (Post o a g w Pr s' v) Q:=by
 cases ao with
 | mov m x =>
  cases m with
  | cp =>
   simp only [chkOp] at hc
   simp only [stepOp] at hv
   cases hv
   split at hc
   ·rename_i y ho;exact (ok_mov_cp o (.inl ho) hc hI hE).wp Q
   ·rename_i y ho;exact (ok_mov_cp o (.inr ho) hc hI hE).wp Q
   ·cases hc
  | own =>
   simp only [chkOp] at hc
   simp only [stepOp] at hv
   cases hv
   split at hc
   ·rename_i y ho;exact (ok_mov_own o (.inl ho) hc hI hE).wp Q
   ·rename_i y ho;exact (ok_mov_own o (.inr ho) hc hI hE).wp Q
   ·cases hc
  | frz =>
   simp only [chkOp] at hc
   split at hc
   ·rename_i y ho;exact (ok_mov_frz o (.inl ho) hc hv hI hE).wp Q
   ·rename_i y ho;exact (ok_mov_frz o (.inr ho) hc hv hI hE).wp Q
   ·cases hc
  | arr =>
   simp only [chkOp] at hc
   split at hc
   ·rename_i y ho;exact (ok_mov_arr o (.inl ho) hc hv hI hE).wp Q
   ·rename_i y ho;exact (ok_mov_arr o (.inr ho) hc hv hI hE).wp Q
   ·cases hc
 | pick c x y =>
  simp only [chkOp] at hc
  split at hc
  ·rename_i c' x' y' ho
   simp only [Bool.and_eq_true] at hc
   simp only [stepOp] at hv
   split at hv
   ·rename_i t ht
    cases hv
    exact (ok_pick o ho hc.1.1 hc.1.2 hc.2 ht hI hE).wp Q
   ·cases hv
  ·cases hc
 | alloc zs =>
  simp only [chkOp] at hc
  split at hc
  case h_2=>cases hc
  rename_i t ho
  split at hc
  case h_2=>cases hc
  rename_i i hi
  split at hc
  case h_2=>cases hc
  rename_i z hz
  exact (ok_alloc o ho hi hz hc hv hI hE).wp Q
 | box x =>
  simp only [chkOp] at hc
  split at hc
  case h_2=>cases hc
  rename_i t y ho
  exact (ok_box o ho hc hv hI hE).wp Q
 | build zs ps =>
  simp only [chkOp] at hc
  split at hc
  case h_2=>cases hc
  rename_i t ps' ho
  split at hc
  case h_2=>cases hc
  rename_i i places hi hp
  split at hc
  case h_2=>cases hc
  rename_i z hz
  simp only [Bool.and_eq_true] at hc
  exact (ok_build o ho hi hz hc.1 hp hc.2 hv hI hE).wp Q
 | bsl m k n zs ps =>
  cases m with
  | own =>
   simp only [chkOp] at hc
   split at hc
   case h_2=>cases hc
   rename_i t n' ps' ho
   split at hc
   case h_2=>cases hc
   rename_i e i hel
   split at hc
   case h_2=>cases hc
   rename_i z hz
   simp only [Bool.and_eq_true,beq_iff_eq,decide_eq_true_eq] at hc
   obtain ⟨⟨⟨⟨⟨h1,h2⟩,h3⟩,h4⟩,h5⟩,h6⟩:=hc
   subst h4
   obtain ⟨e1,e2⟩:=sliceElem_ok hel
   exact (ok_bsl_own o ho e1 e2 hz h1 h2 h3 h5 h6 hv hI hE).wp Q
  | cp=>simp [chkOp] at hc
  | frz=>simp [chkOp] at hc
  | arr =>
   simp only [chkOp] at hc
   split at hc
   case h_2=>cases hc
   rename_i t n' ps' ho
   split at hc
   case h_2=>cases hc
   rename_i e i hel
   split at hc
   case h_2=>cases hc
   rename_i z hz
   simp only [Bool.and_eq_true,beq_iff_eq,decide_eq_true_eq] at hc
   obtain ⟨⟨⟨⟨⟨h1,h2⟩,h3⟩,h4⟩,h5⟩,h6⟩:=hc
   subst h4
   obtain ⟨e1,e2⟩:=sliceElem_ok hel
   exact (ok_bsl_arr o ho e1 e2 hz h1 h2 h3 h5 h6 hv hI hE).wp Q
 | ld m n x =>
  cases m with
  | cp =>
   simp only [chkOp] at hc
   split at hc
   case h_2=>cases hc
   rename_i t y ho
   split at hc
   case h_2=>cases hc
   rename_i i hi
   simp only [Bool.and_eq_true,beq_iff_eq] at hc
   exact (ok_ld_cp o ho hc.1.1 hc.1.2 hi hc.2 hv hI hE).wp Q
  | own =>
   cases n with
   | none =>
    simp only [chkOp] at hc
    split at hc
    case h_2=>cases hc
    rename_i t y ho
    simp only [Bool.and_eq_true,Bool.not_eq_true'] at hc
    exact (ok_ld_own o ho hc.1.1.1 hc.1.1.2 hc.1.2 hv hI hE).wp Q
   | some n =>
    simp only [chkOp] at hc
    split at hc
    case h_2=>cases hc
    rename_i t y ho
    split at hc
    case h_2=>cases hc
    rename_i i hi
    simp only [Bool.and_eq_true,beq_iff_eq] at hc
    exact (ok_ld_ownN o ho hc.1.1.1 hc.1.1.2 hi hc.1.2 hc.2 hv hI hE).wp Q
  | frz =>
   cases n with
   | none =>
    simp only [chkOp] at hc
    split at hc
    case h_2=>cases hc
    rename_i t y ho
    simp only [Bool.and_eq_true,Bool.not_eq_true'] at hc
    exact (ok_ld_frz o ho hc.1.1 hc.1.2 hc.2 hv hI hE).wp Q
   | some n =>
    simp only [chkOp] at hc
    split at hc
    case h_2=>cases hc
    rename_i t y ho
    split at hc
    case h_2=>cases hc
    rename_i i hi
    simp only [Bool.and_eq_true,beq_iff_eq] at hc
    exact (ok_ld_frzN o ho hc.1.1.1 hc.1.1.2 hi hc.1.2 hc.2 hv hI hE).wp Q
  | arr =>
   simp only [chkOp] at hc
   split at hc
   case h_2=>cases hc
   rename_i t y ho
   split at hc
   case h_2=>cases hc
   rename_i i hi
   simp only [Bool.and_eq_true,beq_iff_eq] at hc
   exact (ok_ld_cp o ho hc.1.1 hc.1.2 hi hc.2 (ldr_ld hv) hI hE).wp Q
 | ldn n x u =>
  simp only [chkOp] at hc
  split at hc
  case h_2=>cases hc
  rename_i t y ho
  split at hc
  case h_2=>cases hc
  rename_i i hi
  simp only [Bool.and_eq_true,beq_iff_eq] at hc
  exact (ok_ld_cp o ho hc.1.1 hc.1.2 hi hc.2 (ldn_ld hv) hI hE).wp Q
 | st n x y =>
  simp only [chkOp] at hc
  split at hc
  case h_2=>cases hc
  rename_i t x' y' ho
  split at hc
  case h_2=>cases hc
  rename_i i hi
  simp only [Bool.and_eq_true,beq_iff_eq,Option.isNone_iff_eq_none] at hc
  exact (ok_st o ho hc.1.1.1 hc.1.1.2 hi hc.1.2 hc.2 hv hI hE).wp Q
 | bin op x y =>
  simp only [chkOp] at hc
  split at hc
  case h_2=>cases hc
  rename_i op' t x' y' t' ho
  simp only [Bool.and_eq_true,decide_eq_true_eq] at hc
  obtain ⟨⟨rfl,h1⟩,h2⟩:=hc
  exact (ok_bin o ho h1 h2 hv hI hE).wp Q
 | eq neg kd ks x y =>
  simp only [chkOp] at hc
  split at hc
  case h_2=>cases hc
  rename_i op t x' y' t' ho
  simp only [Bool.and_eq_true,beq_iff_eq] at hc
  obtain ⟨⟨⟨h1,h2⟩,h3⟩,h4⟩:=hc
  have hop:op=(bif neg then .neq else .eql):=by
   cases op<;>simp [opOf] at h1<;>subst h1<;>rfl
  rw [hop] at ho
  exact (ok_eq o ho h2 h3 h4 hv hI hE).wp Q
 | un op x =>
  simp only [chkOp] at hc
  split at hc
  case h_2=>cases hc
  rename_i op' t x' ho
  simp only [Bool.and_eq_true,decide_eq_true_eq] at hc
  obtain ⟨rfl,h1⟩:=hc
  simp only [stepOp] at hv
  split at hv
  ·rename_i d hd;cases hv;exact (ok_un o ho h1 hd hI hE).wp Q
  ·cases hv
 | conv k x =>
  simp only [chkOp] at hc
  split at hc
  case h_2=>cases hc
  rename_i src dst x' ho
  simp only [Bool.and_eq_true] at hc
  obtain ⟨⟨h1,h2⟩,h3⟩:=hc
  split at h3
  ·rename_i k' hd
   have:k=k':=of_decide_eq_true h3
   subst this
   exact (ok_conv o ho h1 h2 hd hv hI hE).wp Q
  ·cases h3
 | fa off x =>
  simp only [chkOp] at hc
  split at hc
  case h_2=>cases hc
  rename_i t x' f ho
  simp only [Bool.and_eq_true] at hc
  obtain ⟨h1,h2⟩:=hc
  split at h2
  case h_2=>cases h2
  rename_i ft hft
  split at h2
  case h_2=>cases h2
  rename_i i hi
  obtain ⟨fields,fld,f1,f2,f3,rfl⟩:=fieldIs_ok hft
  exact (ok_fa o ho h1 f1 f2 hi (by simpa using h2) f3 hv hI hE).wp Q
 | fld off n x =>
  simp only [chkOp] at hc
  split at hc
  case h_2=>cases hc
  rename_i t x' f ho
  simp only [Bool.and_eq_true] at hc
  obtain ⟨h1,h2⟩:=hc
  split at h2
  case h_2=>cases h2
  rename_i ft hft
  split at h2
  case h_2=>cases h2
  rename_i i hi
  simp only [Bool.and_eq_true,beq_iff_eq] at h2
  obtain ⟨fields,fld,f1,f2,f3,rfl⟩:=fieldIs_ok hft
  exact (ok_fld o ho h1 f1 f2 hi f3 h2.1 h2.2 hv hI hE).wp Q
 | ia k x i =>
  simp only [chkOp] at hc
  split at hc
  case h_2=>cases hc
  rename_i t x' i' ho
  simp only [Bool.and_eq_true] at hc
  obtain ⟨⟨h1,h2⟩,h3⟩:=hc
  split at h3
  case h_2=>cases h3
  rename_i e ti hel
  obtain ⟨e1,e2⟩:=sliceElem_ok hel
  exact (ok_ia o ho h1 h2 e1 e2 (by simpa using h3) hv hI hE).wp Q
 | ixs x i =>
  simp only [chkOp] at hc
  split at hc
  case h_2=>cases hc
  rename_i t x' i' ho
  simp only [Bool.and_eq_true] at hc
  obtain ⟨⟨h1,h2⟩,h3⟩:=hc
  split at h3
  ·rename_i hu;exact (ok_ixs o ho h1 h2 hu hv hI hE).wp Q
  ·cases h3
 | slc m k x lo hi =>
  cases m with
  | cp =>
   simp only [chkOp] at hc
   split at hc
   case h_2=>cases hc
   rename_i t x' lo' hi' ho
   simp only [Bool.and_eq_true] at hc
   obtain ⟨⟨⟨h1,h2⟩,h3⟩,h4⟩:=hc
   split at h4
   case h_2=>cases h4
   rename_i e ti hel
   obtain ⟨e1,e2⟩:=sliceElem_ok hel
   exact (ok_slc_cp o ho h1 (chkOptOpd_ok h2) (chkOptOpd_ok h3) e1 e2 (by simpa using h4) hv hI hE).wp Q
  | own =>
   cases hi with
   | none =>
    simp only [chkOp] at hc
    split at hc
    case h_2=>cases hc
    rename_i t x' lo' ho
    simp only [Bool.and_eq_true] at hc
    obtain ⟨⟨h1,h2⟩,h4⟩:=hc
    split at h4
    case h_2=>cases h4
    rename_i e ti hel
    obtain ⟨e1,e2⟩:=sliceElem_ok hel
    exact (ok_slc_own o ho h1 (chkOptOpd_ok h2) e1 e2 (by simpa using h4) hv hI hE).wp Q
   | some h=>simp [chkOp] at hc
  | frz=>simp [chkOp] at hc
  | arr=>simp [chkOp] at hc
 | slcs x lo hi =>
  simp only [chkOp] at hc
  split at hc
  case h_2=>cases hc
  rename_i t x' lo' hi' ho
  simp only [Bool.and_eq_true] at hc
  obtain ⟨⟨⟨h1,h2⟩,h3⟩,h4⟩:=hc
  split at h4
  ·rename_i hu;exact (ok_slcs o ho h1 (chkOptOpd_ok h2) (chkOptOpd_ok h3) hu hv hI hE).wp Q
  ·cases h4
 | mks m k bytes zs n c =>
  cases m with
  | own =>
   simp only [chkOp] at hc
   split at hc
   case h_2=>cases hc
   rename_i t n' c' ho
   split at hc
   case h_2=>cases hc
   rename_i e i hel
   split at hc
   case h_2=>cases hc
   rename_i z hz
   simp only [Bool.and_eq_true,beq_iff_eq] at hc
   obtain ⟨⟨⟨⟨h1,h2⟩,h3⟩,h4⟩,h5⟩:=hc
   obtain ⟨e1,e2⟩:=sliceElem_ok hel
   exact (ok_mks_own o ho h4 h5 e1 e2 hz h1 h2 h3 hv hI hE).wp Q
  | cp=>simp [chkOp] at hc
  | frz=>simp [chkOp] at hc
  | arr =>
   simp only [chkOp] at hc
   split at hc
   case h_2=>cases hc
   rename_i t n' c' ho
   split at hc
   case h_2=>cases hc
   rename_i e i hel
   split at hc
   case h_2=>cases hc
   rename_i z hz
   simp only [Bool.and_eq_true,beq_iff_eq] at hc
   obtain ⟨⟨⟨⟨h1,h2⟩,h3⟩,h4⟩,h5⟩:=hc
   obtain ⟨e1,e2⟩:=sliceElem_ok hel
   exact (ok_mks_arr o ho h4 h5 e1 e2 hz h1 h2 h3 hv hI hE).wp Q
 | exd ix x =>
  simp only [chkOp] at hc
  split at hc
  case h_2=>cases hc
  rename_i x' ix' ho
  simp only [Bool.and_eq_true,beq_iff_eq] at hc
  obtain ⟨h1,rfl⟩:=hc
  exact (ok_exd o ho h1 hv hI hE).wp Q
 | ext ix x =>
  simp only [chkOp] at hc
  split at hc
  case h_2=>cases hc
  rename_i x' ix' ho
  simp only [Bool.and_eq_true,beq_iff_eq] at hc
  obtain ⟨h1,rfl⟩:=hc
  exact (ok_ext o ho h1 hv hI hE).wp Q
 | len kd x =>
  simp only [chkOp] at hc
  split at hc
  case h_2=>cases hc
  rename_i xs ts ho
  split at hc
  case h_2=>cases hc
  rename_i x' t hxs hts
  obtain rfl:xs = #[x']:=by cases xs;simp_all
  obtain rfl:ts = #[t]:=by cases ts;simp_all
  simp only [Bool.and_eq_true] at hc
  obtain ⟨h1,h2⟩:=hc
  split at h2
  ·rename_i e hu;exact (ok_len0 o ho h1 hu hv hI hE).wp Q
  ·rename_i hu;exact (ok_len1 o ho h1 hu hv hI hE).wp Q
  ·rename_i k e hu;exact (ok_len2 o ho h1 hu hv hI hE).wp Q
  ·cases h2
 | app k bytes x y =>
  simp only [chkOp] at hc
  split at hc
  case h_2=>cases hc
  rename_i xs ts ho
  split at hc
  case h_2=>cases hc
  rename_i x' y' t t2 hxs hts
  obtain rfl:xs = #[x',y']:=by cases xs;simp_all
  obtain rfl:ts = #[t,t2]:=by cases ts;simp_all
  simp only [Bool.and_eq_true] at hc
  obtain ⟨⟨h1,h2⟩,h3⟩:=hc
  split at h3
  case h_2=>cases h3
  rename_i e i e2 hel hu2
  split at h3
  case h_2=>cases h3
  rename_i z hz
  simp only [Bool.and_eq_true,beq_iff_eq,bne_iff_ne,ne_eq] at h3
  obtain ⟨⟨⟨q1,q2⟩,q3⟩,q4⟩:=h3
  obtain ⟨e1,e2⟩:=sliceElem_ok hel
  exact (ok_app o ho h1 h2 e1 hu2 e2 hz q1 q2 q3 q4 hv hI hE).wp Q
 | appa k bytes x y =>
  simp only [chkOp] at hc
  split at hc
  case h_2=>cases hc
  rename_i xs ts ho
  split at hc
  case h_2=>cases hc
  rename_i x' y' t t2 hxs hts
  obtain rfl:xs = #[x',y']:=by cases xs;simp_all
  obtain rfl:ts = #[t,t2]:=by cases ts;simp_all
  simp only [Bool.and_eq_true] at hc
  obtain ⟨⟨h1,h2⟩,h3⟩:=hc
  split at h3
  case h_2=>cases h3
  rename_i e i e2 hel hu2
  split at h3
  case h_2=>cases h3
  rename_i z hz
  simp only [Bool.and_eq_true,beq_iff_eq,bne_iff_ne,ne_eq] at h3
  obtain ⟨⟨⟨q1,q2⟩,q3⟩,q4⟩:=h3
  obtain ⟨e1,e2⟩:=sliceElem_ok hel
  exact (ok_appa o ho h1 h2 e1 hu2 e2 hz q1 q2 q3 q4 hv hI hE).wp Q
 | appl k bytes x y rs =>
  simp only [chkOp] at hc
  split at hc
  case h_2=>cases hc
  rename_i xs ts ho
  split at hc
  case h_2=>cases hc
  rename_i x' y' t t2 hxs hts
  obtain rfl:xs = #[x',y']:=by cases xs;simp_all
  obtain rfl:ts = #[t,t2]:=by cases ts;simp_all
  simp only [Bool.and_eq_true] at hc
  obtain ⟨⟨h1,h2⟩,h3⟩:=hc
  split at h3
  case h_2=>cases h3
  rename_i e i e2 hel hu2
  split at h3
  case h_2=>cases h3
  rename_i z hz
  simp only [Bool.and_eq_true,beq_iff_eq,bne_iff_ne,ne_eq] at h3
  obtain ⟨⟨⟨q1,q2⟩,q3⟩,q4⟩:=h3
  obtain ⟨e1,e2⟩:=sliceElem_ok hel
  exact (ok_appa o ho h1 h2 e1 hu2 e2 hz q1 q2 q3 q4 (appl_appa hv) hI hE).wp Q
 | clr k zs x =>
  simp only [chkOp] at hc
  split at hc
  case h_2=>cases hc
  rename_i xs ts ho
  split at hc
  case h_2=>cases hc
  rename_i x' t hxs hts
  obtain rfl:xs = #[x']:=by cases xs;simp_all
  obtain rfl:ts = #[t]:=by cases ts;simp_all
  simp only [Bool.and_eq_true] at hc
  obtain ⟨h1,h3⟩:=hc
  split at h3
  case h_2=>cases h3
  rename_i e i hel
  split at h3
  case h_2=>cases h3
  rename_i z hz
  obtain ⟨e1,e2⟩:=sliceElem_ok hel
  exact (ok_clr o ho h1 e1 e2 hz h3 hv hI hE).wp Q
 | cpy k x y =>
  simp only [chkOp] at hc
  split at hc
  case h_2=>cases hc
  rename_i xs ts ho
  split at hc
  case h_2=>cases hc
  rename_i x' y' t t2 hxs hts
  obtain rfl:xs = #[x',y']:=by cases xs;simp_all
  obtain rfl:ts = #[t,t2]:=by cases ts;simp_all
  simp only [Bool.and_eq_true] at hc
  obtain ⟨⟨h1,h2⟩,h3⟩:=hc
  split at h3
  case h_2=>cases h3
  rename_i e i hel
  simp only [beq_iff_eq] at h3
  obtain ⟨e1,e2⟩:=sliceElem_ok hel
  exact (ok_cpy o ho h1 h2 e1 e2 h3 hv hI hE).wp Q
 | mm mx x y =>
  simp only [chkOp] at hc
  split at hc
  case h_2=>cases hc
  rename_i b xs ts ho
  split at hc
  case h_2=>cases hc
  rename_i x' y' hxs
  obtain rfl:xs = #[x',y']:=by cases xs;simp_all
  simp only [Bool.and_eq_true,decide_eq_true_eq] at hc
  obtain ⟨⟨h1,h2⟩,rfl⟩:=hc
  exact (ok_mm o ho h1 h2 hv hI hE).wp Q
 | call f ys =>
  simp only [chkOp] at hc
  split at hc
  case h_2=>cases hc
  rename_i f' xs ts ho
  simp only [Bool.and_eq_true,beq_iff_eq] at hc
  obtain ⟨⟨rfl,h1⟩,h2⟩:=hc
  exact ok_call o (hS.1 f) ho h1 h2 hv hI hE Q
 | callp f ys =>
  simp only [chkOp] at hc
  split at hc
  case h_2=>cases hc
  rename_i f' xs ts ho
  simp only [Bool.and_eq_true,beq_iff_eq] at hc
  obtain ⟨⟨rfl,h1⟩,h2⟩:=hc
  simp only [stepOp] at hv
  split at hv
  case h_2=>cases hv
  rename_i v1 σ1 hF
  split at hv
  case isFalse=>cases hv
  cases hv
  refine ok_call (bd:=⟨max bd.lo s.σ.length,max bd.tr s.σ.length⟩) o (hS.1 f) ho h1 h2 ?_ hI hE Q
  simp only [stepOp,hF]
 | callb f ys =>
  simp only [chkOp] at hc
  split at hc
  case h_2=>cases hc
  rename_i f' xs ts ho
  simp only [Bool.and_eq_true,beq_iff_eq] at hc
  obtain ⟨⟨rfl,h1⟩,h2⟩:=hc
  exact Oper.wp_mono (fun _ _ h=>h.1) (ok_callb o (hS.1 f) ho h1 h2 hv hI hE Q)
 | bad=>simp [stepOp] at hv
 | callv x ys =>
  simp only [chkOp] at hc
  split at hc
  case h_2=>cases hc
  rename_i x' xs ts ho
  simp only [Bool.and_eq_true] at hc
  exact ok_callv o hS hen ho hc.1 hc.2 hv hI hE Q
 | mkf f fst cap =>
  simp only [chkOp] at hc
  split at hc
  case h_2=>cases hc
  rename_i f' fst' cap' ho
  simp only [Bool.and_eq_true,beq_iff_eq] at hc
  obtain ⟨⟨rfl,h1⟩,h2⟩:=hc
  obtain ⟨a1,a2⟩:=chkOpds_get h1
  obtain ⟨b1,b2⟩:=chkOpds_get h2
  exact (ok_mkf o ho (by simpa using a1) (fun i x x' hi hj=>a2 i x x' (by simpa using hi) hj) (by simpa using b1) (fun i x x' hi hj=>b2 i x x' (by simpa using hi) hj) hv hI hE).wp Q
 | mkm =>
  simp only [chkOp] at hc
  split at hc
  case h_2=>cases hc
  rename_i t ho
  exact (ok_mkm o ho hv hI hE).wp Q
 | stl n a x rs =>
  simp only [chkOp] at hc
  split at hc
  case h_2=>cases hc
  rename_i t a' x' ho
  split at hc
  case h_2=>cases hc
  rename_i i hi
  simp only [Bool.and_eq_true,beq_iff_eq,Option.isNone_iff_eq_none] at hc
  exact (ok_st o ho hc.1.1.1 hc.1.1.2 hi hc.1.2 hc.2 (stl_st hv) hI hE).wp Q
 | appn k bytes x y =>
  simp only [chkOp] at hc
  split at hc
  case h_2=>cases hc
  rename_i xs ts ho
  split at hc
  case h_2=>cases hc
  rename_i x' y' t t2 hxs hts
  obtain rfl:xs = #[x',y']:=by cases xs;simp_all
  obtain rfl:ts = #[t,t2]:=by cases ts;simp_all
  simp only [Bool.and_eq_true] at hc
  obtain ⟨⟨h1,h2⟩,h3⟩:=hc
  split at h3
  case h_2=>cases h3
  rename_i e i e2 hel hu2
  split at h3
  case h_2=>cases h3
  rename_i z hz
  simp only [Bool.and_eq_true,beq_iff_eq,bne_iff_ne,ne_eq] at h3
  obtain ⟨⟨⟨q1,q2⟩,q3⟩,q4⟩:=h3
  obtain ⟨e1,e2⟩:=sliceElem_ok hel
  exact (ok_appn o ho h1 h2 e1 hu2 e2 hz q1 q2 q3 q4 hv hI hE).1.wp Q
 | nilc x =>
  simp only [chkOp] at hc
  split at hc
  case h_2=>cases hc
  rename_i x' ho
  exact (ok_nilc o ho hc hv hI hE).wp Q
 | ga g k x =>
  simp only [chkOp] at hc
  split at hc
  case h_2=>cases hc
  rename_i t g' x' ho
  simp only [Bool.and_eq_true,beq_iff_eq] at hc
  obtain ⟨⟨rfl,h2⟩,hc⟩:=hc
  split at hc
  case h_2=>cases hc
  rename_i n e hu
  simp only [Bool.and_eq_true,beq_iff_eq] at hc
  obtain ⟨⟨h3,h4⟩,hc⟩:=hc
  split at hc
  case h_2=>cases hc
  rename_i row hrow
  simp only [Bool.and_eq_true,beq_iff_eq,decide_eq_true_eq] at hc
  obtain ⟨⟨h5,h6⟩,h7⟩:=hc
  obtain ⟨i,hi⟩:=Option.isSome_iff_exists.mp h4
  exact (ok_ga o ho h2 hu h3 hi hrow h5 h6 h7 hv hI hE).wp Q
 | lkp ks zs ok x key =>
  simp only [chkOp] at hc
  split at hc
  case h_2=>cases hc
  rename_i xt x' key' ok' ho
  simp only [Bool.and_eq_true,beq_iff_eq] at hc
  obtain ⟨⟨⟨h1,h2⟩,rfl⟩,hc⟩:=hc
  split at hc
  case h_2=>cases hc
  rename_i kt et hu
  simp only [Bool.and_eq_true] at hc
  obtain ⟨hk,hc⟩:=hc
  split at hc
  case h_2=>cases hc
  rename_i i hi
  split at hc
  case h_2=>cases hc
  rename_i z hz
  exact (ok_lkp o ho h1 h2 hu hk hi hz hc hv hI hE).wp Q
 | upd ks x key v =>
  simp only [chkOp] at hc
  split at hc
  case h_3=>cases hc
  ·rename_i mt x' key' v' ho
   simp only [Bool.and_eq_true,Option.isNone_iff_eq_none] at hc
   obtain ⟨⟨⟨⟨h1,h2⟩,h3⟩,h4⟩,hc⟩:=hc
   split at hc
   case h_2=>cases hc
   rename_i kt et hu
   exact (ok_upd o (.inl ho) h4 h1 h2 h3 hu hc hv hI hE).wp Q
  ·rename_i mt x' key' v' ho
   simp only [Bool.and_eq_true,Option.isNone_iff_eq_none] at hc
   obtain ⟨⟨⟨⟨h1,h2⟩,h3⟩,h4⟩,hc⟩:=hc
   split at hc
   case h_2=>cases hc
   rename_i kt et hu
   exact (ok_upd o (.inr ho) h4 h1 h2 h3 hu hc hv hI hE).wp Q
 | ment ks x key =>
  simp only [chkOp] at hc
  split at hc
  case h_2=>cases hc
  rename_i mt x' key' ho
  simp only [Bool.and_eq_true] at hc
  obtain ⟨⟨h1,h2⟩,hc⟩:=hc
  split at hc
  case h_2=>cases hc
  rename_i kt et hu
  simp only [Bool.and_eq_true] at hc
  obtain ⟨hc,h3⟩:=hc
  split at h3
  case h_2=>cases h3
  rename_i i hi
  obtain ⟨z,hz⟩:=Option.isSome_iff_exists.mp h3
  exact (ok_ment o ho h1 h2 hu hc hi hz hv hI hE).wp Q
 | estr x st v =>
  simp only [chkOp] at hc
  split at hc
  case h_2=>cases hc
  rename_i mt x' st' v' ho
  simp only [Bool.and_eq_true,Option.isNone_iff_eq_none] at hc
  obtain ⟨⟨⟨h1,h2⟩,h3⟩,h4⟩:=hc
  exact (ok_estr o ho h4 h1 h2 h3 hv hI hE).wp Q
 | updo ks x key v =>
  simp only [chkOp] at hc
  split at hc
  case h_3=>cases hc
  ·rename_i mt x' key' v' ho
   simp only [Bool.and_eq_true,Option.isNone_iff_eq_none] at hc
   obtain ⟨⟨⟨⟨h1,h2⟩,h3⟩,h4⟩,hc⟩:=hc
   split at hc
   case h_2=>cases hc
   rename_i kt et hu
   exact (ok_updo o (.inl ho) h4 h1 h2 h3 hu hc hv hI hE).wp Q
  ·rename_i mt x' key' v' ho
   simp only [Bool.and_eq_true,Option.isNone_iff_eq_none] at hc
   obtain ⟨⟨⟨⟨h1,h2⟩,h3⟩,h4⟩,hc⟩:=hc
   split at hc
   case h_2=>cases hc
   rename_i kt et hu
   exact (ok_updo o (.inr ho) h4 h1 h2 h3 hu hc hv hI hE).wp Q
 | lko ks k x key =>
  simp only [chkOp] at hc
  split at hc
  case h_2=>cases hc
  rename_i xt x' key' ok' ho
  simp only [Bool.and_eq_true,Bool.not_eq_true'] at hc
  obtain ⟨⟨⟨h1,h2⟩,rfl⟩,hc⟩:=hc
  split at hc
  case h_2=>cases hc
  rename_i kt et hu
  simp only [Bool.and_eq_true] at hc
  obtain ⟨hk,hc⟩:=hc
  split at hc
  case h_2=>cases hc
  rename_i i hi
  split at hc
  case h_2=>cases hc
  rename_i hz
  exact (ok_lko o ho h1 h2 hu hk hi hz hv hI hE).wp Q
end
end Go.Proofs.YteeofkbhopioiaaGreatDoor.Am
