/- Lemmas that the rows' proofs rest on; each states its own conditions. -/
import Derived.Test.YteeofkbhopioiaaGreatDoorMachA
import Derived.Laws.Tables
import Derived.Laws.AppendOwn
import Derived.Stop.SameAnswer
set_option linter.unusedSimpArgs false
set_option linter.unusedVariables false
set_option linter.unusedSectionVars false
namespace Go.Proofs.YteeofkbhopioiaaGreatDoor.Am
open Go
section
variable {P:Program} {g g':G} {w w':World} {Pr:Nat→Prop} {s s':St} {a:Act} {F:Oracle} {bd:Bd}
theorem RepOb.frame (e:Ext g w g' w') {l:Nat} (hk:∀ i,Keep g g' (.cell l,i)) (hb:∀ b,g.kind b=.obj l→w'.heap[b]?=w.heap[b]?∧g'.kind b=.obj l) {o:Ob} (h:RepOb g w Pr l o):RepOb g' w' Pr l o:=by
 cases o with
 | cells cs =>
  obtain ⟨b,o,arr,ty,h1,h2,h3,h4,h5⟩:=h
  obtain ⟨e1,e2⟩:=hb b h2
  refine ⟨b,o,arr,ty,e.loc _ _ h1,e2,e1.trans h3,h4,fun i c hi=>?_⟩
  obtain ⟨u,k1,k2,k3⟩:=h5 i c hi
  exact ⟨u,k1,k2,RepC.ext e (hk _) k3⟩
 | map es =>
  obtain ⟨b,o,mes,clock,h1,h2,h3,h4,hbn,h5⟩:=h
  obtain ⟨e1,e2⟩:=hb b h2
  refine ⟨b,o,mes,clock,e.loc _ _ h1,e2,e1.trans h3,h4,hbn,fun i k v hi=>?_⟩
  obtain ⟨m,k1,k2,k3⟩:=h5 i k v hi
  exact ⟨m,k1,RepV1.ext e hk k2,RepV1.ext e hk k3⟩
 | dead=>trivial
 | blank n =>
  obtain ⟨b,o,arr,ty,h1,h2,h3,h4⟩:=h
  obtain ⟨e1,e2⟩:=hb b h2
  exact ⟨b,o,arr,ty,e.loc _ _ h1,e2,e1.trans h3,h4⟩
theorem EnvOk.ext (e:Ext g w g' w') (hk:∀ t i,Keep g g' (.tmp t,i)) {env:Env} (h:EnvOk g w Pr env a):EnvOk g' w' Pr env a:=fun t=>RepV.ext e (hk t) (h t)
theorem alloc_get {o:Obj} (b:Nat) (h:b < w.heap.size):(w.alloc o).heap[b]?=w.heap[b]?:=by
 show (w.heap.push o)[b]?=_
 rw [Array.getElem?_push,if_neg (by omega)]
theorem alloc_new {o:Obj}:(w.alloc o).heap[w.heap.size]?=some o:=by
 show (w.heap.push o)[w.heap.size]?=_
 simp
theorem alloc_cell {o:Obj} {x:Addr} (h:x.block < w.heap.size):(w.alloc o).cell? x=w.cell? x:=by
 simp only [World.cell?,alloc_get _ h]
def G.withKind (g:G) (b:Nat) (k:Bk):G:={ g with kind:=fun x=>if x=b then k else g.kind x }
def G.withOwn (g:G) (b:Nat) (p:Place):G:={ g with own:=fun x=>if x=b then some p else g.own x }
def G.withLoc (g:G) (x:Nat × Nat):G:={ g with loc:=g.loc ++ [x] }
theorem loc_old {g:G} {x y:Nat × Nat} {l:Nat} (h:g.loc[l]?=some y):(g.loc ++ [x])[l]?=some y:=by
 rw [List.getElem?_append_left (List.getElem?_eq_some_iff.mp h).1];exact h
def G.newObj (g:G) (w:World) (l:Nat):G:=(g.withKind w.heap.size (.obj l)).withLoc (w.heap.size,0)
theorem newObj_ext (hI:Inv g w Pr s.σ) (o:Obj) (l:Nat):Ext g w (g.newObj w l) (w.alloc o) where
 st x v h:=by
  obtain ⟨h1,h2,h3⟩:=h
  have hlt:x.block < w.heap.size:=hI.lt _ (by rcases h3 with h3 | ⟨n,h3,_⟩<;>rw [h3]<;>simp)
  refine ⟨h1,by rw [alloc_cell hlt];exact h2,?_⟩
  have hne:x.block≠w.heap.size:=by omega
  simpa [G.newObj,G.withKind,G.withLoc,hne] using h3
 loc l x h:=loc_old h
 size:=by simp
 shape b arr ty fz h:=⟨arr,by rw [alloc_get b (Array.getElem?_eq_some_iff.mp h).1];exact h,rfl⟩
 os:=rfl
 tape:=rfl
 output:=rfl
theorem newObj_keep (hI:Inv g w Pr s.σ) (l:Nat) (p:Place):Keep g (g.newObj w l) p:=by
 intro b n h1 h2
 have hlt:b < w.heap.size:=hI.lt _ (by rw [h2];simp)
 have hne:b≠w.heap.size:=by omega
 exact ⟨h1,by simpa [G.newObj,G.withKind,G.withLoc,hne] using h2⟩
theorem newObj_fr (hI:Inv g w Pr s.σ) (o:Obj) (l:Nat):Fr Pr g w (g.newObj w l) (w.alloc o):=by
 intro b hb
 have hlt:=(hI.pr b hb).1
 have hne:b≠w.heap.size:=by omega
 exact ⟨alloc_get b hlt,by simp [G.newObj,G.withKind,G.withLoc,hne],rfl⟩
theorem newObj_inv (hI:Inv g w Pr s.σ) (o:Obj) (ob:Ob) (h:RepOb (g.newObj w s.σ.length) (w.alloc o) Pr s.σ.length ob):Inv (g.newObj w s.σ.length) (w.alloc o) Pr (s.σ ++ [ob]) where
 len:=by simp [G.newObj,G.withLoc,G.withKind,hI.len]
 ob l x hx:=by
  by_cases hl:l < s.σ.length
  ·rw [List.getElem?_append_left hl] at hx
   refine RepOb.frame (newObj_ext hI o _) (fun i=>newObj_keep hI _ _) ?_ (hI.ob l x hx)
   intro b hb
   have hlt:b < w.heap.size:=hI.lt _ (by rw [hb];simp)
   have hne:b≠w.heap.size:=by omega
   exact ⟨alloc_get b hlt,by simpa [G.newObj,G.withKind,G.withLoc,hne] using hb⟩
  ·rw [List.getElem?_append_right (by omega)] at hx
   have:l=s.σ.length:=by
    have:=(List.getElem?_eq_some_iff.mp hx).1
    simp at this;omega
   subst this
   simp at hx
   subst hx
   exact h
 lt b hb:=by
  by_cases he:b=w.heap.size
  ·subst he;simp
  ·have:=hI.lt b (by simpa [G.newObj,G.withKind,G.withLoc,he] using hb)
   simp;omega
 pr b hb:=by
  obtain ⟨h1,h2,h3⟩:=hI.pr b hb
  have hne:b≠w.heap.size:=by omega
  exact ⟨by simp;omega,by simpa [G.newObj,G.withKind,G.withLoc,hne] using h2,h3⟩
 gl:=hI.gl.mono (newObj_ext hI o _).st
theorem newObj_loc (hI:Inv g w Pr s.σ):(g.newObj w s.σ.length).loc[s.σ.length]?=some (w.heap.size,0):=by
 simp [G.newObj,G.withLoc,G.withKind,← hI.len]
theorem new_cells (hI:Inv g w Pr s.σ) {arr:Array Value} {ty:TypeId} {cs:List C} (hl:cs.length≤arr.size)
  (hc:∀ (i:Nat) (c:C),cs[i]?=some c→∃ u,arr[i]?=some u∧u.oneCell'=true∧∀ p,RepC g w Pr p c u) :
  Inv (g.newObj w s.σ.length) (w.alloc (.cells arr ty)) Pr (s.σ ++ [.cells cs]):=by
 refine newObj_inv hI _ _ ⟨w.heap.size,0,arr,ty,newObj_loc hI,by simp [G.newObj,G.withKind,G.withLoc],alloc_new,by omega,fun i c hi=>?_⟩
 obtain ⟨u,k1,k2,k3⟩:=hc i c hi
 exact ⟨u,by simpa using k1,k2,RepC.ext (newObj_ext hI _ _) (newObj_keep hI _ _) (k3 _)⟩
theorem OpOk.newObj {o:Oper} {v:V} {u:Value} {x:Obj} {ob:Ob} (hr:(execOp a.eval o).run P w=.ok (.value u) (w.alloc x)) (hI:Inv g w Pr s.σ) (hE:EnvOk g w Pr s.env a)
  (hI':Inv (g.newObj w s.σ.length) (w.alloc x) Pr (s.σ ++ [ob]))
  (hv:∀ d,RepV (g.newObj w s.σ.length) (w.alloc x) Pr (.tmp d) v u):OpOk P o a g w Pr { s with σ:=s.σ ++ [ob] } v :=
 ⟨u,w.alloc x,g.newObj w s.σ.length,fun _ b hb=>alloc_get b hb,.inl hr,newObj_ext hI _ _,newObj_fr hI _ _,hI',hE.ext (newObj_ext hI _ _) (fun _ _=>newObj_keep hI _ _),fun d _=>hv d⟩
def chkZero (z:Value) (zs:List C):Bool:=z.cells.size == zs.length && (List.range zs.length).all fun i=>match z.cells[i]?,zs[i]? with
 | some v,some c=>chkConst v (.c c)
 | _,_=>false
theorem chkConst_scalar {v:Value} {c:C} (h:chkConst v (.c c)=true):v.oneCell'=true:=by
 unfold chkConst at h
 split at h<;>first | rfl | simp_all
theorem chkZero_ok {z:Value} {zs:List C} (h:chkZero z zs=true):z.cells.size=zs.length∧∀ (i:Nat) (c:C),zs[i]?=some c→∃ u,z.cells[i]?=some u∧u.oneCell'=true∧∀ p,RepC g w Pr p c u:=by
 simp only [chkZero,Bool.and_eq_true,beq_iff_eq,List.all_eq_true,List.mem_range] at h
 obtain ⟨h1,h2⟩:=h
 refine ⟨h1,fun i c hi=>?_⟩
 have hlt:=(List.getElem?_eq_some_iff.mp hi).1
 have:=h2 i hlt
 rw [hi] at this
 split at this
 ·rename_i v c' hv hc
  cases hc
  exact ⟨v,hv,chkConst_scalar this,fun p=>chkConst_ok (g:=g) (w:=w) (Pr:=Pr) this p.1 |> fun h=>by
   cases c with
   | b x=>exact h
   | osl k rows =>
    simp [chkConst] at this
    split at this<;>simp_all
    exact ⟨RepD.nil,by simp,.inl rfl⟩
   | fn f p q=>simp [chkConst] at this
   | nilf=>exact h⟩
 ·cases this
theorem ok_alloc (o:Oper) {t:TypeId} {zs:List C} {i:TypeInfo} {z:Value} {v:V} (ho:o.op=.alloc t) (hi:P.info? t=some i) (hz:i.zero=some z) (hc:chkZero z zs=true)
  (hv:stepOp F bd s (.alloc zs)=some (v,s')) (hI:Inv g w Pr s.σ) (hE:EnvOk g w Pr s.env a):OpOk P o a g w Pr s' v:=by
 simp only [stepOp] at hv
 cases hv
 obtain ⟨h1,h2⟩:=chkZero_ok (g:=g) (w:=w) (Pr:=Pr) hc
 refine OpOk.newObj (x:=.cells z.cells t) (u:=.pointer (some ⟨w.heap.size,0,none⟩)) ?_ hI hE (new_cells hI (by omega) h2) (fun d=>⟨_,_,newObj_loc hI,rfl⟩)
 simp [execOp,ho,Instr.alloc,zeroValue,typeInfo,hi,hz,newVar,newRow]
theorem ok_mkm (o:Oper) {t:TypeId} {v:V} (ho:o.op=.makeMap t none)
  (hv:stepOp F bd s .mkm=some (v,s')) (hI:Inv g w Pr s.σ) (hE:EnvOk g w Pr s.env a):OpOk P o a g w Pr s' v:=by
 simp only [stepOp] at hv
 cases hv
 refine OpOk.newObj (x:=.map #[] 0) (u:=.map (some w.heap.size)) ?_ hI hE (newObj_inv hI _ _ ⟨w.heap.size,0,#[],0,newObj_loc hI,by simp [G.newObj,G.withKind,G.withLoc],alloc_new,rfl,.nil,by simp⟩) (fun d=>⟨_,_,newObj_loc hI,rfl⟩)
 simp [execOp,ho,Instr.makeMap]
end
section
variable {P:Program} {g g':G} {w w':World} {Pr:Nat→Prop} {s s':St} {a:Act} {F:Oracle} {bd:Bd}
theorem setRow_get (g:Nat) (cs:Array Value) {ty:TypeId} {fz:Nat × Nat} {old:Array Value} (h:w.heap[g]?=some (.cells old ty fz)):(w.setRow g cs).heap[g]?=some (.cells cs ty fz):=setRow_heap w g old cs ty fz h
theorem setRow_other (g:Nat) (cs:Array Value) {b:Nat} (h:b≠g):(w.setRow g cs).heap[b]?=w.heap[b]?:=by
 simp only [World.setRow,Array.getElem?_modify]
 rw [if_neg (fun e=>h e.symm)]
theorem setRow_ext (hI:Inv g w Pr s.σ) {b l:Nat} (hk:g.kind b=.obj l) {old arr:Array Value} {ty:TypeId} (h:w.heap[b]?=some (.cells old ty (0,0))) (hs:arr.size=old.size):Ext g w g (w.setRow b arr) where
 st x v hx:=by
  obtain ⟨h1,h2,h3⟩:=hx
  have hne:x.block≠b:=by
   intro e
   rw [e,hk] at h3
   rcases h3 with h3 | ⟨n,h3,_⟩<;>cases h3
  refine ⟨h1,?_,h3⟩
  simp only [World.cell?,setRow_other _ _ hne]
  exact h2
 loc l x h:=h
 size:=by simp [World.setRow]
 shape c arr' ty' fz h':=by
  by_cases hc:c=b
  ·subst hc
   rw [h] at h'
   cases h'
   exact ⟨arr,setRow_get _ _ h,hs⟩
  ·exact ⟨arr',by rw [setRow_other _ _ hc];exact h',rfl⟩
 os:=rfl
 tape:=rfl
 output:=rfl
theorem setRow_fr (hI:Inv g w Pr s.σ) {b l:Nat} (hk:g.kind b=.obj l) (arr:Array Value):Fr Pr g w g (w.setRow b arr):=by
 intro c hc
 have hne:c≠b:=by rintro rfl;exact (hI.pr _ hc).2.1 l hk
 exact ⟨setRow_other _ _ hne,rfl,rfl⟩
theorem setRow_inv (hI:Inv g w Pr s.σ) {b l:Nat} (hk:g.kind b=.obj l) {old arr:Array Value} {ty:TypeId} (h:w.heap[b]?=some (.cells old ty (0,0))) (hs:arr.size=old.size)
  {ob:Ob} (ho:RepOb g (w.setRow b arr) Pr l ob):Inv g (w.setRow b arr) Pr (s.σ.set l ob) where
 len:=by simpa using hI.len
 ob l' x hx:=by
  rw [List.getElem?_set] at hx
  split at hx
  ·subst_vars
   split at hx
   ·cases hx;exact ho
   ·cases hx
  ·rename_i hne
   refine RepOb.frame (setRow_ext hI hk h hs) (fun i=>Keep.refl _ _) ?_ (hI.ob l' x hx)
   intro c hc
   have:c≠b:=by rintro rfl;rw [hk] at hc;cases hc;exact hne rfl
   exact ⟨setRow_other _ _ this,hc⟩
 lt c hc:=by simpa [World.setRow] using hI.lt c hc
 pr c hc:=by
  obtain ⟨h1,h2,h3⟩:=hI.pr c hc
  exact ⟨by simpa [World.setRow] using h1,h2,h3⟩
 gl:=hI.gl.mono (setRow_ext hI hk h hs).st
theorem putAt_get {zs cs zs':List C} {off:Nat} (h:putAt zs off cs=some zs'):zs'.length=zs.length∧off+cs.length≤zs.length ∧
  ∀ (i:Nat) (c:C),zs'[i]?=some c→(off≤i∧cs[i - off]?=some c)∨((i < off∨off+cs.length≤i)∧zs[i]?=some c):=by
 unfold putAt at h
 split at h
 ·rename_i hle
  cases h
  refine ⟨by simp;omega,hle,fun i c hi=>?_⟩
  by_cases h1:i < off
  ·rw [List.append_assoc,List.getElem?_append_left (by simp;omega),List.getElem?_take,if_pos h1] at hi
   exact .inr ⟨.inl h1,hi⟩
  ·by_cases h2:i < off+cs.length
   ·rw [List.append_assoc,List.getElem?_append_right (by simp;omega),List.getElem?_append_left (by simp;omega)] at hi
    have:(zs.take off).length=off:=by simp;omega
    rw [this] at hi
    exact .inl ⟨by omega,hi⟩
   ·rw [List.append_assoc,List.getElem?_append_right (by simp;omega),List.getElem?_append_right (by simp;omega),List.getElem?_drop] at hi
    have e:off+cs.length+(i - (zs.take off).length - cs.length)=i:=by
     have:(zs.take off).length=off:=by simp;omega
     omega
    rw [e] at hi
    exact .inr ⟨.inr (by omega),hi⟩
 ·cases h
theorem getCells_eq {σ:List Ob} {l:Nat} {cs:List C} (h:getCells σ l=some cs):σ[l]?=some (.cells cs):=by
 unfold getCells at h
 split at h
 ·rename_i h';cases h;exact h'
 ·cases h
theorem cells_one {z:C} {cs:List C} (h:(V.c z).cells=some cs):cs=[z]∧z≠.b .any:=by
 cases z with
 | b y=>cases y<;>simp_all [V.cells]
 | osl k rows=>exact ⟨by simpa [V.cells] using h.symm,by simp⟩
 | fn f a b=>exact ⟨by simpa [V.cells] using h.symm,by simp⟩
 | nilf=>exact ⟨by simpa [V.cells] using h.symm,by simp⟩
theorem opd_k (hE:EnvOk g w Pr s.env a) {y:Operand} {v:V} (h:chkOpd y (.k v)=true):∃ c,v=.c c∧∀ p,RepC g w Pr p c (a.eval y):=by
 unfold chkOpd at h
 split at h
 ·rename_i t n hk;cases hk
 ·rename_i u c hk
  cases hk
  have h0:=h
  unfold chkConst at h0
  split at h0
  ·exact ⟨_,rfl,fun p=>chkConst_ok (g:=g) (w:=w) (Pr:=Pr) (r:=.tmp 0) h⟩
  ·exact ⟨_,rfl,fun p=>chkConst_ok (g:=g) (w:=w) (Pr:=Pr) (r:=.tmp 0) h⟩
  ·exact ⟨_,rfl,fun p=>chkConst_ok (g:=g) (w:=w) (Pr:=Pr) (r:=.tmp 0) h⟩
  ·exact ⟨_,rfl,fun p=>⟨RepD.nil,by simp,.inl rfl⟩⟩
  ·exact ⟨_,rfl,fun p=>chkConst_ok (g:=g) (w:=w) (Pr:=Pr) (r:=.tmp 0) h⟩
  ·exact ⟨_,rfl,fun p=>chkConst_ok (g:=g) (w:=w) (Pr:=Pr) (r:=.tmp 0) h⟩
  ·exact ⟨_,rfl,fun p=>chkConst_ok (g:=g) (w:=w) (Pr:=Pr) (r:=.tmp 0) h⟩
  ·exact ⟨_,rfl,fun p=>chkConst_ok (g:=g) (w:=w) (Pr:=Pr) (r:=.tmp 0) h⟩
  ·exact ⟨_,rfl,fun p=>chkConst_ok (g:=g) (w:=w) (Pr:=Pr) (r:=.tmp 0) h⟩
  ·cases h0
 ·rename_i f f' hk
  cases hk
  have h':f=fnOf f':=eq_of_beq h
  subst h'
  exact ⟨_,rfl,fun p=>⟨#[],#[],rfl,rfl,rfl,by simp,by simp⟩⟩
 ·cases h
def V.pth:V→Nat→List Nat
 | .c _,_=>[]
 | _,i=>[i]
theorem RepV.cells' {r:Root} {x:V} {v:Value} {cs:List C} (h:RepV g w Pr r x v) (hc:x.cells=some cs) :
  v.cells.size=cs.length∧∀ (i:Nat) (c:C),cs[i]?=some c→∃ u,v.cells[i]?=some u∧u.oneCell'=true∧RepC g w Pr (r,x.pth i) c u:=by
 cases x with
 | c x =>
  have hne:x≠.b .any:=by rintro rfl;simp [V.cells] at hc
  have hcs:cs=[x]:=by
   cases x with
   | b y=>cases y<;>simp_all [V.cells]
   | osl k rows=>simpa [V.cells] using hc.symm
   | fn f a b=>simpa [V.cells] using hc.symm
   | nilf=>simpa [V.cells] using hc.symm
  subst hcs
  have hs:=RepC.scalar (p:=(r,[])) h hne
  rw [one_cells hs]
  refine ⟨rfl,fun i c hi=>?_⟩
  cases i with
  | zero=>simp at hi;subst hi;exact ⟨v,rfl,hs,h⟩
  | succ i=>simp at hi
 | agg cs' =>
  simp only [V.cells,Option.some.injEq] at hc
  subst hc
  obtain ⟨arr,rfl,h2,h3⟩:=h
  refine ⟨by simpa [Value.cells] using h2,fun i c hi=>?_⟩
  obtain ⟨u,k1,k2,k3⟩:=h3 i c hi
  exact ⟨u,k1,k2,k3⟩
 | tup vs=>simp [V.cells] at hc
theorem run_st {t:TypeId} {i:TypeInfo} {b o:Nat} {v:Value} {arr:Array Value} {ty:TypeId} (hi:P.info? t=some i) (hsz:v.cells.size=i.size) (h:w.heap[b]?=some (.cells arr ty (0,0)))
  (hb:o+v.cells.size≤arr.size) (h1:∀ u ∈ v.cells.toList,u.oneCell'=true) :
  (Instr.storeAt t (.pointer (some ⟨b,o,none⟩)) v).run P w=.ok () (w.setRow b (arr.toList.take o ++ v.cells.toList ++ arr.toList.drop (o+v.cells.size)).toArray):=by
 have:=run_storeCells_at (P:=P) b o ty v.cells.toList 0 arr w h (by simpa using hb) h1
 simp only [Nat.add_zero,Array.length_toList] at this
 simp only [Instr.storeAt,Instr.sureAddr,Sem.run_bind,Sem.run_pure,Result.andThen_ok,storeVar,run_sizeOf w hi,Program.cellsOf,hi,Option.map_some,Option.getD_some,hsz,ne_eq,not_true_eq_false,if_false]
 simp only [hsz] at this
 simpa using this
theorem give_ok {y:Operand} {y':Opd} {l off:Nat} {cs:List C} (hy:chkOpd y y'=true) (hcs:(s.raw y').cells=some cs) (hI:Inv g w Pr s.σ) (hE:EnvOk g w Pr s.env a) :
  ∃ g1,Ext g w g1 w∧Fr Pr g w g1 w∧Inv g1 w Pr s.σ∧EnvOk g1 w Pr (s.took y').env a∧(a.eval y).cells.size=cs.length ∧
   ∀ (j:Nat) (c:C),cs[j]?=some c→∃ u,(a.eval y).cells[j]?=some u∧u.oneCell'=true∧RepC g1 w Pr (.cell l,[off+j]) c u:=by
 cases y' with
 | k cv =>
  obtain ⟨c,rfl,hc⟩:=opd_k hE hy
  obtain ⟨e1,e2⟩:=RepV.cells' (r:=.tmp 0) (x:=.c c) (hc (.tmp 0,[])) hcs
  refine ⟨g,.refl _ _,.refl _ _ _,hI,hE,e1,fun j c' hj=>?_⟩
  obtain ⟨u,k1,k2,k3⟩:=e2 j c' hj
  refine ⟨u,k1,k2,?_⟩
  have hcc:cs=[c]:=(cells_one hcs).1
  subst hcc
  cases j with
  | zero =>
   simp at hj;subst hj
   have hone:(a.eval y).oneCell'=true:=by
    refine RepC.scalar (hc (.tmp 0,[])) ?_
    rintro rfl;simp [St.raw,V.cells] at hcs
   rw [one_cells hone] at k1
   simp at k1;subst k1
   exact hc _
  | succ j=>simp at hj
 | t m =>
  have hv:=(opd_raw hE hy).1 m rfl
  let φ:Place→Place:=fun p=>if p.1=.tmp m then (match p.2 with | []=>(.cell l,[off]) | [j]=>(.cell l,[off+j]) | _=>p) else p
  obtain ⟨e1,e2⟩:=RepV.cells' hv hcs
  refine ⟨g.ren Pr φ,Ext.ren φ,Fr.ren φ,Inv.ren φ (fun l i=>by simp [φ]) hI,?_,e1,fun j c hj=>?_⟩
  ·intro t
   simp only [St.took]
   rw [env_get_cons]
   split
   ·subst_vars
    have h0:=RepV.down (r':=.tmp t) (hE t)
    have:∀ {x:V} {u:Value},RepV g w Pr (.tmp t) x u→RepV (g.ren Pr φ) w Pr (.tmp t) x.down u:=by
     intro x u hx
     cases x with
     | c y=>exact RepC.down (RepC.ren φ rfl hx)
     | agg ys =>
      obtain ⟨arr,q1,q2,q3⟩:=hx
      refine ⟨arr,q1,by simpa using q2,fun i c hi=>?_⟩
      simp only [List.getElem?_map,Option.map_eq_some_iff] at hi
      obtain ⟨c0,hc0,rfl⟩:=hi
      obtain ⟨u,k1,k2,k3⟩:=q3 i c0 hc0
      exact ⟨u,k1,k2,RepC.down (RepC.ren φ rfl k3)⟩
     | tup ys=>trivial
    exact this (hE t)
   ·rename_i hne
    exact RepV.ren φ (fun p=>by simp only [φ];rw [if_neg];intro h;exact hne (by cases h;rfl)) (hE t)
  ·obtain ⟨u,k1,k2,k3⟩:=e2 j c hj
   refine ⟨u,k1,k2,RepC.ren φ ?_ k3⟩
   cases hraw:s.raw (.t m) with
   | c z =>
    simp only [hraw] at hcs
    have hcc:cs.length=1:=by rw [(cells_one hcs).1];rfl
    have:j=0:=by have:=(List.getElem?_eq_some_iff.mp hj).1;omega
    subst this
    simp [φ,V.pth]
   | agg z=>simp [φ,V.pth]
   | tup z=>simp [hraw,V.cells] at hcs
theorem ok_box (o:Oper) {t:TypeId} {x:Operand} {x':Opd} {v:V} (ho:o.op=.box t x) (hx:chkOpd x x'=true)
  (hv:stepOp F bd s (.box x')=some (v,s')) (hI:Inv g w Pr s.σ) (hE:EnvOk g w Pr s.env a):OpOk P o a g w Pr s' v:=by
 simp only [stepOp] at hv
 split at hv
 case h_2=>cases hv
 rename_i cs hcs
 cases hv
 obtain ⟨g1,x1,x2,x3,x4,x5,x6⟩:=give_ok (l:=s.σ.length) (off:=0) hx hcs hI hE
 have e:=newObj_ext x3 (.cells (a.eval x).cells t) s.σ.length
 refine ⟨.pointer (some ⟨w.heap.size,0,none⟩),w.alloc (.cells (a.eval x).cells t),g1.newObj w s.σ.length,fun _ b hb=>alloc_get b hb,.inl (by simp [execOp,ho,Instr.box,newVar,newRow]),x1.trans e,x2.trans (newObj_fr x3 _ _),?_,x4.ext e (fun _ _=>newObj_keep x3 _ _),fun d _=>⟨_,_,newObj_loc x3,rfl⟩⟩
 refine newObj_inv x3 _ _ ⟨w.heap.size,0,_,t,newObj_loc x3,by simp [G.newObj,G.withKind,G.withLoc],alloc_new,by omega,fun i c hi=>?_⟩
 obtain ⟨u,k1,k2,k3⟩:=x6 i c hi
 refine ⟨u,by simpa using k1,k2,RepC.ext e (newObj_keep x3 _ _) ?_⟩
 simpa using k3
theorem ok_st (o:Oper) {t:TypeId} {x y:Operand} {x' y':Opd} {n:Nat} {i:TypeInfo} {v:V} (ho:o.op=.store t x y) (hx:chkOpd x x'=true) (hy:chkOpd y y'=true)
  (hi:P.info? t=some i) (hn:i.size=n) (hd:o.dst=none)
  (hv:stepOp F bd s (.st n x' y')=some (v,s')) (hI:Inv g w Pr s.σ) (hE:EnvOk g w Pr s.env a):OpOk P o a g w Pr s' v:=by
 have h1:=opd_rd hE hx (.tmp 0)
 simp only [stepOp] at hv
 split at hv
 case h_2=>cases hv
 rename_i l off cs hr hcs
 rw [hr] at h1
 obtain ⟨b,q,hl,h2⟩:=h1
 split at hv
 case isFalse=>cases hv
 rename_i hlen
 split at hv
 case h_2=>cases hv
 rename_i zs hzs
 split at hv
 case h_2=>cases hv
 rename_i zs' hput
 split at hv
 case isFalse=>cases hv
 cases hv
 have hob:=getCells_eq hzs
 obtain ⟨p1,p2,p3⟩:=putAt_get hput
 have key:=give_ok (l:=l) (off:=off) hy hcs hI hE
 obtain ⟨g1,x1,x2,x3,x4,x5,x6⟩:=key
 obtain ⟨b',q',arr,ty,h3,h4,h5,h6,h7⟩:=x3.ob _ _ hob
 have hl':=x1.loc _ _ hl
 rw [hl'] at h3
 cases h3
 have hcs1:∀ u ∈ (a.eval y).cells.toList,u.oneCell'=true:=by
  intro u hu
  obtain ⟨j,hj,rfl⟩:=List.mem_iff_getElem.mp hu
  have hj':j < cs.length:=by simp at hj;omega
  obtain ⟨u',k1,k2,_⟩:=x6 j cs[j] (by simp [hj'])
  simp at hj
  simp [hj] at k1
  simpa [k1] using k2
 have hrun:=run_st (P:=P) (w:=w) (b:=b) (o:=q+off) (v:=a.eval y) hi (by omega) h5 (by omega) hcs1
 have hsz:(arr.toList.take (q+off) ++ (a.eval y).cells.toList ++ arr.toList.drop (q+off+(a.eval y).cells.size)).toArray.size=arr.size:=by
  simp;omega
 have hext:=setRow_ext x3 h4 h5 hsz
 refine ⟨undef,_,g1,fun h=>(by rw [ho] at h;cases h),.inr ⟨?_,rfl⟩,x1.trans hext,x2.trans (setRow_fr x3 h4 _),?_,x4.ext hext (fun _ _=>Keep.refl _ _),fun d hd'=>by rw [hd] at hd';cases hd'⟩
 ·simp only [execOp,ho,h2,Sem.run_bind]
  rw [Nat.add_assoc] at hrun ⊢
  rw [hrun];rfl
 ·refine setRow_inv x3 h4 h5 hsz ⟨b,q,_,ty,hl',h4,setRow_get _ _ h5,by rw [hsz];omega,fun j c hj=>?_⟩
  have harr:∀ m,(arr.toList.take (q+off) ++ (a.eval y).cells.toList ++ arr.toList.drop (q+off+(a.eval y).cells.size)).toArray[m]? =
    if m < q+off then arr[m]? else if m < q+off+cs.length then (a.eval y).cells[m - (q+off)]? else arr[m]?:=by
   intro m
   simp only [List.getElem?_toArray]
   split
   ·rw [List.append_assoc,List.getElem?_append_left (by simp;omega),List.getElem?_take,if_pos (by assumption)];simp
   ·split
    ·rw [List.append_assoc,List.getElem?_append_right (by simp;omega),List.getElem?_append_left (by simp;omega)]
     have:(arr.toList.take (q+off)).length=q+off:=by simp;omega
     rw [this];simp
    ·rw [List.append_assoc,List.getElem?_append_right (by simp;omega),List.getElem?_append_right (by simp;omega),List.getElem?_drop]
     have:(arr.toList.take (q+off)).length=q+off:=by simp;omega
     rw [this]
     simp only [Array.getElem?_toList,Array.length_toList]
     congr 1
     omega
  rcases p3 j c hj with ⟨j1,j2⟩ | ⟨j1,j2⟩
  ·obtain ⟨u,k1,k2,k3⟩:=x6 _ _ j2
   have hj3:=(List.getElem?_eq_some_iff.mp j2).1
   refine ⟨u,?_,k2,?_⟩
   ·rw [harr,if_neg (by omega),if_pos (by omega)]
    rw [show q+j - (q+off)=j - off by omega]
    exact k1
   ·rw [show off+(j - off)=j by omega] at k3
    exact RepC.ext hext (Keep.refl _ _) k3
  ·obtain ⟨u,k1,k2,k3⟩:=h7 _ _ j2
   refine ⟨u,?_,k2,RepC.ext hext (Keep.refl _ _) k3⟩
   rw [harr]
   split
   ·exact k1
   ·rw [if_neg (by omega)];exact k1
theorem ldr_ld {n:Option Nat} {x:Opd} {v:V} (h:stepOp F bd s (.ld .arr n x)=some (v,s')):stepOp F bd s (.ld .cp n x)=some (v,s'):=by
 simp only [stepOp] at h ⊢
 split at h
 case h_2=>cases h
 rename_i row off hv
 simp only [hv]
 exact h
theorem ldn_ld {n:Option Nat} {x u:Opd} {v:V} (h:stepOp F bd s (.ldn n x u)=some (v,s')):stepOp F bd s (.ld .cp n x)=some (v,s'):=by
 simp only [stepOp] at h ⊢
 split at h
 case h_2=>cases h
 split at h
 case isFalse=>cases h
 simp_all only
theorem appl_appa {k b:Nat} {x y:Opd} {rs:List Nat} {v:V} (h:stepOp F bd s (.appl k b x y rs)=some (v,s')):stepOp F bd s (.appa k b x y)=some (v,s'):=by
 simp only [stepOp] at h ⊢
 split at h
 case h_2=>cases h
 split at h
 ·exact h
 ·split at h
  case h_2=>cases h
  split at h
  case isFalse=>cases h
  rename_i hc
  rw [if_pos ⟨hc.1,hc.2.1,hc.2.2.1,hc.2.2.2.1,hc.2.2.2.2.1⟩]
  exact h
 ·cases h
theorem stl_st {n:Nat} {x y:Opd} {rs:List Nat} {v:V} (h:stepOp F bd s (.stl n x y rs)=some (v,s')):stepOp F bd s (.st n x y)=some (v,s'):=by
 simp only [stepOp] at h ⊢
 split at h
 case h_2=>cases h
 rename_i l cs hx hcs
 split at h
 case h_2=>cases h
 rename_i zs hzs
 split at h
 case isFalse=>cases h
 rename_i hc
 obtain ⟨h1,h2,h3,h4⟩:=hc
 have hp:putAt zs 0 cs=some cs:=by
  unfold putAt
  rw [if_pos (by omega)]
  rw [List.take_zero,List.nil_append,List.drop_eq_nil_of_le (by omega),List.append_nil]
 simp only [hx,hcs,h1,hzs,hp,h3,if_true]
 exact h
end
section
variable {P:Program} {g g':G} {w w':World} {Pr:Nat→Prop} {s s':St} {a:Act} {F:Oracle} {bd:Bd}
theorem ok_ld_own (o:Oper) {t:TypeId} {x:Operand} {x':Opd} {v:V} (ho:o.op=.load t x) (hx:chkOpd x x'=true)
  (hd:(P.underlying t).isSome=true) (hs:isStr P t=false)
  (hv:stepOp F bd s (.ld .own none x')=some (v,s')) (hI:Inv g w Pr s.σ) (hE:EnvOk g w Pr s.env a):OpOk P o a g w Pr s' v:=by
 have h1:=opd_rd hE hx (.tmp 0)
 simp only [stepOp] at hv
 split at hv
 ·rename_i l off hr
  rw [hr] at h1
  obtain ⟨b,q,hl,h2⟩:=h1
  split at hv
  case h_2=>cases hv
  rename_i cs hcs
  have hcs':=getCells_eq hcs
  obtain ⟨b',q',arr,ty,h3,h4,h5,h6,h7⟩:=hI.ob _ _ hcs'
  rw [hl] at h3
  cases h3
  split at hv
  case h_2=>cases hv
  rename_i c hc
  split at hv
  case isFalse=>cases hv
  simp only [Option.some.injEq,Prod.mk.injEq] at hv
  obtain ⟨rfl,rfl⟩:=hv
  obtain ⟨u,k1,k2,k3⟩:=h7 _ _ hc
  let φ:Place→Place:=fun p=>if p=(.cell l,[off]) then (.tmp (o.dst.getD 0),[]) else p
  have hφ:∀ p,p≠(.cell l,[off])→φ p=p:=fun p hp=>by simp only [φ];rw [if_neg hp]
  refine ⟨u,w,g.ren Pr φ,fun _ _ _=>rfl,.inl ?_,Ext.ren φ,Fr.ren φ,?_,?_,fun d hd'=>?_⟩
  ·simp only [execOp,ho,h2,Sem.run_bind,run_ld1 hd hs ((cell_of h5 _).trans k1)];rfl
  ·refine ⟨by simpa [G.ren] using hI.len,fun l' ob hob=>?_,hI.lt,fun c hc=>?_,hI.gl⟩
   ·rw [List.getElem?_set] at hob
    split at hob
    ·subst_vars
     split at hob
     ·cases hob
      refine ⟨b,q,arr,ty,hl,h4,h5,by simpa using h6,fun i c' hi=>?_⟩
      rw [List.getElem?_set] at hi
      split at hi
      ·subst_vars
       split at hi
       ·cases hi
        exact ⟨u,k1,k2,RepC.down (RepC.ren φ rfl k3)⟩
       ·cases hi
      ·rename_i hne
       obtain ⟨u',e1,e2,e3⟩:=h7 _ _ hi
       exact ⟨u',e1,e2,RepC.ren φ (hφ _ (by intro e;simp at e;exact hne e.symm)) e3⟩
     ·cases hob
    ·rename_i hne
     exact RepOb.ren φ (fun i=>hφ _ (by intro e;simp at e;exact hne e.1.symm)) (hI.ob _ _ hob)
   ·obtain ⟨p1,p2,p3⟩:=hI.pr c hc
    exact ⟨p1,p2,by simpa [G.ren,hc] using p3⟩
  ·intro t
   exact RepV.ren φ (fun p=>hφ _ (by simp)) (hE t)
  ·exact RepC.ren φ (by simp [φ,hd']) k3
 ·cases hv
theorem ok_ld_ownN (o:Oper) {t:TypeId} {x:Operand} {x':Opd} {n:Nat} {i:TypeInfo} {v:V} (ho:o.op=.load t x) (hx:chkOpd x x'=true)
  (hd:(P.underlying t).isSome=true) (hi:P.info? t=some i) (hs:isStr P t=true) (hn:n=i.size)
  (hv:stepOp F bd s (.ld .own (some n) x')=some (v,s')) (hI:Inv g w Pr s.σ) (hE:EnvOk g w Pr s.env a):OpOk P o a g w Pr s' v:=by
 have h1:=opd_rd hE hx (.tmp 0)
 simp only [stepOp] at hv
 split at hv
 case h_2=>cases hv
 rename_i l hr
 rw [hr] at h1
 obtain ⟨b,q,hl,h2⟩:=h1
 split at hv
 case h_2=>cases hv
 rename_i cs hcs
 split at hv
 case isFalse=>cases hv
 rename_i hall
 simp only [Option.some.injEq,Prod.mk.injEq] at hv
 obtain ⟨rfl,rfl⟩:=hv
 simp only [Bool.and_eq_true,decide_eq_true_eq] at hall
 have hlen:=Nat.eq_of_beq_eq_true hall.2
 subst hn
 obtain ⟨b',q',arr,ty,h3,h4,h5,h6,h7⟩:=hI.ob _ _ (getCells_eq hcs)
 rw [hl] at h3
 cases h3
 have hc:0+i.size≤cs.length:=by omega
 obtain ⟨us,u1,u2,u3⟩:=take_list (R:=fun i c u=>u.oneCell'=true∧RepC g w Pr (.cell l,[i]) c u) h7 hc
 have hrun:=run_ldN (P:=P) (w:=w) (b:=b) (o:=q+0) hd hs hi us u1 (fun j u hj=>(cell_of h5 _).trans (u2 j u hj))
 let φ:Place→Place:=fun p=>match p with
  | (.cell l',[j])=>if l'=l then (.tmp (o.dst.getD 0),[j]) else p
  | p=>p
 have hφl:∀ j,φ (.cell l,[j])=(.tmp (o.dst.getD 0),[j]):=fun j=>by simp [φ]
 have hφt:∀ t i,φ (.tmp t,i)=(.tmp t,i):=fun t i=>rfl
 have hφo:∀ l' i,l'≠l→φ (.cell l',i)=(.cell l',i):=fun l' i h=>by
  simp only [φ]
  split
  ·rename_i e;cases e;simp [h]
  ·rfl
 refine ⟨.agg us.toArray,w,g.ren Pr φ,fun _ _ _=>rfl,.inl ?_,Ext.ren φ,Fr.ren φ,?_,?_,fun d hd'=>?_⟩
 ·simp only [execOp,ho,h2]
  simp only [Sem.run_bind,hrun,Result.andThen_ok]
  rfl
 ·refine ⟨by simpa [G.ren] using hI.len,fun l' ob hob=>?_,hI.lt,fun c hc=>?_,hI.gl⟩
  ·rw [List.getElem?_set] at hob
   split at hob
   ·subst_vars
    split at hob
    ·cases hob
     refine ⟨b,q,arr,ty,hl,h4,h5,by simpa using h6,fun j c' hj=>?_⟩
     simp only [List.getElem?_map,Option.map_eq_some_iff] at hj
     obtain ⟨c0,hc0,rfl⟩:=hj
     obtain ⟨u,k1,k2,k3⟩:=h7 _ _ hc0
     exact ⟨u,k1,k2,RepC.down (RepC.ren φ rfl k3)⟩
    ·cases hob
   ·rename_i hne
    exact RepOb.ren φ (fun i=>hφo _ _ (fun e=>hne e.symm)) (hI.ob _ _ hob)
  ·obtain ⟨p1,p2,p3⟩:=hI.pr c hc
   exact ⟨p1,p2,by simpa [G.ren,hc] using p3⟩
 ·intro t
  exact RepV.ren (r:=.tmp t) (r':=.tmp t) φ (fun p=>hφt t p) (hE t)
 ·refine ⟨us.toArray,rfl,by simp [u1,hlen],fun j c hj=>?_⟩
  have hjl:=(List.getElem?_eq_some_iff.mp hj).1
  obtain ⟨u,k1,k2,k3⟩:=u3 j c (by rw [List.getElem?_take,if_pos (by omega)];simpa using hj)
  exact ⟨u,by simpa using k1,k2,RepC.ren φ (by rw [Nat.zero_add,hφl];simp [hd']) k3⟩
theorem data_rep {c:C} {d:D} {u:Value} {p:Place} (h:c.data=some d) (hc:RepC g w Pr p c u):RepD (g.st w) d u:=by
 cases c with
 | b x=>cases x<;>simp [C.data] at h;subst h;exact hc
 | osl k rows=>simp [C.data] at h;subst h;exact hc.1
 | fn f p q=>simp [C.data] at h
 | nilf=>simp [C.data] at h
theorem datas_get:∀ {cs:List C} {ds:List D},datas cs=some ds→ds.length=cs.length∧∀ (j:Nat) (d:D),ds[j]?=some d→∃ c,cs[j]?=some c∧c.data=some d
 | [],ds,h=>by simp [datas] at h;subst h;simp
 | c :: cs,ds,h=>by
  simp only [datas] at h
  split at h
  ·rename_i x xs hx hxs
   cases h
   obtain ⟨h1,h2⟩:=datas_get hxs
   refine ⟨by simp [h1],fun j d hj=>?_⟩
   cases j with
   | zero=>simp at hj;subst hj;exact ⟨c,rfl,hx⟩
   | succ j=>simpa using h2 j d (by simpa using hj)
  ·cases h
theorem chunk_get:∀ {k n:Nat} {cs:List C} {rows:List (List D)},chunk k n cs=some rows→rows.length=n∧(∀ r ∈ rows,r.length=k) ∧
  ∀ (i:Nat) (row:List D) (j:Nat) (d:D),rows[i]?=some row→row[j]?=some d→∃ c,cs[i * k+j]?=some c∧c.data=some d
 | k,0,cs,rows,h=>by simp [chunk] at h;subst h;simp
 | k,n+1,cs,rows,h=>by
  simp only [chunk] at h
  split at h
  ·rename_i r rs hr hrs
   split at h
   ·rename_i hk
    cases h
    obtain ⟨h1,h2,h3⟩:=chunk_get hrs
    obtain ⟨d1,d2⟩:=datas_get hr
    refine ⟨by simp [h1],by simpa [hk] using h2,fun i row j d hi hj=>?_⟩
    cases i with
    | zero =>
     simp at hi;subst hi
     obtain ⟨c,c1,c2⟩:=d2 j d hj
     rw [List.getElem?_take] at c1
     split at c1
     ·exact ⟨c,by simpa using c1,c2⟩
     ·cases c1
    | succ i =>
     obtain ⟨c,c1,c2⟩:=h3 i row j d (by simpa using hi) hj
     rw [List.getElem?_drop] at c1
     exact ⟨c,by rw [Nat.succ_mul,Nat.add_right_comm,Nat.add_comm];exact c1,c2⟩
   ·cases h
  ·cases h
theorem frz_ext (hI:Inv g w Pr s.σ) {b l:Nat} (hk:g.kind b=.obj l) (k':Bk):Ext g w (g.withKind b k') w where
 st x v hx:=by
  obtain ⟨h1,h2,h3⟩:=hx
  have hne:x.block≠b:=by
   intro e
   rw [e,hk] at h3
   rcases h3 with h3 | ⟨n,h3,_⟩<;>cases h3
  exact ⟨h1,h2,by simpa [G.withKind,hne] using h3⟩
 loc l x h:=h
 size:=Nat.le_refl _
 shape c arr' ty' fz h':=⟨arr',h',rfl⟩
 os:=rfl
 tape:=rfl
 output:=rfl
theorem ok_mov_frz (o:Oper) {y:Operand} {x:Opd} {v:V} (ho:o.op=.move y∨o.op=.assign y) (h:chkOpd y x=true)
  (hv:stepOp F bd s (.mov .frz x)=some (v,s')) (hI:Inv g w Pr s.σ) (hE:EnvOk g w Pr s.env a):OpOk P o a g w Pr s' v:=by
 have h1:=opd_rd hE h (.tmp 0)
 have hr0:(execOp a.eval o).run P w=.ok (.value (a.eval y)) w:=by rcases ho with ho | ho<;>simp only [execOp,ho]<;>rfl
 simp only [stepOp] at hv
 split at hv
 case h_4=>cases hv
 case h_2 =>
  rename_i rows hr
  rw [hr] at h1
  cases hv
  exact OpOk.pure hr0 hI hE (fun r=>h1)
 case h_3 =>
  rename_i hr
  rw [hr] at h1
  cases hv
  have h1':a.eval y=.slice none 0 0:=h1
  exact OpOk.pure hr0 hI hE (fun r=>by rw [h1'];exact RepD.nil)
 rename_i k l off len hr
 rw [hr] at h1
 obtain ⟨b,q,cap,arr,ty,hl,e1,e2,e3,e4⟩:=h1
 split at hv
 case h_2=>cases hv
 rename_i cs hcs
 split at hv
 case h_2=>cases hv
 rename_i rows hrows
 split at hv
 case isFalse=>cases hv
 cases hv
 obtain ⟨b',q',arr',ty',h3,h4,h5,h6,h7⟩:=hI.ob _ _ (getCells_eq hcs)
 rw [hl] at h3
 cases h3
 rw [e3] at h5
 cases h5
 have hr':(execOp a.eval o).run P w=.ok (.value (a.eval y)) w:=by rcases ho with ho | ho<;>simp only [execOp,ho]<;>rfl
 have hext:=frz_ext hI h4 .frozen
 have hkeep:∀ p,Keep g (g.withKind b .frozen) p:=by
  intro p c n c1 c2
  have hne:c≠b:=by rintro rfl;rw [h4] at c2;cases c2
  exact ⟨c1,by simpa [G.withKind,hne] using c2⟩
 obtain ⟨r1,r2,r3⟩:=chunk_get hrows
 refine ⟨a.eval y,w,g.withKind b .frozen,fun _ _ _=>rfl,.inl hr',hext,?_,?_,hE.ext hext (fun _ _=>hkeep _),fun d _=>?_⟩
 ·intro c hc
  have hne:c≠b:=by rintro rfl;exact (hI.pr _ hc).2.1 l h4
  exact ⟨rfl,by simp [G.withKind,hne],rfl⟩
 ·refine ⟨by simpa [G.withKind] using hI.len,fun l' ob hob=>?_,fun c hc=>?_,fun c hc=>?_,hI.gl.mono hext.st⟩
  ·rw [List.getElem?_set] at hob
   split at hob
   ·split at hob
    ·cases hob;trivial
    ·cases hob
   ·rename_i hne
    refine RepOb.frame hext (fun i=>hkeep _) (fun c hc=>⟨rfl,?_⟩) (hI.ob _ _ hob)
    have:c≠b:=by rintro rfl;rw [h4] at hc;cases hc;exact hne rfl
    simpa [G.withKind,this] using hc
  ·by_cases hcb:c=b
   ·subst hcb;exact hI.lt _ (by rw [h4];simp)
   ·exact hI.lt c (by simpa [G.withKind,hcb] using hc)
  ·obtain ⟨p1,p2,p3⟩:=hI.pr c hc
   have hcb:c≠b:=by rintro rfl;exact p2 l h4
   exact ⟨p1,by simpa [G.withKind,hcb] using p2,p3⟩
 ·show RepD _ (.sl rows) (a.eval y)
  rw [e1,← r1]
  have hcell:∀ (i:Nat) (row:List D) (j:Nat) (d:D),rows[i]?=some row→row[j]?=some d →
    ∃ u,arr[q+off+i * k+j]?=some u∧RepD ((g.withKind b .frozen).st w) d u:=by
   intro i row j d hi hj
   obtain ⟨c,c1,c2⟩:=r3 i row j d hi hj
   rw [List.getElem?_drop] at c1
   obtain ⟨u,u1,u2,u3⟩:=h7 _ _ c1
   refine ⟨u,?_,RepD.mono hext.st (data_rep c2 u3)⟩
   rw [← u1]
   congr 1
   omega
  refine RepD.sl rows _ k cap (fun i j=>arr.getD (q+off+i * k+j) undef) (fun _=>rfl) (by omega) r2 ?_ ?_
  ·intro i row j d hi hj
   obtain ⟨u,u1,u2⟩:=hcell i row j d hi hj
   exact ⟨rfl,by rw [cell_of e3];simp [Array.getD_eq_getD_getElem?,u1],.inl (by simp [G.withKind])⟩
  ·intro i row j d hi hj
   obtain ⟨u,u1,u2⟩:=hcell i row j d hi hj
   simpa [Array.getD_eq_getD_getElem?,u1] using u2
theorem ok_mov_arr (o:Oper) {y:Operand} {x:Opd} {v:V} (ho:o.op=.move y∨o.op=.assign y) (h:chkOpd y x=true)
  (hv:stepOp F bd s (.mov .arr x)=some (v,s')) (hI:Inv g w Pr s.σ) (hE:EnvOk g w Pr s.env a):OpOk P o a g w Pr s' v:=by
 have h1:=opd_rd hE h (.tmp 0)
 have hr0:(execOp a.eval o).run P w=.ok (.value (a.eval y)) w:=by rcases ho with ho | ho<;>simp only [execOp,ho]<;>rfl
 simp only [stepOp] at hv
 split at hv
 ·rename_i hr
  rw [hr] at h1
  cases hv
  obtain ⟨b,q,cap,arr,ty,hl,e1,e2,e3,e4⟩:=h1
  exact OpOk.pure hr0 hI hE (fun r=>by rw [e1];exact RepD.sl [] _ 0 cap (fun _ _=>undef) (fun h=>absurd rfl h) (by simp) (by simp) (by simp) (by simp))
 ·rename_i hr
  rw [hr] at h1
  cases hv
  have h1':a.eval y=.slice none 0 0:=h1
  exact OpOk.pure hr0 hI hE (fun r=>by rw [h1'];exact RepD.nil)
 ·rename_i hr
  rw [hr] at h1
  cases hv
  obtain ⟨ad,cap,e1⟩:=h1
  exact OpOk.pure hr0 hI hE (fun r=>by rw [e1];exact RepD.sl [] _ 0 cap (fun _ _=>undef) (fun h=>absurd rfl h) (by simp) (by simp) (by simp) (by simp))
 ·rename_i hr
  rw [hr] at h1
  cases hv
  exact OpOk.pure hr0 hI hE (fun r=>h1)
 ·rename_i hr
  rw [hr] at h1
  cases hv
  exact OpOk.pure hr0 hI hE (fun r=>h1)
 ·cases hv
end
section
variable {P:Program} {g g':G} {w w':World} {Pr:Nat→Prop} {s s':St} {a:Act} {F:Oracle} {bd:Bd}
theorem rd_down {x:Opd} {cs:List C} (hcs:(s.rd x).cells=some cs) {i:Nat} {c:C} (hi:cs[i]?=some c):c.down=c:=by
 have hs:s.rd x=(s.raw x).down:=rfl
 rw [hs] at hcs
 cases hraw:s.raw x with
 | c y =>
  rw [hraw] at hcs
  obtain ⟨rfl,_⟩:=cells_one (z:=y.down) hcs
  cases i with
  | zero=>simp at hi;subst hi;cases y<;>rfl
  | succ i=>simp at hi
 | agg cs0 =>
  rw [hraw] at hcs
  simp only [V.down,V.cells,Option.some.injEq] at hcs
  subst hcs
  simp only [List.getElem?_map,Option.map_eq_some_iff] at hi
  obtain ⟨c0,_,rfl⟩:=hi
  cases c0<;>rfl
 | tup vs=>rw [hraw] at hcs;simp [V.down,V.cells] at hcs
theorem rd_cells (hE:EnvOk g w Pr s.env a) {y:Operand} {x:Opd} (h:chkOpd y x=true) {cs:List C} (hcs:(s.rd x).cells=some cs) :
  (a.eval y).cells.size=cs.length∧∀ (i:Nat) (c:C),cs[i]?=some c→∃ u,(a.eval y).cells[i]?=some u∧u.oneCell'=true∧∀ p,RepC g w Pr p c u:=by
 obtain ⟨c1,c2⟩:=RepV.cells' (opd_rd hE h (.tmp 0)) hcs
 refine ⟨c1,fun i c hi=>?_⟩
 obtain ⟨u,k1,k2,k3⟩:=c2 i c hi
 refine ⟨u,k1,k2,fun p=>?_⟩
 rw [← rd_down hcs hi]
 exact RepC.down k3
def RepArr (g:G) (w:World) (Pr:Nat→Prop) (cs:List C) (arr:Array Value):Prop :=
 arr.size=cs.length∧∀ (i:Nat) (c:C),cs[i]?=some c→∃ u,arr[i]?=some u∧u.oneCell'=true∧∀ p,RepC g w Pr p c u
theorem fold_set:∀ (l:List Value) (k off:Nat) (arr:Array Value) (m:Nat),((l.zipIdx k).foldl (fun cs (p:Value × Nat)=>cs.setIfInBounds (off+p.2) p.1) arr)[m]? =
  if off+k≤m∧m < off+k+l.length∧m < arr.size then l[m - (off+k)]? else arr[m]?
 | [],k,off,arr,m=>by simp;intro h1 h2;omega
 | v :: l,k,off,arr,m=>by
  rw [List.zipIdx_cons,List.foldl_cons,fold_set l (k+1) off]
  simp only [Array.size_setIfInBounds,List.length_cons]
  by_cases h1:off+k=m
  ·subst h1
   rw [if_neg (by omega)]
   by_cases h2:off+k < arr.size
   ·rw [if_pos (by omega)];simp [h2]
   ·rw [if_neg (by omega)];simp [h2]
  ·by_cases h2:off+(k+1)≤m∧m < off+(k+1)+l.length∧m < arr.size
   ·rw [if_pos h2,if_pos (by omega)]
    rw [show m - (off+k)=(m - (off+(k+1)))+1 by omega]
    simp
   ·rw [if_neg h2,if_neg (by omega)]
    rw [Array.getElem?_setIfInBounds_ne h1]
theorem RepArr.put {zs cs zs':List C} {arr vs:Array Value} {off:Nat} (hp:putAt zs off cs=some zs') (h1:RepArr g w Pr zs arr) (h2:RepArr g w Pr cs vs) :
  off+vs.size≤arr.size∧RepArr g w Pr zs' (vs.zipIdx.foldl (fun cs (p:Value × Nat)=>cs.setIfInBounds (off+p.2) p.1) arr):=by
 obtain ⟨p1,p2,p3⟩:=putAt_get hp
 obtain ⟨a1,a2⟩:=h1
 obtain ⟨b1,b2⟩:=h2
 have hget:∀ m,(vs.zipIdx.foldl (fun cs (p:Value × Nat)=>cs.setIfInBounds (off+p.2) p.1) arr)[m]?=if off≤m∧m < off+vs.size∧m < arr.size then vs[m - off]? else arr[m]?:=by
  intro m
  rw [← Array.foldl_toList,Array.toList_zipIdx,fold_set]
  simp
 refine ⟨by omega,?_,fun i c hi=>?_⟩
 ·have hsz:∀ (l:List (Value × Nat)) (arr:Array Value),(l.foldl (fun cs (p:Value × Nat)=>cs.setIfInBounds (off+p.2) p.1) arr).size=arr.size:=by
   intro l
   induction l with
   | nil=>intro arr;rfl
   | cons p l ih=>intro arr;rw [List.foldl_cons,ih];simp
  rw [← Array.foldl_toList,hsz]
  omega
 ·rcases p3 i c hi with ⟨j1,j2⟩ | ⟨j1,j2⟩
  ·obtain ⟨u,k1,k2⟩:=b2 _ _ j2
   have:=(List.getElem?_eq_some_iff.mp j2).1
   exact ⟨u,by rw [hget,if_pos (by omega)];exact k1,k2⟩
  ·obtain ⟨u,k1,k2⟩:=a2 _ _ j2
   exact ⟨u,by rw [hget,if_neg (by omega)];exact k1,k2⟩
def chkParts (place:Nat→Option (Nat × Nat)):List (Nat × Operand)→List (Nat × Nat × Opd)→Bool
 | [],[]=>true
 | (i,x) :: ps,(off,n,x') :: ps'=>place i == some (off,n) && chkOpd x x' && chkParts place ps ps'
 | _,_=>false
theorem fill_ok (hE:EnvOk g w Pr s.env a) {place:Nat→Option (Nat × Nat)}:∀ {ps:List (Nat × Operand)} {ps':List (Nat × Nat × Opd)} {zs cs:List C} {arr:Array Value},
  chkParts place ps ps'=true→partsIn s ps' zs=some cs→RepArr g w Pr zs arr→∃ arr',Instr.fill place arr (ps.map fun p=>(p.1,a.eval p.2))=some arr'∧RepArr g w Pr cs arr'
 | [],[],zs,cs,arr,_,h,hr=>by simp [partsIn] at h;subst h;exact ⟨arr,rfl,hr⟩
 | [],_ :: _,_,_,_,h,_,_=>by simp [chkParts] at h
 | _ :: _,[],_,_,_,h,_,_=>by simp [chkParts] at h
 | (i,x) :: ps,(off,n,x') :: ps',zs,cs,arr,hc,h,hr=>by
  simp only [chkParts,Bool.and_eq_true,beq_iff_eq] at hc
  obtain ⟨⟨c1,c2⟩,c3⟩:=hc
  simp only [partsIn] at h
  split at h
  case h_2=>cases h
  rename_i vs hvs
  split at h
  case isFalse=>cases h
  rename_i hn
  split at h
  case h_2=>cases h
  rename_i zs' hz
  have hv:=rd_cells hE c2 hvs
  obtain ⟨r1,r2⟩:=RepArr.put hz hr hv
  obtain ⟨arr',e1,e2⟩:=fill_ok hE c3 h r2
  refine ⟨arr',?_,e2⟩
  simp only [List.map_cons,Instr.fill,c1]
  have h1:(a.eval x).cells.size=n:=by rw [hv.1];exact hn
  rw [if_neg (by simp [h1];omega)]
  exact e1
def placesOf (P:Program) (t:TypeId):Option (List (Nat × Nat)) :=
 match P.underlying t with
 | some (.struct fields)=>fields.toList.mapM fun f=>(P.info? f.type).map fun i=>(f.offset,i.size)
 | _=>none
theorem zero_arr {z:Value} {zs:List C} (h:chkZero z zs=true):RepArr g w Pr zs z.cells:=chkZero_ok h
theorem ok_build (o:Oper) {t:TypeId} {ps:Array (Nat × Operand)} {ps':List (Nat × Nat × Opd)} {zs:List C} {i:TypeInfo} {z:Value} {places:List (Nat × Nat)} {v:V} (ho:o.op=.build t ps)
  (hi:P.info? t=some i) (hz:i.zero=some z) (hc:chkZero z zs=true) (hp:placesOf P t=some places) (hps:chkParts (places.toArray[·]?) ps.toList ps'=true)
  (hv:stepOp F bd s (.build zs ps')=some (v,s')) (hI:Inv g w Pr s.σ) (hE:EnvOk g w Pr s.env a):OpOk P o a g w Pr s' v:=by
 simp only [stepOp] at hv
 split at hv
 case h_2=>cases hv
 rename_i cs hcs
 cases hv
 obtain ⟨arr,e1,e2,e3⟩:=fill_ok (arr:=z.cells) hE hps hcs (zero_arr hc)
 have hb:P.built t (ps.map fun (i,x)=>(i,a.eval x)).toList=some arr:=by
  unfold placesOf at hp
  split at hp
  ·rename_i fields hu
   simp only [Program.built,hi,hu,hz,hp]
   simpa using e1
  ·cases hp
 refine OpOk.pure (u:=.agg arr) ?_ hI hE (fun r=>⟨arr,rfl,e2,fun j c hj=>?_⟩)
 ·simp only [execOp,ho,Sem.run_bind,run_build w t _ arr hb,Result.andThen_ok];rfl
 ·obtain ⟨u,k1,k2,k3⟩:=e3 j c hj
  exact ⟨u,k1,k2,k3 _⟩
end
section
variable {P:Program} {g g':G} {w w':World} {Pr:Nat→Prop} {s s':St} {a:Act} {F:Oracle} {bd:Bd}
theorem Ext.heap (h:w'.heap=w.heap) (h1:w'.os=w.os) (h2:w'.tape=w.tape) (h3:w'.output=w.output):Ext g w g w' where
 st x v hx:=by obtain ⟨a1,a2,a3⟩:=hx;exact ⟨a1,by simp only [World.cell?,h];exact a2,a3⟩
 loc l x h:=h
 size:=by rw [h];exact Nat.le_refl _
 shape b arr ty fz hb:=⟨arr,by rw [h];exact hb,rfl⟩
 os:=h1
 tape:=h2
 output:=h3
theorem Inv.heap {σ:List Ob} (hI:Inv g w Pr σ) (h:w'.heap=w.heap) (h1:w'.os=w.os) (h2:w'.tape=w.tape) (h3:w'.output=w.output):Inv g w' Pr σ where
 len:=hI.len
 ob l o ho:=RepOb.frame (Ext.heap h h1 h2 h3) (fun _=>Keep.refl _ _) (fun b hb=>⟨by rw [h],hb⟩) (hI.ob l o ho)
 lt b hb:=by rw [h];exact hI.lt b hb
 pr b hb:=by rw [h];exact hI.pr b hb
 gl:=hI.gl.mono (Ext.heap h h1 h2 h3).st
theorem Fr.heap (h:w'.heap=w.heap):Fr Pr g w g w':=fun b hb=>⟨by rw [h],rfl,rfl⟩
theorem repV_c {r:Root} {x:C} {v:Value}:RepV g w Pr r (.c x) v=RepC g w Pr (r,[]) x v:=rfl
def G.newRow (g:G) (w:World) (n:Nat) (p:Place):G:=(g.withKind w.heap.size (.grow n)).withOwn w.heap.size p
theorem newRow_ext (hI:Inv g w Pr s.σ) (o:Obj) (n:Nat) (p:Place):Ext g w (g.newRow w n p) (w.alloc o) where
 st x v h:=by
  obtain ⟨h1,h2,h3⟩:=h
  have hlt:x.block < w.heap.size:=hI.lt _ (by rcases h3 with h3 | ⟨n,h3,_⟩<;>rw [h3]<;>simp)
  refine ⟨h1,by rw [alloc_cell hlt];exact h2,?_⟩
  have hne:x.block≠w.heap.size:=by omega
  simpa [G.newRow,G.withKind,G.withOwn,hne] using h3
 loc l x h:=h
 size:=by simp
 shape b arr ty fz h:=⟨arr,by rw [alloc_get b (Array.getElem?_eq_some_iff.mp h).1];exact h,rfl⟩
 os:=rfl
 tape:=rfl
 output:=rfl
theorem newRow_keep (hI:Inv g w Pr s.σ) (n:Nat) (p q:Place):Keep g (g.newRow w n p) q:=by
 intro b m h1 h2
 have hlt:b < w.heap.size:=hI.lt _ (by rw [h2];simp)
 have hne:b≠w.heap.size:=by omega
 exact ⟨by simpa [G.newRow,G.withKind,G.withOwn,hne] using h1,by simpa [G.newRow,G.withKind,G.withOwn,hne] using h2⟩
theorem newRow_fr (hI:Inv g w Pr s.σ) (o:Obj) (n:Nat) (p:Place):Fr Pr g w (g.newRow w n p) (w.alloc o):=by
 intro b hb
 have hlt:=(hI.pr b hb).1
 have hne:b≠w.heap.size:=by omega
 exact ⟨alloc_get b hlt,by simp [G.newRow,G.withKind,G.withOwn,hne],by simp [G.newRow,G.withKind,G.withOwn,hne]⟩
theorem newRow_inv (hI:Inv g w Pr s.σ) (o:Obj) (n:Nat) (p:Place):Inv (g.newRow w n p) (w.alloc o) Pr s.σ where
 len:=hI.len
 ob l x hx:=by
  refine RepOb.frame (newRow_ext hI o n p) (fun i=>newRow_keep hI _ _ _) ?_ (hI.ob l x hx)
  intro b hb
  have hlt:b < w.heap.size:=hI.lt _ (by rw [hb];simp)
  have hne:b≠w.heap.size:=by omega
  exact ⟨alloc_get b hlt,by simpa [G.newRow,G.withKind,G.withOwn,hne] using hb⟩
 lt b hb:=by
  by_cases he:b=w.heap.size
  ·subst he;simp
  ·have:=hI.lt b (by simpa [G.newRow,G.withKind,G.withOwn,he] using hb)
   simp;omega
 pr b hb:=by
  obtain ⟨h1,h2,h3⟩:=hI.pr b hb
  have hne:b≠w.heap.size:=by omega
  exact ⟨by simp;omega,by simpa [G.newRow,G.withKind,G.withOwn,hne] using h2,by simpa [G.newRow,G.withKind,G.withOwn,hne] using h3⟩
 gl:=hI.gl.mono (newRow_ext hI o n p).st
def RowsIn (g:G) (w:World) (k:Nat) (rows:List (List D)) (arr:Array Value):Prop :=
 ∀ (i:Nat) (row:List D) (j:Nat) (d:D),rows[i]?=some row→row[j]?=some d→∃ u,arr[i * k+j]?=some u∧RepD (g.st w) d u
theorem row_idx {i j k n:Nat} (hi:i < n) (hj:j < k):i * k+j < n * k:=by
 have:(i+1) * k≤n * k:=Nat.mul_le_mul_right _ (by omega)
 rw [Nat.succ_mul] at this
 omega
theorem newRow_rep (hI:Inv g w Pr s.σ) {k:Nat} {rows:List (List D)} {arr:Array Value} {ty:TypeId} (hk:∀ r ∈ rows,r.length=k) (hr:RowsIn g w k rows arr) {cap:Nat} (hcap:rows.length≤cap)
  (hsz:cap * k≤arr.size) (p:Place) (hp:∀ b,Pr b→b < w.heap.size) :
  RepC (g.newRow w (rows.length * k) p) (w.alloc (.cells arr ty)) Pr p (.osl k rows) (.slice (some ⟨w.heap.size,0,none⟩) rows.length cap):=by
 have hget:∀ (i:Nat) (row:List D) (j:Nat) (d:D),rows[i]?=some row→row[j]?=some d→∃ u,arr[i * k+j]?=some u∧RepD ((g.newRow w (rows.length * k) p).st (w.alloc (.cells arr ty))) d u:=by
  intro i row j d hi hj
  obtain ⟨u,u1,u2⟩:=hr i row j d hi hj
  exact ⟨u,u1,RepD.mono (newRow_ext hI _ _ _).st u2⟩
 refine ⟨RepD.sl rows _ k cap (fun i j=>arr.getD (i * k+j) undef) (fun _=>rfl) hcap hk ?_ ?_,hk,.inr ⟨_,cap,rfl,.inr ⟨rfl,hcap,by simp [G.newRow,G.withKind,G.withOwn],by simp [G.newRow,G.withKind,G.withOwn],fun h=>?_,arr,ty,alloc_new,by simpa using hsz⟩⟩⟩
 ·intro i row j d hi hj
  obtain ⟨u,u1,u2⟩:=hget i row j d hi hj
  refine ⟨rfl,?_,.inr ⟨rows.length * k,by simp [G.newRow,G.withKind,G.withOwn],?_⟩⟩
  ·rw [cell_of alloc_new];simp [Array.getD_eq_getD_getElem?,u1]
  ·have h1:=(List.getElem?_eq_some_iff.mp hi).1
   have h2:=(List.getElem?_eq_some_iff.mp hj).1
   rw [hk row (List.mem_of_getElem? hi)] at h2
   simpa using row_idx h1 h2
 ·intro i row j d hi hj
  obtain ⟨u,u1,u2⟩:=hget i row j d hi hj
  simpa [Array.getD_eq_getD_getElem?,u1] using u2
 ·have:=hp _ h;simp at this
theorem OpOk.newRow {o:Oper} {k:Nat} {rows:List (List D)} {arr:Array Value} {ty:TypeId} {cap:Nat} (hI:Inv g w Pr s.σ) (hE:EnvOk g w Pr s.env a)
  (hr:(execOp a.eval o).run P w=.ok (.value (.slice (some ⟨w.heap.size,0,none⟩) rows.length cap)) (w.alloc (.cells arr ty)))
  (hk:∀ r ∈ rows,r.length=k) (hrow:RowsIn g w k rows arr) (hcap:rows.length≤cap) (hsz:cap * k≤arr.size):OpOk P o a g w Pr s (.c (.osl k rows)):=by
 let p:Place:=(.tmp (o.dst.getD 0),[])
 refine ⟨_,_,g.newRow w (rows.length * k) p,fun _ b hb=>alloc_get b hb,.inl hr,newRow_ext hI _ _ _,newRow_fr hI _ _ _,newRow_inv hI _ _ _,hE.ext (newRow_ext hI _ _ _) (fun _ _=>newRow_keep hI _ _ _),fun d hd=>?_⟩
 have:=newRow_rep (ty:=ty) hI hk hrow hcap hsz p (fun b hb=>(hI.pr b hb).1)
 have e:p=(.tmp d,[]):=by simp [p,hd]
 rw [repV_c,← e]
 exact this
theorem OpOk.newRowDrew {o:Oper} {k:Nat} {rows:List (List D)} {arr:Array Value} {ty:TypeId} {cap:Nat} (hI:Inv g w Pr s.σ) (hE:EnvOk g w Pr s.env a)
  (hr:(execOp a.eval o).run P w=.ok (.value (.slice (some ⟨w.heap.size,0,none⟩) rows.length cap)) (w.drew.alloc (.cells arr ty)))
  (hk:∀ r ∈ rows,r.length=k) (hrow:RowsIn g w k rows arr) (hcap:rows.length≤cap) (hsz:cap * k≤arr.size):OpOk P o a g w Pr s (.c (.osl k rows)):=by
 let p:Place:=(.tmp (o.dst.getD 0),[])
 have e0:Ext g w g w.drew:=Ext.heap rfl rfl rfl rfl
 have hI':Inv g w.drew Pr s.σ:=hI.heap rfl rfl rfl rfl
 have hE':EnvOk g w.drew Pr s.env a:=hE.ext e0 (fun _ _=>Keep.refl _ _)
 refine ⟨_,_,g.newRow w.drew (rows.length * k) p,fun _ b hb=>alloc_get (w:=w.drew) b hb,.inl hr,e0.trans (newRow_ext hI' _ _ _),Fr.trans (Fr.heap rfl) (newRow_fr hI' _ _ _),newRow_inv hI' _ _ _,hE'.ext (newRow_ext hI' _ _ _) (fun _ _=>newRow_keep hI' _ _ _),fun d hd=>?_⟩
 have:=newRow_rep (ty:=ty) hI' hk (fun i row j d hi hj=>by obtain ⟨u,u1,u2⟩:=hrow i row j d hi hj;exact ⟨u,u1,RepD.mono e0.st u2⟩) hcap hsz p (fun b hb=>(hI'.pr b hb).1)
 have e:p=(.tmp d,[]):=by simp [p,hd]
 rw [repV_c,← e]
 exact this
theorem rep_get {zs:List C} {n i:Nat} (hi:i < n * zs.length):(rep n zs)[i]?=zs[i % zs.length]?:=by
 induction n generalizing i with
 | zero=>simp at hi
 | succ n ih =>
  have e:rep (n+1) zs=zs ++ rep n zs:=by simp [rep,List.replicate_succ]
  rw [e]
  by_cases h:i < zs.length
  ·rw [List.getElem?_append_left h,Nat.mod_eq_of_lt h]
  ·rw [List.getElem?_append_right (by omega),ih (by rw [Nat.succ_mul] at hi;omega)]
   congr 1
   rw [Nat.mod_eq_sub_mod (a:=i) (by omega)]
theorem rep_length {zs:List C} {n:Nat}:(rep n zs).length=n * zs.length:=by simp [rep]
theorem rep_arr {z:Value} {zs:List C} (h:chkZero z zs=true) (n:Nat):RepArr g w Pr (rep n zs) ((Array.range (n * zs.length)).map (z.cells[· % z.cells.size]!)):=by
 obtain ⟨h1,h2⟩:=chkZero_ok (g:=g) (w:=w) (Pr:=Pr) h
 refine ⟨by simp [rep_length],fun i c hi=>?_⟩
 have hlt:=(List.getElem?_eq_some_iff.mp hi).1
 rw [rep_length] at hlt
 rw [rep_get hlt] at hi
 obtain ⟨u,k1,k2⟩:=h2 _ _ hi
 refine ⟨u,?_,k2⟩
 have hm:i % z.cells.size < z.cells.size:=by
  apply Nat.mod_lt
  rw [h1]
  rcases Nat.eq_zero_or_pos zs.length with h | h
  ·rw [h] at hlt;simp at hlt
  ·exact h
 rw [← h1] at k1
 simp only [Array.getElem?_map,Array.getElem?_range,hlt,if_true,Option.map_some,Option.some.injEq]
 rw [getElem!_def,k1]
theorem rows_of_arr {k n:Nat} {cs:List C} {rows:List (List D)} {arr:Array Value} (hc:chunk k n cs=some rows) (ha:RepArr g w Pr cs arr):RowsIn g w k rows arr:=by
 intro i row j d hi hj
 obtain ⟨c,c1,c2⟩:=(chunk_get hc).2.2 i row j d hi hj
 obtain ⟨u,k1,_,k3⟩:=ha.2 _ _ c1
 exact ⟨u,k1,data_rep c2 (k3 (.tmp 0,[]))⟩
theorem run_bsl {t e:TypeId} {i:TypeInfo} {z:Value} {n:Nat} {ps:Array (Nat × Value)} {cells:Array Value} (hu:P.underlying t=some (.slice e)) (hi:P.info? e=some i) (hz:i.zero=some z)
  (hb:n * i.size≤16777216) (hzs:z.cells.size=i.size) (hf:Instr.fill (fun j=>some (j * i.size,i.size)) ((Array.range (n * i.size)).map (z.cells[· % z.cells.size]!)) ps.toList=some cells) :
  (Instr.buildSlice t n ps).run P w=.ok (.slice (some ⟨w.heap.size,0,none⟩) n n) (w.alloc (.cells cells e)):=by
 by_cases h0:n * i.size=0
 ·have hr:Array.range (n * i.size) = #[]:=by rw [h0];rfl
  have hr0:Array.range 0 = #[]:=rfl
  rw [hr] at hf
  simp only [List.map_toArray,List.map_nil] at hf
  simp [Instr.buildSlice,run_underlying hu,run_sizeOf w hi,Program.cellsOf,hi,h0,newRow,hr0,hf]
 ·simp [Instr.buildSlice,run_underlying hu,run_sizeOf w hi,Program.cellsOf,hi,h0,newRow,zeroValue,typeInfo,hz,hf,Nat.not_lt.mpr hb]
end
section
variable {P:Program} {g g':G} {w w':World} {Pr:Nat→Prop} {s s':St} {a:Act} {F:Oracle} {bd:Bd}
theorem RepD.slice {rows:List (List D)} {bs:Option Addr} {cap k l h:Nat} (hr:RepD (g.st w) (.sl rows) (.slice bs rows.length cap)) (hk:∀ r ∈ rows,r.length=k) (h1:l≤h) (h2:h≤rows.length) :
  RepD (g.st w) (.sl ((rows.take h).drop l)) (.slice (if cap=l then bs else bs.map (·.add (l * k))) (h - l) (cap - l)):=by
 have hlen:((rows.take h).drop l).length=h - l:=by simp;omega
 generalize hx:Value.slice bs rows.length cap=u at hr
 cases hr with
 | nil =>
  cases hx
  have hlh:l=0∧h=0:=by simp at h2;omega
  obtain ⟨rfl,rfl⟩:=hlh
  exact RepD.nil
 | sl _ ad k0 cap' vs q1 q2 q3 q4 q5 =>
  cases hx
  have hk0:rows≠[]→k0=k:=by
   intro hne
   obtain ⟨r0,hr0⟩:=List.exists_mem_of_ne_nil _ hne
   rw [← q3 _ hr0,hk _ hr0]
  by_cases hcl:cap=l
  ·rw [if_pos hcl,← hlen]
   have hem:(rows.take h).drop l=[]:=by apply List.drop_eq_nil_of_le;simp;omega
   rw [hem]
   exact RepD.sl [] ad 0 _ (fun _ _=>undef) (by simp) (by simp) (by simp) (by simp) (by simp)
  ·rw [if_neg hcl,← hlen]
   have hsub:∀ (r':Nat) row,((rows.take h).drop l)[r']?=some row→rows[r'+l]?=some row:=by
    intro r' row hr'
    rw [List.getElem?_drop,List.getElem?_take] at hr'
    split at hr'
    ·rw [Nat.add_comm];exact hr'
    ·cases hr'
   refine RepD.sl _ (ad.add (l * k)) k _ (fun a b=>vs (a+l) b) ?_ (by rw [hlen];omega) (fun r hr=>hk _ (List.mem_of_mem_take (List.mem_of_mem_drop hr))) ?_ ?_
   ·intro hne
    have:rows≠[]:=by rintro rfl;simp at hne
    rw [addr_add' (q1 this)]
   ·intro r' row j d hr' hj
    have hr2:=hsub _ _ hr'
    have hne:rows≠[]:=by rintro rfl;simp at hr2
    have:=q4 _ _ _ _ hr2 hj
    rw [hk0 hne] at this
    rw [addr_add' (q1 hne)]
    have e2:ad.off+(r'+l) * k+j=ad.off+l * k+r' * k+j:=by rw [Nat.add_mul];omega
    rw [e2] at this
    exact this
   ·intro r' row j d hr' hj
    exact q5 _ _ _ _ (hsub _ _ hr') hj
theorem raw_osl_rd {x:Opd} {k:Nat} {rows:List (List D)} (h:s.raw x=.c (.osl k rows)):s.rd x=.c (.b (.d (.sl rows))):=by
 simp [St.rd,h,V.down,C.down]
theorem ok_slc_own (o:Oper) {t e:TypeId} {x:Operand} {x':Opd} {lo:Option Operand} {lo':Option Opd} {k:Nat} {i:TypeInfo} {v:V} (ho:o.op=.slice t x lo none none) (hx:chkOpd x x'=true)
  (hlo:(lo=none∧lo'=none)∨∃ x x',lo=some x∧lo'=some x'∧chkOpd x x'=true)
  (hu:P.underlying t=some (.slice e)) (hi0:P.info? e=some i) (hk:i.size=k)
  (hv:stepOp F bd s (.slc .own k x' lo' none)=some (v,s')) (hI:Inv g w Pr s.σ) (hE:EnvOk g w Pr s.env a):OpOk P o a g w Pr s' v:=by
 subst hk
 simp only [stepOp] at hv
 split at hv
 case h_2=>cases hv
 rename_i l el
 split at hv
 case isFalse=>cases hv
 rename_i h0
 obtain ⟨l,rfl⟩:∃ m:Nat,l=m:=⟨l.toNat,by omega⟩
 split at hv
 case h_2=>cases hv
 rename_i k' rows hnone hraw
 split at hv
 case isFalse=>cases hv
 rename_i hc
 obtain ⟨rfl,hc⟩:=hc
 simp only [Option.some.injEq,Prod.mk.injEq] at hv
 obtain ⟨rfl,rfl⟩:=hv
 obtain ⟨g',x1,x2,x3,x4,x5⟩:=take_ok hI hE hx (o.dst.getD 0)
 rw [hraw] at x5
 obtain ⟨r1,r2,r3⟩:=x5
 have hshape:∃ bs cap,a.eval x=.slice bs rows.length cap∧rows.length≤cap:=by
  generalize a.eval x=u at r1
  cases r1 with
  | nil=>exact ⟨none,0,rfl,by simp⟩
  | sl _ ad k cap vs q1 q2=>exact ⟨some ad,cap,rfl,q2⟩
 obtain ⟨bs,cap,he,hcap⟩:=hshape
 have hb:=run_bounds (P:=P) (isSlice:=true) (hi:=none) (hi':=none) (len:=rows.length) (cap:=cap) hE hlo (.inl ⟨rfl,rfl⟩) el rfl h0 (by omega) (by omega) hcap
 simp only [Int.toNat_natCast] at hb
 have hrun:=run_slice (bs:=bs) hu hi0 hb
 rw [he] at r1 r3
 have hrep:=RepD.slice (l:=l) (h:=rows.length) r1 r2 (by omega) (Nat.le_refl _)
 simp only [List.take_length] at hrep
 refine ⟨.slice (if cap=l then bs else bs.map (·.add (l * i.size))) (rows.length - l) (cap - l),w,g',fun _ _ _=>rfl,.inl ?_,x1,x2,?_,x4,fun d hd=>?_⟩
 ·simp only [execOp,ho,he,Option.map_none,Sem.run_bind]
  simp only [Option.map_none] at hrun
  rw [hrun];rfl
 ·cases x'<;>exact x3
 ·rw [hd] at r3
  rw [repV_c]
  simp only [Int.toNat_natCast]
  have hlen:(rows.drop l).length=rows.length - l:=by simp
  refine ⟨hrep,fun r hr=>r2 r (List.mem_of_mem_drop hr),?_⟩
  rcases r3 with h3 | ⟨ad,cap',h3,h4⟩
  ·obtain ⟨rfl,e5,rfl⟩:bs=none∧rows.length=0∧cap=0:=by simpa using h3
   have:l=0:=by omega
   subst this
   exact .inl (by simp [List.length_eq_zero_iff.mp e5])
  ·obtain ⟨rfl,rfl⟩:bs=some ad∧cap=cap':=by simpa using h3
   right
   by_cases hcl:cap=l
   ·rw [if_pos hcl,hlen]
    exact ⟨ad,cap - l,rfl,.inl (by omega)⟩
   ·rw [if_neg hcl,hlen]
    refine ⟨ad.add (l * i.size),cap - l,rfl,?_⟩
    rcases h4 with h4 | ⟨q1,q2,q3,q4,q5,arr,ty,q6,q7⟩
    ·exact .inl (by omega)
    ·right
     rw [addr_add' q1]
     have em:(rows.length - l) * i.size+l * i.size=rows.length * i.size:=by rw [← Nat.add_mul];congr 1;omega
     have em2:(cap - l) * i.size+l * i.size=cap * i.size:=by rw [← Nat.add_mul];congr 1;omega
     refine ⟨rfl,by omega,?_,q4,q5,arr,ty,q6,?_⟩
     ·show g'.kind ad.block=_
      rw [q3]
      congr 1
      show ad.off+rows.length * i.size=ad.off+l * i.size+(rows.length - l) * i.size
      omega
     ·show ad.off+l * i.size+(cap - l) * i.size≤arr.size
      omega
theorem ok_bsl_own (o:Oper) {t e:TypeId} {n k:Nat} {ps:Array (Nat × Operand)} {ps':List (Nat × Opd)} {zs:List C} {i:TypeInfo} {z:Value} {v:V} (ho:o.op=.buildSlice t n ps)
  (hu:P.underlying t=some (.slice e)) (hi:P.info? e=some i) (hz:i.zero=some z) (hc:chkZero z zs=true) (hk:i.size=k) (hzk:zs.length=k) (hb:n * k≤16777216)
  (hps:chkParts (fun j=>some (j * k,k)) ps.toList (ps'.map fun p=>(p.1 * k,k,p.2))=true)
  (hv:stepOp F bd s (.bsl .own k n zs ps')=some (v,s')) (hI:Inv g w Pr s.σ) (hE:EnvOk g w Pr s.env a):OpOk P o a g w Pr s' v:=by
 subst hk
 simp only [stepOp] at hv
 split at hv
 case h_2=>cases hv
 rename_i cs hcs
 split at hv
 case h_2=>cases hv
 rename_i rows hrows
 cases hv
 have hz0:=rep_arr (g:=g) (w:=w) (Pr:=Pr) hc n
 rw [hzk] at hz0
 obtain ⟨arr,e1,e2⟩:=fill_ok hE hps hcs hz0
 have e1':Instr.fill (fun j=>some (j * i.size,i.size)) ((Array.range (n * i.size)).map (z.cells[· % z.cells.size]!)) (ps.map fun (j,x)=>(j,a.eval x)).toList=some arr:=by simpa using e1
 have hzs:z.cells.size=i.size:=by rw [(chkZero_ok (g:=g) (w:=w) (Pr:=Pr) hc).1,hzk]
 have hrun:=run_bsl (P:=P) (w:=w) hu hi hz hb hzs e1'
 obtain ⟨r1,r2,r3⟩:=chunk_get hrows
 have hcsl:arr.size=cs.length:=e2.1
 have hlen:cs.length=n * i.size:=by
  have:∀ (ps:List (Nat × Nat × Opd)) (zs cs:List C),partsIn s ps zs=some cs→cs.length=zs.length:=by
   intro ps
   induction ps with
   | nil=>intro zs cs h;simp [partsIn] at h;subst h;rfl
   | cons p ps ih =>
    intro zs cs h
    obtain ⟨off,m,x⟩:=p
    simp only [partsIn] at h
    split at h
    case h_2=>cases h
    split at h
    case isFalse=>cases h
    split at h
    case h_2=>cases h
    rename_i hz
    rw [ih _ _ h,(putAt_get hz).1]
  rw [this _ _ _ hcs,rep_length,hzk]
 refine OpOk.newRow (arr:=arr) (ty:=e) (cap:=n) hI hE ?_ r2 (rows_of_arr hrows e2) (by omega) (by omega)
 simp only [execOp,ho,Sem.run_bind,hrun,Result.andThen_ok,r1];rfl
theorem wrap_i64 {n:Int} (h0:0≤n) (h1:n≤140737488355328):IntKind.i64.wrap n=n:=by
 simp [IntKind.wrap,IntKind.bits,IntKind.signed]
 omega
theorem run_mks {t e:TypeId} {i:TypeInfo} {z:Value} {n c:Nat} {k1 k2:IntKind} (hu:P.underlying t=some (.slice e)) (hi:P.info? e=some i) (hz:i.zero=some z) (hzs:z.cells.size=i.size)
  (h1:n≤c) (h2:(c:Int) * i.bytes≤140737488355328) (h3:c≤140737488355328) :
  (Instr.makeSlice t (.int k1 n) (.int k2 c)).run P w=.ok (.slice (some ⟨w.heap.size,0,none⟩) n c) (w.alloc (.cells ((Array.range (c * i.size)).map (z.cells[· % z.cells.size]!)) e)):=by
 have e1:IntKind.i64.wrap (n:Int)=n:=wrap_i64 (by omega) (by omega)
 have e2:IntKind.i64.wrap (c:Int)=c:=wrap_i64 (by omega) (by omega)
 have e3:¬ ((281474976710656:Int) < i.bytes * c):=by rw [Int.mul_comm];omega
 by_cases h0:c * i.size=0
 ·have hr0:Array.range 0 = #[]:=rfl
  simp [Instr.makeSlice,run_underlying hu,asInt,asIntOf,typeInfo,hi,e1,e2,e3,run_sizeOf w hi,Program.cellsOf,h0,newRow,hr0]
  omega
 ·simp [Instr.makeSlice,run_underlying hu,asInt,asIntOf,typeInfo,hi,e1,e2,e3,run_sizeOf w hi,Program.cellsOf,h0,newRow,zeroValue,hz]
  omega
theorem ok_mks_own (o:Oper) {t e:TypeId} {k bytes:Nat} {x y:Operand} {x' y':Opd} {zs:List C} {i:TypeInfo} {z:Value} {v:V} (ho:o.op=.makeSlice t x y) (hx:chkOpd x x'=true) (hy:chkOpd y y'=true)
  (hu:P.underlying t=some (.slice e)) (hi:P.info? e=some i) (hz:i.zero=some z) (hc:chkZero z zs=true) (hk:i.size=k) (hby:i.bytes=bytes)
  (hv:stepOp F bd s (.mks .own k bytes zs x' y')=some (v,s')) (hI:Inv g w Pr s.σ) (hE:EnvOk g w Pr s.env a):OpOk P o a g w Pr s' v:=by
 have h1:=opd_rd hE hx (.tmp 0)
 have h2:=opd_rd hE hy (.tmp 0)
 subst hk
 subst hby
 simp only [stepOp] at hv
 split at hv
 case h_2=>cases hv
 rename_i n c hn hcc
 obtain ⟨k1,e1⟩:=intOf_ok h1 hn
 obtain ⟨k2,e2⟩:=intOf_ok h2 hcc
 split at hv
 case isFalse=>cases hv
 rename_i hcond
 obtain ⟨q1,q2,q3,q4,q5⟩:=hcond
 obtain ⟨n,rfl⟩:∃ m:Nat,n=m:=⟨n.toNat,by omega⟩
 obtain ⟨c,rfl⟩:∃ m:Nat,c=m:=⟨c.toNat,by omega⟩
 simp only [Int.toNat_natCast] at hv
 split at hv
 case h_2=>cases hv
 rename_i rows hrows
 cases hv
 have hzs:z.cells.size=i.size:=by rw [(chkZero_ok (g:=g) (w:=w) (Pr:=Pr) hc).1,q5]
 have hrun:=run_mks (P:=P) (w:=w) (k1:=k1) (k2:=k2) hu hi hz hzs (n:=n) (c:=c) (by omega) (by omega) (by omega)
 obtain ⟨r1,r2,r3⟩:=chunk_get hrows
 have hz0:=rep_arr (g:=g) (w:=w) (Pr:=Pr) hc c
 rw [q5] at hz0
 refine OpOk.newRow (arr:=(Array.range (c * i.size)).map (z.cells[· % z.cells.size]!)) (ty:=e) (cap:=c) hI hE ?_ r2 ?_ (by omega) (by simp)
 ·simp only [execOp,ho,e1,e2,Sem.run_bind,hrun,Result.andThen_ok,r1];rfl
 ·intro i' row j d hi' hj
  obtain ⟨cc,c1,c2⟩:=r3 i' row j d hi' hj
  have hlt:=(List.getElem?_eq_some_iff.mp c1).1
  rw [rep_length,q5] at hlt
  rw [rep_get (by rw [q5];exact hlt)] at c1
  have hlt2:i' * i.size+j < c * zs.length:=by rw [q5];exact Nat.lt_of_lt_of_le hlt (Nat.mul_le_mul_right _ (by omega))
  obtain ⟨u,u1,_,u3⟩:=hz0.2 _ _ ((rep_get hlt2).trans c1)
  exact ⟨u,u1,data_rep c2 (u3 (.tmp 0,[]))⟩
end
section
variable {P:Program} {g g':G} {w w':World} {Pr:Nat→Prop} {s s':St} {a:Act} {F:Oracle} {bd:Bd}
theorem read_rows (hI:Inv g w Pr s.σ) (hE:EnvOk g w Pr s.env a) {y:Operand} {y':Opd} (hy:chkOpd y y'=true) {k:Nat} {ys:List (List D)} (hr:rowsOf s.σ (s.rd y')=some ys) (hk:∀ r ∈ ys,r.length=k) :
  ∃ (bs:Option Addr) (cap:Nat) (us:List Value),a.eval y=.slice bs ys.length cap∧us.length=ys.length * k∧(∀ u ∈ us,u.oneCell'=true)∧RowsIn g w k ys us.toArray ∧
   ∀ w':World,w'.heap=w.heap→(Builtin.firstCells k ys.length (.slice bs ys.length cap)).run P w'=.ok us.toArray w':=by
 have h1:=opd_rd hE hy (.tmp 0)
 have fin:∀ (b o cap:Nat) (f:Nat→Value),a.eval y=.slice (some ⟨b,o,none⟩) ys.length cap→(∀ (i:Nat) (row:List D) (j:Nat) (d:D),ys[i]?=some row→row[j]?=some d→w.cell? ⟨b,o+(i * k+j),none⟩=some (f (i * k+j))∧RepD (g.st w) d (f (i * k+j))) →
   ∃ (bs:Option Addr) (cap:Nat) (us:List Value),a.eval y=.slice bs ys.length cap∧us.length=ys.length * k∧(∀ u ∈ us,u.oneCell'=true)∧RowsIn g w k ys us.toArray ∧
   ∀ w':World,w'.heap=w.heap→(Builtin.firstCells k ys.length (.slice bs ys.length cap)).run P w'=.ok us.toArray w':=by
  intro b o cap f he hf
  have hidx:∀ m,m < ys.length * k→∃ i row j d,ys[i]?=some row∧row[j]?=some d∧m=i * k+j:=by
   intro m hm
   have hkp:0 < k:=Nat.pos_of_ne_zero fun h=>by subst h;simp at hm
   have hi:m / k < ys.length:=Nat.div_lt_of_lt_mul (by rw [Nat.mul_comm];exact hm)
   have hj:m % k < k:=Nat.mod_lt _ hkp
   have hrow:(ys[m / k]).length=k:=hk _ (List.getElem_mem hi)
   exact ⟨m / k,ys[m / k],m % k,(ys[m / k])[m % k],by simp [hi],by simp [hrow,hj],by rw [Nat.mul_comm];exact (Nat.div_add_mod m k).symm⟩
  refine ⟨_,cap,(List.range (ys.length * k)).map f,he,by simp,?_,?_,?_⟩
  ·intro u hu
   simp only [List.mem_map,List.mem_range] at hu
   obtain ⟨m,hm,rfl⟩:=hu
   obtain ⟨i,row,j,d,e1,e2,rfl⟩:=hidx m hm
   exact RepD.scalar (hf i row j d e1 e2).2
  ·intro i row j d hi hj
   have h1:=(List.getElem?_eq_some_iff.mp hi).1
   have h2:=(List.getElem?_eq_some_iff.mp hj).1
   rw [hk row (List.mem_of_getElem? hi)] at h2
   exact ⟨f (i * k+j),by simp [row_idx h1 h2],(hf i row j d hi hj).2⟩
  ·intro w' hw'
   refine run_firstCells_some (P:=P) w' k ys.length ⟨b,o,none⟩ _ cap _ (by simp) (fun m v hm=>?_)
   simp only [List.getElem?_map,Option.map_eq_some_iff] at hm
   obtain ⟨m',hm',rfl⟩:=hm
   obtain ⟨rfl,hlt⟩:=range_get hm'
   obtain ⟨i,row,j,d,e1,e2,rfl⟩:=hidx m hlt
   rw [addr_add]
   simp only [World.cell?,hw']
   exact (hf i row j d e1 e2).1
 have none_:a.eval y=.slice none 0 0→ys=[]→∃ (bs:Option Addr) (cap:Nat) (us:List Value),a.eval y=.slice bs ys.length cap∧us.length=ys.length * k∧(∀ u ∈ us,u.oneCell'=true)∧RowsIn g w k ys us.toArray ∧
   ∀ w':World,w'.heap=w.heap→(Builtin.firstCells k ys.length (.slice bs ys.length cap)).run P w'=.ok us.toArray w':=by
  intro he hys
  subst hys
  exact ⟨none,0,[],he,by simp,by simp,fun i row j d hi=>by simp at hi,fun w' _=>run_firstCells_none (P:=P) w' _ _ _ _⟩
 have sl_:RepD (g.st w) (.sl ys) (a.eval y)→∃ (bs:Option Addr) (cap:Nat) (us:List Value),a.eval y=.slice bs ys.length cap∧us.length=ys.length * k∧(∀ u ∈ us,u.oneCell'=true)∧RowsIn g w k ys us.toArray ∧
   ∀ w':World,w'.heap=w.heap→(Builtin.firstCells k ys.length (.slice bs ys.length cap)).run P w'=.ok us.toArray w':=by
  intro h
  generalize hu:a.eval y=u at h
  cases h with
  | nil=>rw [hu] at none_;exact none_ rfl rfl
  | sl _ ad k0 cap vs q1 q2 q3 q4 q5 =>
   by_cases hem:ys=[]
   ·subst hem
    exact ⟨_,cap,[],rfl,by simp,by simp,fun i row j d hi=>by simp at hi,fun w' _=>by simp [Builtin.firstCells,loadCells,loadCellsFrom]⟩
   ·have hsp:=q1 hem
    have hk0:k0=k:=by
     obtain ⟨r0,hr0⟩:=List.exists_mem_of_ne_nil _ hem
     rw [← q3 _ hr0,hk _ hr0]
    subst hk0
    obtain ⟨ab,ao,sp⟩:=ad
    cases hsp
    rw [hu] at fin
    have hpos:∀ (i:Nat) (row:List D) (j:Nat) (d:D),ys[i]?=some row→row[j]?=some d→j < k0:=fun i row j d hi hj=>by
     rw [← hk row (List.mem_of_getElem? hi)];exact (List.getElem?_eq_some_iff.mp hj).1
    refine fin ab ao cap (fun m=>vs (m / k0) (m % k0)) rfl (fun i row j d hi hj=>?_)
    have hj':=hpos i row j d hi hj
    have e1:(i * k0+j) / k0=i:=by rw [Nat.mul_comm,Nat.mul_add_div (by omega),Nat.div_eq_of_lt hj'];omega
    have e2:(i * k0+j) % k0=j:=by rw [Nat.mul_comm,Nat.mul_add_mod,Nat.mod_eq_of_lt hj']
    simp only [e1,e2]
    have:=q4 i row j d hi hj
    rw [← Nat.add_assoc]
    exact ⟨this.2.1,q5 i row j d hi hj⟩
 unfold rowsOf at hr
 split at hr
 ·rename_i k' rows hrd
  cases hr
  rw [hrd] at h1
  exact sl_ h1.1
 ·rename_i rows hrd
  cases hr
  rw [hrd] at h1
  exact sl_ h1
 ·rename_i k' l off len hrd
  rw [hrd] at h1
  obtain ⟨b,q,cap,arr,ty,hl,e1,e2,e3,e4⟩:=h1
  split at hr
  case h_2=>cases hr
  rename_i cs hcs
  obtain ⟨b',q',arr',ty',h3,h4,h5,h6,h7⟩:=hI.ob _ _ (getCells_eq hcs)
  rw [hl] at h3
  cases h3
  rw [e3] at h5
  cases h5
  obtain ⟨r1,r2,r3⟩:=chunk_get hr
  rw [← r1] at e1
  have hkk:ys≠[]→k'=k:=by
   intro hne
   obtain ⟨r0,hr0⟩:=List.exists_mem_of_ne_nil _ hne
   rw [← r2 _ hr0,hk _ hr0]
  refine fin b (q+off) cap (fun m=>arr.getD (q+off+m) undef) e1 (fun i row j d hi hj=>?_)
  have hne:ys≠[]:=by rintro rfl;simp at hi
  obtain ⟨c,c1,c2⟩:=r3 i row j d hi hj
  rw [hkk hne,List.getElem?_drop] at c1
  obtain ⟨u,u1,u2,u3⟩:=h7 _ _ c1
  rw [← Nat.add_assoc] at u1
  exact ⟨by rw [cell_of e3];simp [Array.getD_eq_getD_getElem?,u1],by simpa [Array.getD_eq_getD_getElem?,u1] using data_rep c2 u3⟩
 ·rename_i hrd
  cases hr
  rw [hrd] at h1
  exact none_ h1 rfl
 ·rename_i hrd
  cases hr
  rw [hrd] at h1
  obtain ⟨ad,cap,he⟩:=h1
  exact ⟨_,cap,[],he,by simp,by simp,fun i row j d hi=>by simp at hi,fun w' _=>by simp [Builtin.firstCells,loadCells,loadCellsFrom]⟩
 ·cases hr
theorem run_app_grow {t t2 ty e e2:TypeId} {i:TypeInfo} {z x:Value} {bs:Option Addr} {sLen sCap n:Nat} {old new:Array Value} (ht:P.underlying t=some (.slice e)) (hd:P.underlying t2=some (.slice e2))
  (hi:P.info? e=some i) (hz:i.zero=some z) (hx:∃ b c,x=.slice b n c) (hg:sCap < sLen+n) (h63:sLen+n≤70368744177664) (hfit:(sLen+n) * i.bytes≤70368744177664) (hby:i.bytes≠0)
  (ho:(Builtin.firstCells i.size sLen (.slice bs sLen sCap)).run P w.drew=.ok old w.drew) (hn:(Builtin.firstCells i.size n x).run P w.drew=.ok new w.drew) :
  (Builtin.append_ #[t,t2] ty #[.slice bs sLen sCap,x]).run P w =
   .ok (.slice (some ⟨w.heap.size,0,none⟩) (sLen+n) (grownCap w (sLen+n) sCap e)) (w.drew.alloc (.cells (old ++ new ++ Builtin.zeroCells z.cells (grownCap w (sLen+n) sCap e - (sLen+n))) e)):=by
 obtain ⟨b,c,rfl⟩:=hx
 have hn':¬ (sLen+n≤sCap):=by omega
 have h63':¬ (9223372036854775807 < ((sLen:Int)+(n:Int))):=by omega
 have hf:=growslice_fits (bytes:=i.bytes) hg (by omega)
 have h48':¬ (281474976710656 < Builtin.nextslicecap (sLen+n) sCap * i.bytes):=by omega
 simp [Builtin.append_,run_underlying ht,run_underlying hd,sizeOf,typeInfo,zeroValue,hi,hz,Builtin.lenOf,hn',h63',h48',Question.forced,ho,hn,newRow,grownCap]
theorem run_app_room {t t2 ty e e2:TypeId} {i:TypeInfo} {bs:Option Addr} {b o sLen sCap n c:Nat} {us:List Value} {cur:Array Value} {te:TypeId} (ht:P.underlying t=some (.slice e)) (hd:P.underlying t2=some (.slice e2))
  (hi:P.info? e=some i) (hg:sLen+n≤sCap) (hb:w.heap[b]?=some (.cells cur te (0,0))) (hn:(Builtin.firstCells i.size n (.slice bs n c)).run P w=.ok us.toArray w)
  (h1:∀ u ∈ us,u.oneCell'=true) (hfit:o+sLen * i.size+us.length≤cur.size) :
  (Builtin.append_ #[t,t2] ty #[.slice (some ⟨b,o,none⟩) sLen sCap,.slice bs n c]).run P w =
   .ok (.slice (some ⟨b,o,none⟩) (sLen+n) sCap) (w.setRow b (cur.toList.take (o+sLen * i.size) ++ us ++ cur.toList.drop (o+sLen * i.size+us.length)).toArray):=by
 have hst:=run_storeCells_at (P:=P) b (o+sLen * i.size) te us 0 cur w hb (by simpa using hfit) h1
 simp only [Nat.add_zero] at hst
 simp [Builtin.append_,run_underlying ht,run_underlying hd,sizeOf,typeInfo,hi,Builtin.lenOf,hg,hn,addr_add,hst]
theorem run_app_none {t t2 ty e e2:TypeId} {i:TypeInfo} {bs:Option Addr} {c:Nat} (ht:P.underlying t=some (.slice e)) (hd:P.underlying t2=some (.slice e2)) (hi:P.info? e=some i) (ad:Option Addr) (sLen sCap:Nat) (hle:sLen≤sCap)
  (hn:(Builtin.firstCells i.size 0 (.slice bs 0 c)).run P w=.ok #[] w) :
  (Builtin.append_ #[t,t2] ty #[.slice ad sLen sCap,.slice bs 0 c]).run P w=.ok (.slice ad sLen sCap) w:=by
 cases ad<;>simp [Builtin.append_,run_underlying ht,run_underlying hd,sizeOf,typeInfo,hi,Builtin.lenOf,hle,hn,storeCells]
theorem OpOk.trans {o:Oper} {v:V} {g1:G} (h1:Ext g w g1 w) (h2:Fr Pr g w g1 w) (h:OpOk P o a g1 w Pr s v):OpOk P o a g w Pr s v:=by
 obtain ⟨u,w',g',q,r,x1,x2,x3,x4,x5⟩:=h
 exact ⟨u,w',g',q,r,h1.trans x1,h2.trans x2,x3,x4,x5⟩
theorem RepV.ext_down (e:Ext g w g' w') {r r':Root} {x:V} {v:Value} (h:RepV g w Pr r x.down v) (hx:x.down=x):RepV g' w' Pr r' x v:=by
 have hc:∀ (c:C) (p q:Place) (u:Value),c.down=c→RepC g w Pr p c u→RepC g' w' Pr q c u:=by
  intro c p q u hd hc
  cases c with
  | b y=>exact RepB.ext e hc
  | osl k rows=>simp [C.down] at hd
  | fn f p q =>
   obtain ⟨xs,ys,h1,h2,h3,h4,h5⟩:=hc
   refine ⟨xs,ys,h1,h2,h3,fun i b hi=>?_,fun i b hi=>?_⟩
   ·obtain ⟨u,k1,k2,k3⟩:=h4 i b hi;exact ⟨u,k1,k2,RepB.ext e k3⟩
   ·obtain ⟨u,k1,k2,k3⟩:=h5 i b hi;exact ⟨u,k1,k2,RepB.ext e k3⟩
  | nilf=>exact hc
 rw [hx] at h
 cases x with
 | c y=>exact hc y (r,[]) (r',[]) v (by simpa [V.down] using hx) h
 | agg cs =>
  obtain ⟨arr,h1,h2,h3⟩:=h
  refine ⟨arr,h1,h2,fun i c hi=>?_⟩
  obtain ⟨u,k1,k2,k3⟩:=h3 i c hi
  have:c.down=c:=by
   have hm:cs.map C.down=cs:=by simpa [V.down] using hx
   have:=congrArg (·[i]?) hm
   simp only [List.getElem?_map,hi,Option.map_some,Option.some.injEq] at this
   exact this
  exact ⟨u,k1,k2,hc c _ _ u this k3⟩
 | tup vs=>simp [V.down] at hx
theorem down_down (x:V):x.down.down=x.down:=by
 cases x with
 | c y=>cases y<;>rfl
 | agg cs =>
  simp only [V.down,V.agg.injEq,List.map_map]
  apply List.map_congr_left
  intro c _
  cases c<;>rfl
 | tup vs=>rfl
theorem rows_app {k:Nat} {xs ys:List (List D)} {u v z:Array Value} (hx:RowsIn g w k xs u) (hy:RowsIn g w k ys v) (hu:u.size=xs.length * k):RowsIn g w k (xs ++ ys) (u ++ v ++ z):=by
 intro i row j d hi hj
 by_cases h:i < xs.length
 ·rw [List.getElem?_append_left h] at hi
  obtain ⟨q,q1,q2⟩:=hx i row j d hi hj
  have:=(Array.getElem?_eq_some_iff.mp q1).1
  exact ⟨q,by rw [Array.append_assoc,Array.getElem?_append_left this];exact q1,q2⟩
 ·rw [List.getElem?_append_right (by omega)] at hi
  obtain ⟨q,q1,q2⟩:=hy _ row j d hi hj
  have h2:=(Array.getElem?_eq_some_iff.mp q1).1
  have e:i * k=xs.length * k+(i - xs.length) * k:=by rw [← Nat.add_mul];congr 1;omega
  refine ⟨q,?_,q2⟩
  rw [Array.append_assoc,Array.getElem?_append_right (by omega),Array.getElem?_append_left (by omega)]
  rw [show i * k+j - u.size=(i - xs.length) * k+j by omega]
  exact q1
theorem app_room (hI:Inv g w Pr s.σ) (hE:EnvOk g w Pr s.env a) {m k cap:Nat} {ad:Addr} {rows ys:List (List D)} {us:List Value} {arr:Array Value} {ty:TypeId} (hsp:ad.spot=none)
  (hrep:RepD (g.st w) (.sl rows) (.slice (some ad) rows.length cap)) (hk:∀ r ∈ rows,r.length=k) (hky:∀ r ∈ ys,r.length=k) (hkind:g.kind ad.block=.grow (ad.off+rows.length * k)) (hown:g.own ad.block=some (.tmp m,[])) (hpr:¬ Pr ad.block)
  (harr:w.heap[ad.block]?=some (.cells arr ty (0,0))) (hsz:ad.off+cap * k≤arr.size) (hroom:rows.length+ys.length≤cap) (hus:us.length=ys.length * k) (hyr:RowsIn g w k ys us.toArray) (d:Nat) :
  let w1:=w.setRow ad.block (arr.toList.take (ad.off+rows.length * k) ++ us ++ arr.toList.drop (ad.off+rows.length * k+us.length)).toArray
  ∃ g',Ext g w g' w1∧Fr Pr g w g' w1∧Inv g' w1 Pr s.σ∧EnvOk g' w1 Pr (s.took (.t m)).env a∧RepC g' w1 Pr (.tmp d,[]) (.osl k (rows ++ ys)) (.slice (some ad) (rows.length+ys.length) cap):=by
 intro w1
 obtain ⟨b,o,sp⟩:=ad
 cases hsp
 simp only at *
 have hm:rows.length * k+ys.length * k≤cap * k:=by rw [← Nat.add_mul];exact Nat.mul_le_mul_right _ hroom
 have hsize:(arr.toList.take (o+rows.length * k) ++ us ++ arr.toList.drop (o+rows.length * k+us.length)).toArray.size=arr.size:=by simp;omega
 have hget:w1.heap[b]?=some (.cells (arr.toList.take (o+rows.length * k) ++ us ++ arr.toList.drop (o+rows.length * k+us.length)).toArray ty (0,0)):=setRow_get _ _ harr
 have hother:∀ c,c≠b→w1.heap[c]?=w.heap[c]?:=fun c hc=>setRow_other _ _ hc
 have hcell:∀ x,w1.cell? ⟨b,x,none⟩=if x < o+rows.length * k then arr[x]? else if x < o+rows.length * k+us.length then us[x - (o+rows.length * k)]? else arr[x]?:=by
  intro x
  rw [cell_of hget]
  simp only [List.getElem?_toArray]
  split
  ·rw [List.append_assoc,List.getElem?_append_left (by simp;omega),List.getElem?_take,if_pos (by assumption)];simp
  ·have e1:(arr.toList.take (o+rows.length * k)).length=o+rows.length * k:=by simp;omega
   split
   ·rw [List.append_assoc,List.getElem?_append_right (by omega),List.getElem?_append_left (by omega),e1]
   ·rw [List.append_assoc,List.getElem?_append_right (by omega),List.getElem?_append_right (by omega),List.getElem?_drop,e1]
    simp only [Array.getElem?_toList]
    congr 1
    omega
 let g1:=g.withKind b (.grow (o+(rows.length+ys.length) * k))
 have hmul:(rows.length+ys.length) * k=rows.length * k+ys.length * k:=Nat.add_mul _ _ _
 have hext:Ext g w g1 w1:=by
  refine ⟨fun x v hx=>?_,fun l x h=>h,by simp [w1],fun c ar t fz hc=>?_,rfl,rfl,rfl⟩
  ·obtain ⟨h1,h2,h3⟩:=hx
   by_cases hb:x.block=b
   ·obtain ⟨xb,xo,xs⟩:=x
    simp only at hb h1
    subst hb;subst h1
    rw [hkind] at h3
    rcases h3 with h3 | ⟨n,h3,h4⟩
    ·cases h3
    ·cases h3
     refine ⟨rfl,?_,.inr ⟨_,by simp [g1,G.withKind];rfl,by simp only at h4 ⊢;omega⟩⟩
     rw [hcell,if_pos h4,← cell_of harr]
     exact h2
   ·refine ⟨h1,?_,by simpa [g1,G.withKind,hb] using h3⟩
    simp only [World.cell?,hother _ hb]
    exact h2
  ·by_cases hb:c=b
   ·subst hb
    rw [harr] at hc
    cases hc
    exact ⟨_,hget,hsize⟩
   ·exact ⟨ar,by rw [hother _ hb];exact hc,rfl⟩
 have hkeep:∀ p,p≠(.tmp m,[])→Keep g g1 p:=by
  intro p hp c n h1 h2
  have hc:c≠b:=by rintro rfl;rw [hown] at h1;exact hp (by simpa using h1.symm)
  exact ⟨h1,by simpa [g1,G.withKind,hc] using h2⟩
 have hfr:Fr Pr g w g1 w1:=by
  intro c hc
  have hb:c≠b:=by rintro rfl;exact hpr hc
  exact ⟨hother _ hb,by simp [g1,G.withKind,hb],rfl⟩
 have hinv:Inv g1 w1 Pr s.σ:=by
  refine ⟨hI.len,fun l x hx=>?_,fun c hc=>?_,fun c hc=>?_,hI.gl.mono hext.st⟩
  ·refine RepOb.frame hext (fun i=>hkeep _ (by simp)) (fun c hc=>?_) (hI.ob l x hx)
   have hb:c≠b:=by rintro rfl;rw [hkind] at hc;cases hc
   exact ⟨hother _ hb,by simpa [g1,G.withKind,hb] using hc⟩
  ·by_cases hb:c=b
   ·subst hb;simpa [w1] using hI.lt _ (by rw [hkind];simp)
   ·simpa [w1] using hI.lt c (by simpa [g1,G.withKind,hb] using hc)
  ·obtain ⟨p1,p2,p3⟩:=hI.pr c hc
   have hb:c≠b:=by rintro rfl;exact hpr hc
   exact ⟨by simpa [w1] using p1,by simpa [g1,G.withKind,hb] using p2,p3⟩
 let φ:Place→Place:=fun p=>if p.1=.tmp m then (.tmp d,p.2) else p
 have henv:EnvOk (g1.ren Pr φ) w1 Pr (s.took (.t m)).env a:=by
  intro t
  simp only [St.took]
  rw [env_get_cons]
  split
  ·subst_vars
   have:=RepV.down (r':=.tmp t) (hE t)
   exact RepV.ext_down (hext.trans (Ext.ren φ)) (r:=.tmp t) (by rw [down_down];exact this) (down_down _)
  ·rename_i hne
   refine RepV.ren φ (fun p=>by simp only [φ];rw [if_neg];intro h;exact hne (by cases h;rfl)) ?_
   exact RepV.ext hext (fun i=>hkeep _ (by intro h;exact hne (by cases h;rfl))) (hE t)
 refine ⟨g1.ren Pr φ,hext.trans (Ext.ren φ),hfr.trans (Fr.ren φ),Inv.ren φ (fun l i=>by simp [φ]) hinv,henv,RepC.ren φ (p:=(.tmp m,[])) (by simp [φ]) ?_⟩
 have hcells:∀ (i:Nat) (row:List D) (j:Nat) (x:D),(rows ++ ys)[i]?=some row→row[j]?=some x→∃ u,g1.st w1 ⟨b,o+i * k+j,none⟩ u∧RepD (g1.st w1) x u:=by
  intro i row j x hi hj
  by_cases h:i < rows.length
  ·rw [List.getElem?_append_left h] at hi
   obtain ⟨ad',cap',k',e1,e2,e3,e4,vs,e5⟩:=rows_get hrep hi
   cases e1
   rw [hk row (List.mem_of_getElem? hi)] at e4
   subst e4
   obtain ⟨q1,q2⟩:=e5 j x hj
   exact ⟨vs j,hext.st _ _ q1,RepD.mono hext.st q2⟩
  ·rw [List.getElem?_append_right (by omega)] at hi
   obtain ⟨u,u1,u2⟩:=hyr _ row j x hi hj
   have hj':j < k:=by rw [← hky row (List.mem_of_getElem? hi)];exact (List.getElem?_eq_some_iff.mp hj).1
   have hi':=(List.getElem?_eq_some_iff.mp hi).1
   have hix:=row_idx hi' hj'
   have e:i * k=rows.length * k+(i - rows.length) * k:=by rw [← Nat.add_mul];congr 1;omega
   refine ⟨u,⟨rfl,?_,.inr ⟨_,by simp [g1,G.withKind];rfl,by simp only;omega⟩⟩,RepD.mono hext.st u2⟩
   rw [hcell,if_neg (by omega),if_pos (by omega)]
   rw [show o+i * k+j - (o+rows.length * k)=(i - rows.length) * k+j by omega]
   simpa using u1
 have hall:∀ r ∈ rows ++ ys,r.length=k:=by
  intro r hr
  rcases List.mem_append.mp hr with h | h
  ·exact hk r h
  ·exact hky r h
 have hl:(rows ++ ys).length=rows.length+ys.length:=List.length_append
 rw [← hl]
 refine ⟨RepD.sl (rows ++ ys) _ k cap (fun i j=>(w1.cell? ⟨b,o+i * k+j,none⟩).getD undef) (fun _=>rfl) (by omega) hall ?_ ?_,hall,.inr ⟨_,cap,rfl,.inr ⟨rfl,by omega,?_,?_,hpr,_,ty,hget,by rw [hsize];exact hsz⟩⟩⟩
 ·intro i row j x hi hj
  obtain ⟨u,u1,u2⟩:=hcells i row j x hi hj
  simp only [u1.2.1,Option.getD_some]
  exact u1
 ·intro i row j x hi hj
  obtain ⟨u,u1,u2⟩:=hcells i row j x hi hj
  simp only [u1.2.1,Option.getD_some]
  exact u2
 ·rw [hl];simp [g1,G.withKind]
 ·exact hown
end
section
variable {P:Program} {g g':G} {w w':World} {Pr:Nat→Prop} {s s':St} {a:Act} {F:Oracle} {bd:Bd}
theorem ok_app (o:Oper) {t t2 e e2:TypeId} {k bytes:Nat} {x y:Operand} {x' y':Opd} {i:TypeInfo} {z:Value} {v:V} (ho:o.op=.call { callee:=.builtin .append,args:=#[x,y],argTypes:=#[t,t2] })
  (hx:chkOpd x x'=true) (hy:chkOpd y y'=true) (ht:P.underlying t=some (.slice e)) (ht2:P.underlying t2=some (.slice e2)) (hi:P.info? e=some i) (hz:i.zero=some z) (hzs:z.cells.size=i.size)
  (hk:i.size=k) (hby:i.bytes=bytes) (hb0:i.bytes≠0)
  (hv:stepOp F bd s (.app k bytes x' y')=some (v,s')) (hI:Inv g w Pr s.σ) (hE:EnvOk g w Pr s.env a):OpOk P o a g w Pr s' v:=by
 subst hk
 subst hby
 simp only [stepOp] at hv
 split at hv
 case h_2=>cases hv
 rename_i ys hys
 split at hv
 case isFalse=>cases hv
 rename_i hyk
 have hky:∀ r ∈ ys,r.length=i.size:=by simpa using hyk
 split at hv
 case h_2=>cases hv
 rename_i k' rows hraw
 split at hv
 case isFalse=>cases hv
 rename_i hc
 obtain ⟨rfl,hc1,hc2⟩:=hc
 simp only [Option.some.injEq,Prod.mk.injEq] at hv
 obtain ⟨rfl,rfl⟩:=hv
 obtain ⟨cc,hb⟩:=run_builtin (P:=P) (w:=w) (a:=a) ho
 have hrep:∃ p,RepC g w Pr p (.osl i.size rows) (a.eval x)∧(∀ m,x'=.t m→p=(.tmp m,[])):=by
  obtain ⟨o1,o2⟩:=opd_raw hE hx
  cases x' with
  | t m=>refine ⟨(.tmp m,[]),?_,fun m' h=>by cases h;rfl⟩;have:=o1 m rfl;rw [hraw] at this;exact this
  | k c=>refine ⟨(.tmp 0,[]),?_,fun m' h=>by cases h⟩;have:=o2 c rfl (.tmp 0);rw [hraw] at this;exact this
 obtain ⟨p,⟨r1,r2,r3⟩,hp⟩:=hrep
 obtain ⟨bs2,cap2,us,e1,us1,us2,us3,us4⟩:=read_rows (P:=P) hI hE hy hys hky
 have hrx:rowsOf s.σ (s.rd x')=some rows:=by rw [raw_osl_rd hraw];rfl
 obtain ⟨bs1,cap1,vs,f1,vs1,vs2,vs3,vs4⟩:=read_rows (P:=P) hI hE hx hrx r2
 have hcap1:rows.length≤cap1:=by
  rw [f1] at r1
  generalize hq:Value.slice bs1 rows.length cap1=q at r1
  cases r1 with
  | nil=>cases hq;simp
  | sl _ ad k cap vs q1 q2=>cases hq;exact q2
 have hbuilt:∀ {r:Result Value},(Builtin.append_ #[t,t2] o.type #[.slice bs1 rows.length cap1,.slice bs2 ys.length cap2]).run P w=r→(execOp a.eval o).run P w=r.andThen fun v w'=>.ok (.value v) w':=by
  intro r hr
  rw [hb]
  simp [builtin,f1,e1,hr]
 have htook:(s.took x').σ=s.σ:=by cases x'<;>rfl
 have henvT:∀ {g'':G} {w'':World},EnvOk g'' w'' Pr s.env a→EnvOk g'' w'' Pr (s.took x').env a:=by
  intro g'' w'' h
  cases x' with
  | k c=>exact h
  | t m =>
   intro t
   simp only [St.took]
   rw [env_get_cons]
   split
   ·subst_vars;exact RepV.down (h t)
   ·exact h t
 by_cases hroom:rows.length+ys.length≤cap1
 ·by_cases h0:ys=[]
  ·subst h0
   have hu0:us=[]:=List.eq_nil_of_length_eq_zero (by simpa using us1)
   subst hu0
   have hrun:=run_app_none (P:=P) (w:=w) (ty:=o.type) ht ht2 hi bs1 rows.length cap1 hcap1 (us4 w rfl)
   obtain ⟨g',x1,x2,x3,x4,x5⟩:=take_ok hI hE hx (o.dst.getD 0)
   refine ⟨_,w,g',fun _ _ _=>rfl,.inl (hbuilt hrun),x1,x2,by rw [htook];exact x3,x4,fun d hd=>?_⟩
   rw [hraw,f1,hd] at x5
   simpa using x5
  ·
   have hown:∃ ad m,bs1=some ad∧x'=.t m∧ad.spot=none∧g.kind ad.block=.grow (ad.off+rows.length * i.size)∧g.own ad.block=some (.tmp m,[])∧¬ Pr ad.block ∧
     ∃ arr ty,w.heap[ad.block]?=some (.cells arr ty (0,0))∧ad.off+cap1 * i.size≤arr.size:=by
    have hpos:0 < ys.length:=List.length_pos_iff.mpr h0
    rw [f1] at r3
    rcases r3 with h3 | ⟨ad,cap',h3,h4⟩
    ·exfalso
     obtain ⟨_,q1,q2⟩:bs1=none∧rows.length=0∧cap1=0:=by simpa using h3
     omega
    ·obtain ⟨rfl,rfl⟩:bs1=some ad∧cap1=cap':=by simpa using h3
     rcases h4 with h4 | ⟨q1,q2,q3,q4,q5,q6⟩
     ·omega
     ·cases x' with
      | t m=>exact ⟨ad,m,rfl,rfl,q1,q3,by rw [q4,hp m rfl],q5,q6⟩
      | k c =>
       exfalso
       obtain ⟨cv,rfl,hcv⟩:=opd_k hE hx
       simp only [St.raw,V.c.injEq] at hraw
       subst hraw
       have h1:=(hcv (.tmp 1,[]))
       have h2:=(hcv (.tmp 2,[]))
       rw [f1] at h1 h2
       obtain ⟨_,_,h1⟩:=h1
       obtain ⟨_,_,h2⟩:=h2
       rcases h1 with h1 | ⟨ad1,c1,h1,h1'⟩
       ·cases h1
       ·cases h1
        rcases h1' with h1' | ⟨_,_,_,z4,_⟩
        ·omega
        ·rcases h2 with h2 | ⟨ad2,c2,h2,h2'⟩
         ·cases h2
         ·cases h2
          rcases h2' with h2' | ⟨_,_,_,z5,_⟩
          ·omega
          ·rw [z4] at z5;simp at z5
   obtain ⟨ad,m,rfl,rfl,q1,q3,q4,q5,arr,ty,q6,q7⟩:=hown
   rw [f1] at r1
   have:=app_room (a:=a) hI hE q1 r1 r2 hky q3 q4 q5 q6 q7 hroom us1 us3 (o.dst.getD 0)
   obtain ⟨g',x1,x2,x3,x4,x5⟩:=this
   obtain ⟨ab,ao,sp⟩:=ad
   cases q1
   have hfit:ao+rows.length * i.size+us.length≤arr.size:=by
    have hm:rows.length * i.size+ys.length * i.size≤cap1 * i.size:=by rw [← Nat.add_mul];exact Nat.mul_le_mul_right _ hroom
    simp only at q7
    omega
   have hrun:=run_app_room (P:=P) (w:=w) (ty:=o.type) ht ht2 hi hroom q6 (us4 w rfl) us2 hfit
   refine ⟨_,_,g',fun h=>(by rw [ho] at h;cases h),.inl (hbuilt hrun),x1,x2,x3,x4,fun d hd=>?_⟩
   rw [hd] at x5
   exact x5
 ·
  have hrun:=run_app_grow (P:=P) (w:=w) (ty:=o.type) (z:=z) (bs:=bs1) (sLen:=rows.length) (sCap:=cap1) ht ht2 hi hz ⟨bs2,cap2,rfl⟩ (by omega) (by omega) hc1 hb0 (vs4 w.drew rfl) (us4 w.drew rfl)
  have hge:=grownCap_ge w (rows.length+ys.length) cap1 e
  have hl:(rows ++ ys).length=rows.length+ys.length:=List.length_append
  refine OpOk.newRowDrew (s:=s.took x') (rows:=rows ++ ys) (arr:=vs.toArray ++ us.toArray ++ Builtin.zeroCells z.cells (grownCap w (rows.length+ys.length) cap1 e - (rows.length+ys.length))) (ty:=e) (cap:=grownCap w (rows.length+ys.length) cap1 e) (by rw [htook];exact hI) (henvT hE) ?_ ?_ (rows_app vs3 us3 (by simpa using vs1)) (by omega) ?_
  ·rw [hl];exact hbuilt hrun
  ·intro r hr
   rcases List.mem_append.mp hr with h | h
   ·exact r2 r h
   ·exact hky r h
  ·simp only [Array.size_append,List.size_toArray,size_zeroCells,hzs,vs1,us1,← Nat.add_mul]
   apply Nat.le_of_eq
   congr 1
   omega
theorem ok_appn (o:Oper) {t t2 e e2:TypeId} {k bytes:Nat} {x y:Operand} {x' y':Opd} {i:TypeInfo} {z:Value} {v:V} (ho:o.op=.call { callee:=.builtin .append,args:=#[x,y],argTypes:=#[t,t2] })
  (hx:chkOpd x x'=true) (hy:chkOpd y y'=true) (ht:P.underlying t=some (.slice e)) (ht2:P.underlying t2=some (.slice e2)) (hi:P.info? e=some i) (hz:i.zero=some z) (hzs:z.cells.size=i.size)
  (hk:i.size=k) (hby:i.bytes=bytes) (hb0:i.bytes≠0)
  (hv:stepOp F bd s (.appn k bytes x' y')=some (v,s')) (hI:Inv g w Pr s.σ) (hE:EnvOk g w Pr s.env a):OpOk P o a g w Pr s' v∧∀ u w',((execOp a.eval o).run P w=.ok (.value u) w'∨(execOp a.eval o).run P w=.ok .skip w')→Same w w':=by
 subst hk
 subst hby
 simp only [stepOp] at hv
 split at hv
 case h_2=>cases hv
 rename_i ys hrx hry
 split at hv
 case isFalse=>cases hv
 rename_i hc
 simp only [Bool.and_eq_true,decide_eq_true_eq] at hc
 obtain ⟨hyk,hc1,hc2⟩:=hc
 have hky:∀ r ∈ ys,r.length=i.size:=by simpa using hyk
 cases hv
 obtain ⟨cc,hb⟩:=run_builtin (P:=P) (w:=w) (a:=a) ho
 have hys:rowsOf s.σ (s.rd y')=some ys:=by rw [hry];rfl
 obtain ⟨bs2,cap2,us,e1,us1,us2,us3,us4⟩:=read_rows (P:=P) hI hE hy hys hky
 have f1:a.eval x=.slice none 0 0:=by
  have h1:=opd_rd hE hx (.tmp 0)
  rw [hrx] at h1
  exact h1
 have hbuilt:∀ {r:Result Value},(Builtin.append_ #[t,t2] o.type #[.slice none 0 0,.slice bs2 ys.length cap2]).run P w=r→(execOp a.eval o).run P w=r.andThen fun v w'=>.ok (.value v) w':=by
  intro r hr
  rw [hb]
  simp [builtin,f1,e1,hr]
 by_cases h0:ys=[]
 ·subst h0
  have hu0:us=[]:=List.eq_nil_of_length_eq_zero (by simpa using us1)
  subst hu0
  have hrun:=run_app_none (P:=P) (w:=w) (ty:=o.type) ht ht2 hi none 0 0 (Nat.le_refl _) (us4 w rfl)
  have hr:=hbuilt hrun
  refine ⟨OpOk.pure (u:=.slice none 0 0) (by rw [hr];rfl) hI hE (fun r=>⟨RepD.nil,by simp,.inl rfl⟩),fun u w' h=>?_⟩
  rw [hr] at h
  rcases h with h | h<;>cases h
  exact fun _ _=>rfl
 ·have hpos:0 < ys.length:=List.length_pos_iff.mpr h0
  have hfc:(Builtin.firstCells i.size 0 (.slice none 0 0)).run P w.drew=.ok #[] w.drew:=by simp [Builtin.firstCells,loadCells,loadCellsFrom]
  have hrun:=run_app_grow (P:=P) (w:=w) (ty:=o.type) (z:=z) (bs:=none) (sLen:=0) (sCap:=0) (old:=#[]) ht ht2 hi hz ⟨bs2,cap2,rfl⟩ (by omega) (by omega) (by rw [Nat.zero_add];exact hc1) hb0 hfc (us4 w.drew rfl)
  have hge:=grownCap_ge w (0+ys.length) 0 e
  have hr:=hbuilt hrun
  refine ⟨?_,fun u w' h=>?_⟩
  ·refine OpOk.newRowDrew (rows:=ys) (arr:=#[] ++ us.toArray ++ Builtin.zeroCells z.cells (grownCap w (0+ys.length) 0 e - (0+ys.length))) (ty:=e) (cap:=grownCap w (0+ys.length) 0 e) hI hE ?_ hky ?_ (by omega) ?_
   ·rw [hr];simp
   ·intro i' row j d hi' hj
    obtain ⟨u,k1,k2⟩:=us3 i' row j d hi' hj
    refine ⟨u,?_,k2⟩
    have hlt:i' * i.size+j < us.length:=by
     have:=(Array.getElem?_eq_some_iff.mp k1).1
     simpa using this
    rw [Array.getElem?_append_left (by simpa using hlt)]
    simpa using k1
   ·have e0:0+ys.length=ys.length:=Nat.zero_add _
    rw [e0] at hge ⊢
    have e1:ys.length * i.size+(grownCap w ys.length 0 e - ys.length) * i.size=grownCap w ys.length 0 e * i.size:=by rw [← Nat.add_mul];congr 1;omega
    simp [us1,Builtin.zeroCells,hzs]
    omega
  ·rw [hr] at h
   rcases h with h | h
   ·cases h;exact fun b hb=>alloc_get (w:=w.drew) b hb
   ·cases h
end
section
variable {P:Program} {g g':G} {w w':World} {Pr:Nat→Prop} {s s':St} {a:Act} {F:Oracle} {bd:Bd}
theorem flatten_get {k:Nat}:∀ {rows:List (List D)},(∀ r ∈ rows,r.length=k)→rows.flatten.length=rows.length * k∧∀ (m:Nat) (d:D),rows.flatten[m]?=some d→∃ i row j,rows[i]?=some row∧row[j]?=some d∧m=i * k+j
 | [],_=>⟨by simp,fun m d h=>by simp at h⟩
 | r :: rs,h=>by
  have hr:r.length=k:=h r List.mem_cons_self
  obtain ⟨h1,h2⟩:=flatten_get (rows:=rs) (fun x hx=>h x (List.mem_cons_of_mem _ hx))
  refine ⟨by simp only [List.flatten_cons,List.length_append,h1,hr,List.length_cons,Nat.add_mul];omega,fun m d hm=>?_⟩
  simp only [List.flatten_cons] at hm
  by_cases hlt:m < r.length
  ·rw [List.getElem?_append_left hlt] at hm
   exact ⟨0,r,m,rfl,hm,by omega⟩
  ·rw [List.getElem?_append_right (by omega)] at hm
   obtain ⟨i,row,j,e1,e2,e3⟩:=h2 _ d hm
   exact ⟨i+1,row,j,by simpa using e1,e2,by rw [Nat.add_mul];omega⟩
theorem read_elems (hI:Inv g w Pr s.σ) (hE:EnvOk g w Pr s.env a) {y:Operand} {y':Opd} (hy:chkOpd y y'=true) {k n:Nat} {cs:List C} (hr:elems s.σ k (s.rd y')=some (n,cs)) :
  ∃ (bs:Option Addr) (cap:Nat) (us:List Value),a.eval y=.slice bs n cap∧us.length=n * k∧cs.length=n * k∧(∀ u ∈ us,u.oneCell'=true)∧RepArr g w Pr cs us.toArray ∧
   ∀ w':World,w'.heap=w.heap→(Builtin.firstCells k n (.slice bs n cap)).run P w'=.ok us.toArray w':=by
 have h1:=opd_rd hE hy (.tmp 0)
 unfold elems at hr
 split at hr
 ·rename_i rows hrd
  split at hr
  case isFalse=>cases hr
  rename_i hk
  cases hr
  have hk':∀ r ∈ rows,r.length=k:=by simpa using hk
  obtain ⟨bs,cap,us,e1,e2,e3,e4,e5⟩:=read_rows (P:=P) hI hE hy (k:=k) (ys:=rows) (by rw [hrd];rfl) hk'
  obtain ⟨f1,f2⟩:=flatten_get hk'
  refine ⟨bs,cap,us,e1,e2,by rw [List.length_map];exact f1,e3,⟨by rw [List.length_map,f1];simp [e2],fun i c hi=>?_⟩,e5⟩
  simp only [List.getElem?_map,Option.map_eq_some_iff] at hi
  obtain ⟨d,hd,rfl⟩:=hi
  obtain ⟨i',row,j,g1,g2,rfl⟩:=f2 i d hd
  obtain ⟨u,u1,u2⟩:=e4 i' row j d g1 g2
  exact ⟨u,u1,RepD.scalar u2,fun p=>u2⟩
 ·rename_i hrd
  cases hr
  rw [hrd] at h1
  exact ⟨none,0,[],h1,by simp,by simp,by simp,⟨by simp,fun i c hi=>by simp at hi⟩,fun w' _=>run_firstCells_none (P:=P) w' _ _ _ _⟩
 ·rename_i hrd
  cases hr
  rw [hrd] at h1
  obtain ⟨ad,cap,he⟩:=h1
  exact ⟨some ad,cap,[],he,by simp,by simp,by simp,⟨by simp,fun i c hi=>by simp at hi⟩,fun w' _=>by simp [Builtin.firstCells,loadCells,loadCellsFrom]⟩
 ·rename_i k' l off len hrd
  rw [hrd] at h1
  split at hr
  case h_2=>cases hr
  rename_i zs hzs
  split at hr
  case isFalse=>cases hr
  rename_i hc
  cases hr
  obtain ⟨rfl,hfit⟩:=hc
  obtain ⟨b,q,cap,arr,ty,hl,e1,e2,e3,e4⟩:=h1
  obtain ⟨b',q',arr',ty',h3,h4,h5,h6,h7⟩:=hI.ob _ _ (getCells_eq hzs)
  rw [hl] at h3
  cases h3
  rw [e3] at h5
  cases h5
  have hlen:(((zs.drop off).take (n * k')).map C.down).length=n * k':=by simp;omega
  have hget:∀ m,m < n * k'→∃ c u,zs[off+m]?=some c∧arr[q+off+m]?=some u∧u.oneCell'=true∧∀ p,RepC g w Pr p c.down u:=by
   intro m hm
   have hlt:off+m < zs.length:=by omega
   obtain ⟨u,u1,u2,u3⟩:=h7 (off+m) zs[off+m] (by simp [hlt])
   exact ⟨_,u,by simp [hlt],by rw [Nat.add_assoc];exact u1,u2,fun p=>RepC.down u3⟩
  refine ⟨_,cap,(List.range (n * k')).map fun m=>arr.getD (q+off+m) undef,e1,by simp,hlen,?_,⟨by simp [hlen];omega,fun i c hi=>?_⟩,fun w' hw'=>?_⟩
  ·intro u hu
   simp only [List.mem_map,List.mem_range] at hu
   obtain ⟨m,hm,rfl⟩:=hu
   obtain ⟨c,u,_,u1,u2,_⟩:=hget m hm
   simpa [Array.getD_eq_getD_getElem?,u1] using u2
  ·have hi0:=(List.getElem?_eq_some_iff.mp hi).1
   rw [hlen] at hi0
   obtain ⟨c',u,c1,u1,u2,u3⟩:=hget i hi0
   simp only [List.getElem?_map,List.getElem?_take,List.getElem?_drop,hi0,if_true,c1,Option.map_some,Option.some.injEq] at hi
   subst hi
   exact ⟨u,by simp [Array.getD_eq_getD_getElem?,u1,hi0],u2,u3⟩
  ·refine run_firstCells_some (P:=P) w' k' n ⟨b,q+off,none⟩ _ cap _ (by simp) (fun m v hm=>?_)
   simp only [List.getElem?_map,Option.map_eq_some_iff] at hm
   obtain ⟨m',hm',rfl⟩:=hm
   obtain ⟨rfl,hlt⟩:=range_get hm'
   obtain ⟨c,u,_,u1,u2,_⟩:=hget m hlt
   rw [addr_add]
   simp only [World.cell?,hw',e3]
   simp [Array.getD_eq_getD_getElem?,u1]
 ·cases hr
theorem Inv.kill {σ:List Ob} (hI:Inv g w Pr σ) (l:Nat):Inv g w Pr (σ.set l .dead) where
 len:=by simpa using hI.len
 ob l' x hx:=by
  rw [List.getElem?_set] at hx
  split at hx
  ·split at hx
   ·cases hx;trivial
   ·cases hx
  ·exact hI.ob l' x hx
 lt:=hI.lt
 pr:=hI.pr
 gl:=hI.gl
theorem OpOk.newCells {o:Oper} {k n cap:Nat} {cs:List C} {arr:Array Value} {ty:TypeId} {σ:List Ob} {w1:World} (hw1:w1=w∨w1=w.drew) (hr:(execOp a.eval o).run P w=.ok (.value (.slice (some ⟨w.heap.size,0,none⟩) n cap)) (w1.alloc (.cells arr ty)))
  (hI:Inv g w Pr σ) (hE:EnvOk g w Pr s.env a) (hcs:cs.length≤arr.size) (hrep:∀ (i:Nat) (c:C),cs[i]?=some c→∃ u,arr[i]?=some u∧u.oneCell'=true∧∀ p,RepC g w Pr p c u) (hn:n≤cap) (hcap:cap * k≤arr.size) :
  OpOk P o a g w Pr { s with σ:=σ ++ [.cells cs] } (.c (.b (.arr k σ.length 0 n))):=by
 have hheap:w1.heap=w.heap:=by rcases hw1 with rfl | rfl<;>rfl
 have e0:Ext g w g w1:=by rcases hw1 with rfl | rfl;exact Ext.refl _ _;exact Ext.heap rfl rfl rfl rfl
 have f0:Fr Pr g w g w1:=Fr.heap hheap
 have hI':Inv g w1 Pr (St.σ ⟨s.env,σ⟩):=by rcases hw1 with rfl | rfl;exact hI;exact hI.heap rfl rfl rfl rfl
 have hE':EnvOk g w1 Pr s.env a:=hE.ext e0 (fun _ _=>Keep.refl _ _)
 have hrep':∀ (i:Nat) (c:C),cs[i]?=some c→∃ u,arr[i]?=some u∧u.oneCell'=true∧∀ p,RepC g w1 Pr p c u:=by
  intro i c hi
  obtain ⟨u,u1,u2,u3⟩:=hrep i c hi
  exact ⟨u,u1,u2,fun p=>RepC.ext e0 (Keep.refl _ _) (u3 p)⟩
 have hinv:=new_cells (s:=⟨s.env,σ⟩) (ty:=ty) hI' hcs hrep'
 have hext:=newObj_ext (s:=⟨s.env,σ⟩) hI' (.cells arr ty) σ.length
 refine ⟨_,_,g.newObj w1 σ.length,fun _ b hb=>by rw [alloc_get (w:=w1) b (by rw [hheap];exact hb),hheap],.inl hr,e0.trans hext,f0.trans (newObj_fr (s:=⟨s.env,σ⟩) hI' _ _),hinv,hE'.ext hext (fun _ _=>newObj_keep (s:=⟨s.env,σ⟩) hI' _ _),fun d _=>?_⟩
 have hloc:=newObj_loc (s:=⟨s.env,σ⟩) hI'
 rw [hheap] at hloc
 exact ⟨w.heap.size,0,cap,arr,ty,hloc,rfl,hn,by rw [← hheap];exact alloc_new,by omega⟩
theorem ok_mks_arr (o:Oper) {t e:TypeId} {k bytes:Nat} {x y:Operand} {x' y':Opd} {zs:List C} {i:TypeInfo} {z:Value} {v:V} (ho:o.op=.makeSlice t x y) (hx:chkOpd x x'=true) (hy:chkOpd y y'=true)
  (hu:P.underlying t=some (.slice e)) (hi:P.info? e=some i) (hz:i.zero=some z) (hc:chkZero z zs=true) (hk:i.size=k) (hby:i.bytes=bytes)
  (hv:stepOp F bd s (.mks .arr k bytes zs x' y')=some (v,s')) (hI:Inv g w Pr s.σ) (hE:EnvOk g w Pr s.env a):OpOk P o a g w Pr s' v:=by
 have h1:=opd_rd hE hx (.tmp 0)
 have h2:=opd_rd hE hy (.tmp 0)
 subst hk
 subst hby
 simp only [stepOp] at hv
 split at hv
 case h_2=>cases hv
 rename_i n c hn hcc
 obtain ⟨k1,e1⟩:=intOf_ok h1 hn
 obtain ⟨k2,e2⟩:=intOf_ok h2 hcc
 split at hv
 case isFalse=>cases hv
 rename_i hcond
 obtain ⟨q1,q2,q3,q4,q5⟩:=hcond
 obtain ⟨n,rfl⟩:∃ m:Nat,n=m:=⟨n.toNat,by omega⟩
 obtain ⟨c,rfl⟩:∃ m:Nat,c=m:=⟨c.toNat,by omega⟩
 simp only [Int.toNat_natCast] at hv
 cases hv
 have hzs:z.cells.size=i.size:=by rw [(chkZero_ok (g:=g) (w:=w) (Pr:=Pr) hc).1,q5]
 have hrun:=run_mks (P:=P) (w:=w) (k1:=k1) (k2:=k2) hu hi hz hzs (n:=n) (c:=c) (by omega) (by omega) (by omega)
 have hz0:=rep_arr (g:=g) (w:=w) (Pr:=Pr) hc c
 rw [q5] at hz0
 have hle:n * i.size≤c * i.size:=Nat.mul_le_mul_right _ (by omega)
 refine OpOk.newCells (w1:=w) (.inl rfl) (arr:=(Array.range (c * i.size)).map (z.cells[· % z.cells.size]!)) (ty:=e) (cap:=c) ?_ hI hE (by rw [rep_length,q5];simpa using hle) ?_ (by omega) (by simp)
 ·simp only [execOp,ho,e1,e2,Sem.run_bind,hrun,Result.andThen_ok];rfl
 ·intro m cc hm
  have hlt:=(List.getElem?_eq_some_iff.mp hm).1
  rw [rep_length,q5] at hlt
  rw [rep_get (by rw [q5];exact hlt)] at hm
  have hlt2:m < c * zs.length:=by rw [q5];omega
  exact hz0.2 _ _ ((rep_get hlt2).trans hm)
end
section
variable {P:Program} {g g':G} {w w':World} {Pr:Nat→Prop} {s s':St} {a:Act} {F:Oracle} {bd:Bd}
theorem partsIn_length:∀ (ps:List (Nat × Nat × Opd)) (zs cs:List C),partsIn s ps zs=some cs→cs.length=zs.length
 | [],zs,cs,h=>by simp [partsIn] at h;subst h;rfl
 | (off,m,x) :: ps,zs,cs,h=>by
  simp only [partsIn] at h
  split at h
  case h_2=>cases h
  split at h
  case isFalse=>cases h
  split at h
  case h_2=>cases h
  rename_i hz
  rw [partsIn_length ps _ _ h,(putAt_get hz).1]
theorem ok_bsl_arr (o:Oper) {t e:TypeId} {n k:Nat} {ps:Array (Nat × Operand)} {ps':List (Nat × Opd)} {zs:List C} {i:TypeInfo} {z:Value} {v:V} (ho:o.op=.buildSlice t n ps)
  (hu:P.underlying t=some (.slice e)) (hi:P.info? e=some i) (hz:i.zero=some z) (hc:chkZero z zs=true) (hk:i.size=k) (hzk:zs.length=k) (hb:n * k≤16777216)
  (hps:chkParts (fun j=>some (j * k,k)) ps.toList (ps'.map fun p=>(p.1 * k,k,p.2))=true)
  (hv:stepOp F bd s (.bsl .arr k n zs ps')=some (v,s')) (hI:Inv g w Pr s.σ) (hE:EnvOk g w Pr s.env a):OpOk P o a g w Pr s' v:=by
 subst hk
 simp only [stepOp] at hv
 split at hv
 case h_2=>cases hv
 rename_i cs hcs
 cases hv
 have hz0:=rep_arr (g:=g) (w:=w) (Pr:=Pr) hc n
 rw [hzk] at hz0
 obtain ⟨arr,e1,e2⟩:=fill_ok hE hps hcs hz0
 have e1':Instr.fill (fun j=>some (j * i.size,i.size)) ((Array.range (n * i.size)).map (z.cells[· % z.cells.size]!)) (ps.map fun (j,x)=>(j,a.eval x)).toList=some arr:=by simpa using e1
 have hzs:z.cells.size=i.size:=by rw [(chkZero_ok (g:=g) (w:=w) (Pr:=Pr) hc).1,hzk]
 have hrun:=run_bsl (P:=P) (w:=w) hu hi hz hb hzs e1'
 have hcsl:arr.size=cs.length:=e2.1
 have hlen:cs.length=n * i.size:=by rw [partsIn_length _ _ _ hcs,rep_length,hzk]
 refine OpOk.newCells (w1:=w) (.inl rfl) (arr:=arr) (ty:=e) (cap:=n) ?_ hI hE (by omega) e2.2 (Nat.le_refl _) (by omega)
 simp only [execOp,ho,Sem.run_bind,hrun,Result.andThen_ok];rfl
def G.pass (g:G) (b o l:Nat):G:=(g.withKind b (.obj l)).withLoc (b,o)
theorem pass_ok (hI:Inv g w Pr s.σ) (hE:EnvOk g w Pr s.env a) {b q l o:Nat} (hl:g.loc[l]?=some (b,q)) (hk:g.kind b=.obj l) {old arr:Array Value} {ty:TypeId} (h:w.heap[b]?=some (.cells old ty (0,0))) (hs:arr.size=old.size) {cs:List C} (hfit:o+cs.length≤arr.size)
  (hc:∀ (i:Nat) (c:C),cs[i]?=some c→∃ u,arr[o+i]?=some u∧u.oneCell'=true∧∀ p,RepC g w Pr p c u) :
  Ext g w (g.pass b o s.σ.length) (w.setRow b arr)∧Fr Pr g w (g.pass b o s.σ.length) (w.setRow b arr)∧Inv (g.pass b o s.σ.length) (w.setRow b arr) Pr (s.σ.set l .dead ++ [.cells cs]) ∧
   EnvOk (g.pass b o s.σ.length) (w.setRow b arr) Pr s.env a∧(g.pass b o s.σ.length).loc[s.σ.length]?=some (b,o):=by
 have e0:=setRow_ext hI hk h hs
 have hloc:(g.pass b o s.σ.length).loc[s.σ.length]?=some (b,o):=by simp [G.pass,G.withLoc,G.withKind,← hI.len]
 have hext:Ext g w (g.pass b o s.σ.length) (w.setRow b arr):=by
  refine ⟨fun x v hx=>?_,fun l x h=>loc_old h,e0.size,e0.shape,rfl,rfl,rfl⟩
  have h2:=e0.st x v hx
  obtain ⟨h1,h2,h3⟩:=h2
  have hne:x.block≠b:=by
   intro e
   rw [e,hk] at h3
   rcases h3 with h3 | ⟨n,h3,_⟩<;>cases h3
  exact ⟨h1,h2,by simpa [G.pass,G.withKind,G.withLoc,hne] using h3⟩
 have hkeep:∀ p,Keep g (g.pass b o s.σ.length) p:=by
  intro p c n h1 h2
  have hne:c≠b:=by rintro rfl;rw [hk] at h2;cases h2
  exact ⟨h1,by simpa [G.pass,G.withKind,G.withLoc,hne] using h2⟩
 refine ⟨hext,?_,⟨?_,?_,?_,?_,hI.gl.mono hext.st⟩,hE.ext hext (fun _ _=>hkeep _),hloc⟩
 ·intro c hc'
  have hne:c≠b:=by rintro rfl;exact (hI.pr _ hc').2.1 l hk
  exact ⟨setRow_other _ _ hne,by simp [G.pass,G.withKind,G.withLoc,hne],rfl⟩
 ·simp [G.pass,G.withLoc,G.withKind,hI.len]
 ·intro l' x hx
  by_cases hlt:l' < s.σ.length
  ·rw [List.getElem?_append_left (by simpa using hlt),List.getElem?_set] at hx
   split at hx
   ·split at hx
    ·cases hx;trivial
    ·cases hx
   ·rename_i hne
    refine RepOb.frame hext (fun i=>hkeep _) ?_ (hI.ob l' x hx)
    intro c hc'
    have hcb:c≠b:=by rintro rfl;rw [hk] at hc';cases hc';exact hne rfl
    exact ⟨setRow_other _ _ hcb,by simpa [G.pass,G.withKind,G.withLoc,hcb] using hc'⟩
  ·rw [List.getElem?_append_right (by simpa using hlt)] at hx
   have:l'=s.σ.length:=by
    have:=(List.getElem?_eq_some_iff.mp hx).1
    simp at this;omega
   subst this
   simp at hx
   subst hx
   refine ⟨b,o,arr,ty,hloc,by simp [G.pass,G.withKind,G.withLoc],setRow_get _ _ h,hfit,fun i c hi=>?_⟩
   obtain ⟨u,k1,k2,k3⟩:=hc i c hi
   exact ⟨u,k1,k2,RepC.ext hext (hkeep _) (k3 _)⟩
 ·intro c hc'
  by_cases hcb:c=b
  ·subst hcb
   simpa [World.setRow] using (Array.getElem?_eq_some_iff.1 h).1
  ·simpa [World.setRow] using hI.lt c (by simpa [G.pass,G.withKind,G.withLoc,hcb] using hc')
 ·intro c hc'
  obtain ⟨h1,h2,h3⟩:=hI.pr c hc'
  have hcb:c≠b:=by rintro rfl;exact h2 l hk
  exact ⟨by simpa [World.setRow] using h1,by simpa [G.pass,G.withKind,G.withLoc,hcb] using h2,h3⟩
theorem ok_appa (o:Oper) {t t2 e e2:TypeId} {k bytes:Nat} {x y:Operand} {x' y':Opd} {i:TypeInfo} {z:Value} {v:V} (ho:o.op=.call { callee:=.builtin .append,args:=#[x,y],argTypes:=#[t,t2] })
  (hx:chkOpd x x'=true) (hy:chkOpd y y'=true) (ht:P.underlying t=some (.slice e)) (ht2:P.underlying t2=some (.slice e2)) (hi:P.info? e=some i) (hz:i.zero=some z) (hzs:z.cells.size=i.size)
  (hk:i.size=k) (hby:i.bytes=bytes) (hb0:i.bytes≠0)
  (hv:stepOp F bd s (.appa k bytes x' y')=some (v,s')) (hI:Inv g w Pr s.σ) (hE:EnvOk g w Pr s.env a):OpOk P o a g w Pr s' v:=by
 subst hk
 subst hby
 simp only [stepOp] at hv
 split at hv
 case h_2=>cases hv
 rename_i n ys hys
 obtain ⟨cc,hb⟩:=run_builtin (P:=P) (w:=w) (a:=a) ho
 have h1:=opd_rd hE hx (.tmp 0)
 obtain ⟨bs2,cap2,us,e1,us1,ys1,us2,us3,us4⟩:=read_elems (P:=P) hI hE hy hys
 split at hv
 ·
  rename_i hrd
  rw [hrd] at h1
  have f1:a.eval x=.slice none 0 0:=h1
  split at hv
  case isFalse=>cases hv
  rename_i hc
  split at hv
  ·rename_i h0
   subst h0
   cases hv
   have hu0:us=[]:=List.eq_nil_of_length_eq_zero (by simpa using us1)
   subst hu0
   have hrun:=run_app_none (P:=P) (w:=w) (ty:=o.type) ht ht2 hi none 0 0 (Nat.le_refl _) (us4 w rfl)
   refine OpOk.pure (u:=.slice none 0 0) ?_ hI hE (fun r=>rfl)
   rw [hb]
   simp [builtin,f1,e1,hrun]
  ·rename_i h0
   cases hv
   have hrun:=run_app_grow (P:=P) (w:=w) (ty:=o.type) (z:=z) (bs:=none) (sLen:=0) (sCap:=0) (old:=#[]) ht ht2 hi hz ⟨bs2,cap2,rfl⟩ (by omega) (by omega) (by simpa using hc.1) hb0 (run_firstCells_none (P:=P) _ _ _ _ _) (us4 w.drew rfl)
   have hge:=grownCap_ge w (0+n) 0 e
   simp only [Nat.zero_add] at hge hrun
   refine OpOk.newCells (w1:=w.drew) (.inr rfl) (arr:=#[] ++ us.toArray ++ Builtin.zeroCells z.cells (grownCap w n 0 e - n)) (ty:=e) (cap:=grownCap w n 0 e) ?_ hI hE (by simp only [Array.size_append,List.size_toArray,us1,ys1];omega) ?_ hge ?_
   ·rw [hb];simp [builtin,f1,e1,hrun]
   ·intro m c hm
    obtain ⟨u,u1,u2,u3⟩:=us3.2 m c hm
    have:=(Array.getElem?_eq_some_iff.mp u1).1
    exact ⟨u,by rw [Array.getElem?_append_left (by simpa using this)];simpa using u1,u2,u3⟩
   ·simp only [Array.size_append,List.size_toArray,size_zeroCells,hzs,us1,List.length_nil,Nat.zero_add,← Nat.add_mul]
    apply Nat.le_of_eq
    congr 1
    omega
 ·
  rename_i k' l off len hrd
  rw [hrd] at h1
  split at hv
  case h_2=>cases hv
  rename_i zs hzs'
  split at hv
  case isFalse=>cases hv
  rename_i hc
  obtain ⟨rfl,hlo,hfit,hc1,hc2⟩:=hc
  cases hv
  obtain ⟨b,q,cap,arr,ty,hl,f1,f2,f3,f4⟩:=h1
  obtain ⟨b',q',arr',ty',h3,h4,h5,h6,h7⟩:=hI.ob _ _ (getCells_eq hzs')
  rw [hl] at h3
  cases h3
  rw [f3] at h5
  cases h5
  have hel:elems s.σ i.size (s.rd x')=some (len,((zs.drop off).take (len * i.size)).map C.down):=by
   rw [hrd]
   simp only [elems,hzs',hfit,and_self,if_true]
  obtain ⟨bs1,cap1,vs,g1,vs1,zs1,vs2,vs3,vs4⟩:=read_elems (P:=P) hI hE hx hel
  rw [f1] at g1
  cases g1
  have hlen:(((zs.drop off).take (len * i.size)).map C.down ++ ys).length=(len+n) * i.size:=by rw [List.length_append,zs1,ys1,Nat.add_mul]
  have hbuilt:∀ {r:Result Value},(Builtin.append_ #[t,t2] o.type #[.slice (some ⟨b,q+off,none⟩) len cap,.slice bs2 n cap2]).run P w=r→(execOp a.eval o).run P w=r.andThen fun v w'=>.ok (.value v) w':=by
   intro r hr
   rw [hb]
   simp [builtin,f1,e1,hr]
  by_cases hroom:len+n≤cap
  ·have hm:len * i.size+n * i.size≤cap * i.size:=by rw [← Nat.add_mul];exact Nat.mul_le_mul_right _ hroom
   have hfit2:q+off+len * i.size+us.length≤arr.size:=by omega
   have hrun:=run_app_room (P:=P) (w:=w) (ty:=o.type) (b:=b) (o:=q+off) ht ht2 hi hroom f3 (us4 w rfl) us2 hfit2
   have hsz:(arr.toList.take (q+off+len * i.size) ++ us ++ arr.toList.drop (q+off+len * i.size+us.length)).toArray.size=arr.size:=by simp;omega
   have hp:=pass_ok (o:=q+off) (cs:=((zs.drop off).take (len * i.size)).map C.down ++ ys) (a:=a) hI hE hl h4 f3 hsz (by rw [hsz,hlen,Nat.add_mul];omega) ?_
   ·obtain ⟨x1,x2,x3,x4,x5⟩:=hp
    refine ⟨_,_,_,fun h=>(by rw [ho] at h;cases h),.inl (hbuilt hrun),x1,x2,x3,x4,fun d _=>?_⟩
    exact ⟨b,q+off,cap,_,ty,x5,by simp,hroom,setRow_get _ _ f3,by rw [hsz];omega⟩
   ·intro m c hm'
    by_cases hlt:m < len * i.size
    ·rw [List.getElem?_append_left (by rw [zs1];exact hlt)] at hm'
     obtain ⟨u,u1,u2,u3⟩:=vs3.2 m c hm'
     simp only [List.getElem?_map,List.getElem?_take,hlt,if_true,List.getElem?_drop,Option.map_eq_some_iff] at hm'
     obtain ⟨c0,hc0,rfl⟩:=hm'
     obtain ⟨u',k1,k2,k3⟩:=h7 _ _ hc0
     refine ⟨u',?_,k2,fun p=>RepC.down k3⟩
     simp only [List.getElem?_toArray]
     rw [List.append_assoc,List.getElem?_append_left (by simp;omega),List.getElem?_take,if_pos (by omega)]
     rw [Nat.add_assoc]
     simpa using k1
    ·rw [List.getElem?_append_right (by rw [zs1];omega),zs1] at hm'
     obtain ⟨u,u1,u2,u3⟩:=us3.2 _ c hm'
     refine ⟨u,?_,u2,u3⟩
     have h8:=(Array.getElem?_eq_some_iff.mp u1).1
     simp only [List.size_toArray] at h8
     have e1:(arr.toList.take (q+off+len * i.size)).length=q+off+len * i.size:=by simp;omega
     simp only [List.getElem?_toArray]
     rw [List.append_assoc,List.getElem?_append_right (by omega),List.getElem?_append_left (by omega),e1]
     rw [show q+off+m - (q+off+len * i.size)=m - len * i.size by omega]
     simpa using u1
  ·have hrun:=run_app_grow (P:=P) (w:=w) (ty:=o.type) (z:=z) (bs:=some ⟨b,q+off,none⟩) (sLen:=len) (sCap:=cap) ht ht2 hi hz ⟨bs2,cap2,rfl⟩ (by omega) (by omega) hc1 hb0 (vs4 w.drew rfl) (us4 w.drew rfl)
   have hge:=grownCap_ge w (len+n) cap e
   have:=OpOk.newCells (P:=P) (o:=o) (a:=a) (s:=s) (k:=i.size) (n:=len+n) (cs:=((zs.drop off).take (len * i.size)).map C.down ++ ys) (w1:=w.drew) (.inr rfl) (arr:=vs.toArray ++ us.toArray ++ Builtin.zeroCells z.cells (grownCap w (len+n) cap e - (len+n))) (ty:=e) (cap:=grownCap w (len+n) cap e) (by rw [hbuilt hrun];rfl) (hI.kill l) hE (by rw [hlen];simp only [Array.size_append,List.size_toArray,us1,vs1,Nat.add_mul];omega) ?_ hge ?_
   ·rw [List.length_set] at this
    exact this
   ·intro m c hm'
    by_cases hlt:m < len * i.size
    ·rw [List.getElem?_append_left (by rw [zs1];exact hlt)] at hm'
     obtain ⟨u,u1,u2,u3⟩:=vs3.2 m c hm'
     have h8:=(Array.getElem?_eq_some_iff.mp u1).1
     refine ⟨u,?_,u2,u3⟩
     rw [Array.append_assoc,Array.getElem?_append_left h8];exact u1
    ·rw [List.getElem?_append_right (by rw [zs1];omega),zs1] at hm'
     obtain ⟨u,u1,u2,u3⟩:=us3.2 _ c hm'
     have h8:=(Array.getElem?_eq_some_iff.mp u1).1
     refine ⟨u,?_,u2,u3⟩
     rw [Array.append_assoc,Array.getElem?_append_right (by simp [vs1];omega),Array.getElem?_append_left (by simp only [List.size_toArray,vs1] at h8 ⊢;omega)]
     simpa [vs1] using u1
   ·simp only [Array.size_append,List.size_toArray,size_zeroCells,hzs,us1,vs1,← Nat.add_mul]
    apply Nat.le_of_eq
    congr 1
    omega
 ·cases hv
theorem loads_ok (b:Addr):∀ (l:List Value) (i:Nat) (acc:Array Value),(∀ (j:Nat) (v:Value),l[j]?=some v→(load (b.add (i+j))).run P w=.ok v w)→(loadCellsFrom b i l.length acc).run P w=.ok (acc ++ l.toArray) w
 | [],i,acc,_=>by simp [loadCellsFrom]
 | v :: l,i,acc,h=>by
  have h0:=h 0 v rfl
  rw [Nat.add_zero] at h0
  unfold loadCellsFrom
  rw [List.length_cons,Sem.run_bind,h0]
  show (loadCellsFrom b (i+1) l.length (acc.push v)).run P w=_
  rw [loads_ok b l (i+1) (acc.push v) (fun j u hj=>by have:=h (j+1) u (by simpa using hj);rw [show i+1+j=i+(j+1) by omega];exact this)]
  simp
theorem first_fewer {k n m:Nat} {bs:Option Addr} {cap:Nat} {us:List Value} (h:(Builtin.firstCells k n (.slice bs n cap)).run P w=.ok us.toArray w) (hm:m≤n) (hl:us.length=n * k) :
  (Builtin.firstCells k m (.slice bs n cap)).run P w=.ok (us.take (m * k)).toArray w:=by
 have hmk:m * k≤n * k:=Nat.mul_le_mul_right _ hm
 cases bs with
 | none =>
  rw [run_firstCells_none] at h
  cases us with
  | nil=>simp [run_firstCells_none]
  | cons u us=>simp at h
 | some b =>
  simp only [Builtin.firstCells,loadCells] at h ⊢
  obtain ⟨l,h1,h2,h3⟩:=loadCellsFrom_ok b _ _ _ _ _ h
  have hus:us=l:=by simpa using h2
  subst hus
  have:=loads_ok (P:=P) (w:=w) b (us.take (m * k)) 0 #[] (fun j v hj=>h3 j v (by rw [List.getElem?_take] at hj;split at hj;exact hj;cases hj))
  rw [show (us.take (m * k)).length=m * k by simp;omega] at this
  simpa using this
theorem ok_cpy (o:Oper) {t t2 e:TypeId} {k:Nat} {x y:Operand} {x' y':Opd} {i:TypeInfo} {v:V} (ho:o.op=.call { callee:=.builtin .copy,args:=#[x,y],argTypes:=#[t,t2] })
  (hx:chkOpd x x'=true) (hy:chkOpd y y'=true) (ht:P.underlying t=some (.slice e)) (hi:P.info? e=some i) (hk:i.size=k)
  (hv:stepOp F bd s (.cpy k x' y')=some (v,s')) (hI:Inv g w Pr s.σ) (hE:EnvOk g w Pr s.env a):OpOk P o a g w Pr s' v:=by
 subst hk
 simp only [stepOp] at hv
 split at hv
 case h_2=>cases hv
 rename_i n ys hys
 obtain ⟨cc,hb⟩:=run_builtin (P:=P) (w:=w) (a:=a) ho
 have h1:=opd_rd hE hx (.tmp 0)
 obtain ⟨bs2,cap2,us,e1,us1,ys1,us2,us3,us4⟩:=read_elems (P:=P) hI hE hy hys
 split at hv
 case h_2=>cases hv
 rename_i k' l off len hrd
 rw [hrd] at h1
 split at hv
 case h_2=>cases hv
 rename_i zs hzs'
 split at hv
 case h_2=>cases hv
 rename_i zs2 hput
 split at hv
 case isFalse=>cases hv
 rename_i hc
 obtain ⟨rfl,hw⟩:=hc
 cases hv
 obtain ⟨b,q,cap,arr,ty,hl,f1,f2,f3,f4⟩:=h1
 obtain ⟨b',q',arr',ty',h3,h4,h5,h6,h7⟩:=hI.ob _ _ (getCells_eq hzs')
 rw [hl] at h3
 cases h3
 rw [f3] at h5
 cases h5
 obtain ⟨p1,p2,p3⟩:=putAt_get hput
 have hmn:min n len * i.size≤n * i.size:=Nat.mul_le_mul_right _ (Nat.min_le_left _ _)
 have htl:(ys.take (min n len * i.size)).length=min n len * i.size:=by simp;omega
 have hul:(us.take (min n len * i.size)).length=min n len * i.size:=by simp;omega
 rw [htl] at p2 p3
 have hfirst:(Builtin.firstCells i.size (min n len) (.slice bs2 n cap2)).run P w=.ok (us.take (min n len * i.size)).toArray w:=first_fewer (us4 w rfl) (Nat.min_le_left _ _) us1
 have hst:=run_storeCells_at (P:=P) b (q+off) ty (us.take (min n len * i.size)) 0 arr w f3 (by rw [hul];omega) (fun u hu=>us2 u (List.mem_of_mem_take hu))
 simp only [Nat.add_zero,hul] at hst
 have hsz:(arr.toList.take (q+off) ++ us.take (min n len * i.size) ++ arr.toList.drop (q+off+min n len * i.size)).toArray.size=arr.size:=by simp;omega
 have hext:=setRow_ext hI h4 f3 hsz
 refine ⟨.int .i64 (min n len:Nat),_,g,fun h=>(by rw [ho] at h;cases h),.inl ?_,hext,setRow_fr hI h4 _,setRow_inv hI h4 f3 hsz ?_,hE.ext hext (fun _ _=>Keep.refl _ _),fun d _=>RepD.int _ _⟩
 ·rw [hb]
  simp [builtin,f1,e1,Builtin.copy_,run_underlying ht,Builtin.lenOf,sizeOf,typeInfo,hi,hfirst,hst,goInt]
 ·refine ⟨b,q,_,ty,hl,h4,setRow_get _ _ f3,by rw [hsz,p1];exact h6,fun m c hm=>?_⟩
  have hq:(arr.toList.take (q+off)).length=q+off:=by simp;omega
  rcases p3 m c hm with ⟨r1,r2⟩ | ⟨r1,r2⟩
  ·have h8:=(List.getElem?_eq_some_iff.mp r2).1
   rw [htl] at h8
   rw [List.getElem?_take,if_pos h8] at r2
   obtain ⟨u,u1,u2,u3⟩:=us3.2 _ c r2
   refine ⟨u,?_,u2,RepC.ext hext (Keep.refl _ _) (u3 _)⟩
   simp only [List.getElem?_toArray]
   rw [List.append_assoc,List.getElem?_append_right (by omega),List.getElem?_append_left (by omega),hq,List.getElem?_take,if_pos (by omega)]
   rw [show q+m - (q+off)=m - off by omega]
   simpa using u1
  ·obtain ⟨u,k1,k2,k3⟩:=h7 m c r2
   refine ⟨u,?_,k2,RepC.ext hext (Keep.refl _ _) k3⟩
   simp only [List.getElem?_toArray]
   rcases r1 with r1 | r1
   ·rw [List.append_assoc,List.getElem?_append_left (by omega),List.getElem?_take,if_pos (by omega)]
    simpa using k1
   ·rw [List.append_assoc,List.getElem?_append_right (by omega),List.getElem?_append_right (by omega),List.getElem?_drop,hq,hul]
    rw [show q+off+min n len * i.size+(q+m - (q+off) - min n len * i.size)=q+m by omega]
    simpa using k1
theorem ok_clr (o:Oper) {t e:TypeId} {k:Nat} {zs:List C} {x:Operand} {x':Opd} {i:TypeInfo} {z:Value} {v:V} (ho:o.op=.call { callee:=.builtin .clear,args:=#[x],argTypes:=#[t] })
  (hx:chkOpd x x'=true) (ht:P.underlying t=some (.slice e)) (hi:P.info? e=some i) (hz:i.zero=some z) (hzc:chkZero z zs=true)
  (hv:stepOp F bd s (.clr k zs x')=some (v,s')) (hI:Inv g w Pr s.σ) (hE:EnvOk g w Pr s.env a):OpOk P o a g w Pr s' v:=by
 simp only [stepOp] at hv
 obtain ⟨cc,hb⟩:=run_builtin (P:=P) (w:=w) (a:=a) ho
 have h1:=opd_rd hE hx (.tmp 0)
 split at hv
 case h_2=>cases hv
 rename_i k' l off len hrd
 rw [hrd] at h1
 split at hv
 case h_2=>cases hv
 rename_i cs hzs'
 split at hv
 case h_2=>cases hv
 rename_i cs2 hput
 split at hv
 case isFalse=>cases hv
 rename_i hc
 obtain ⟨rfl,hw,hkz,hlen⟩:=hc
 cases hv
 obtain ⟨n,rfl⟩:∃ n,len=n+1:=⟨len - 1,by omega⟩
 obtain ⟨b,q,cap,arr,ty,hl,f1,f2,f3,f4⟩:=h1
 obtain ⟨b',q',arr',ty',h3,h4,h5,h6,h7⟩:=hI.ob _ _ (getCells_eq hzs')
 rw [hl] at h3
 cases h3
 rw [f3] at h5
 cases h5
 obtain ⟨p1,p2,p3⟩:=putAt_get hput
 rw [rep_length] at p2 p3
 have hz0:=chkZero_ok (g:=g) (w:=w) (Pr:=Pr) hzc
 have hzr:RepArr g w Pr (rep (n+1) zs) (Builtin.zeroCells z.cells (n+1)):=by
  have:=rep_arr (g:=g) (w:=w) (Pr:=Pr) hzc (n+1)
  unfold Builtin.zeroCells
  rw [hz0.1]
  simpa [hz0.1] using this
 have hul:(Builtin.zeroCells z.cells (n+1)).toList.length=(n+1) * zs.length:=by simp [Builtin.zeroCells,hz0.1]
 have hst:=run_storeCells_at (P:=P) b (q+off) ty (Builtin.zeroCells z.cells (n+1)).toList 0 arr w f3 (by rw [hul];omega) (fun u hu=>by
  obtain ⟨m,hm,rfl⟩:=List.mem_iff_getElem.mp hu
  have hm2:m < (rep (n+1) zs).length:=by rw [rep_length,← hul];exact hm
  obtain ⟨u,u1,u2,_⟩:=hzr.2 m _ (List.getElem?_eq_getElem hm2)
  have:(Builtin.zeroCells z.cells (n+1)).toList[m]=u:=by
   have h9:(Builtin.zeroCells z.cells (n+1)).toList[m]?=some u:=by simpa using u1
   exact Option.some.inj ((List.getElem?_eq_getElem hm).symm.trans h9)
  rw [this];exact u2)
 simp only [Nat.add_zero,hul] at hst
 generalize hus:(Builtin.zeroCells z.cells (n+1)).toList=us at *
 have hsz:(arr.toList.take (q+off) ++ us ++ arr.toList.drop (q+off+(n+1) * zs.length)).toArray.size=arr.size:=by simp;omega
 have hext:=setRow_ext hI h4 f3 hsz
 refine ⟨.tuple #[],_,g,fun h=>(by rw [ho] at h;cases h),.inl ?_,hext,setRow_fr hI h4 _,setRow_inv hI h4 f3 hsz ?_,hE.ext hext (fun _ _=>Keep.refl _ _),fun d _=>⟨#[],rfl,by simp⟩⟩
 ·rw [hb]
  simp [builtin,f1,Builtin.clear_,run_underlying ht,zeroValue,typeInfo,hi,hz,hus,hst]
 ·refine ⟨b,q,_,ty,hl,h4,setRow_get _ _ f3,by rw [hsz,p1];exact h6,fun m c hm=>?_⟩
  have hq:(arr.toList.take (q+off)).length=q+off:=by simp;omega
  rcases p3 m c hm with ⟨r1,r2⟩ | ⟨r1,r2⟩
  ·have h8:=(List.getElem?_eq_some_iff.mp r2).1
   rw [rep_length] at h8
   obtain ⟨u,u1,u2,u3⟩:=hzr.2 _ c r2
   refine ⟨u,?_,u2,RepC.ext hext (Keep.refl _ _) (u3 _)⟩
   simp only [List.getElem?_toArray]
   rw [List.append_assoc,List.getElem?_append_right (by omega),List.getElem?_append_left (by omega),hq]
   rw [show q+m - (q+off)=m - off by omega]
   rw [← hus]
   simpa using u1
  ·obtain ⟨u,k1,k2,k3⟩:=h7 m c r2
   refine ⟨u,?_,k2,RepC.ext hext (Keep.refl _ _) k3⟩
   simp only [List.getElem?_toArray]
   rcases r1 with r1 | r1
   ·rw [List.append_assoc,List.getElem?_append_left (by omega),List.getElem?_take,if_pos (by omega)]
    simpa using k1
   ·rw [List.append_assoc,List.getElem?_append_right (by omega),List.getElem?_append_right (by omega),List.getElem?_drop,hq,hul]
    rw [show q+off+(n+1) * zs.length+(q+m - (q+off) - (n+1) * zs.length)=q+m by omega]
    simpa using k1
theorem ok_mm (o:Oper) {mx:Bool} {ts:Array TypeId} {x y:Operand} {x' y':Opd} {v:V} (ho:o.op=.call { callee:=.builtin (bif mx then .max else .min),args:=#[x,y],argTypes:=ts })
  (hx:chkOpd x x'=true) (hy:chkOpd y y'=true)
  (hv:stepOp F bd s (.mm mx x' y')=some (v,s')) (hI:Inv g w Pr s.σ) (hE:EnvOk g w Pr s.env a):OpOk P o a g w Pr s' v:=by
 have h1:=opd_rd hE hx (.tmp 0)
 have h2:=opd_rd hE hy (.tmp 0)
 obtain ⟨cc,hb⟩:=run_builtin (P:=P) (w:=w) (a:=a) ho
 simp only [stepOp] at hv
 split at hv
 case h_2=>cases hv
 rename_i k p k' q hr1 hr2
 split at hv
 case isFalse=>cases hv
 subst_vars
 cases hv
 rw [hr1] at h1
 rw [hr2] at h2
 have e1:=rep_int h1
 have e2:=rep_int h2
 refine OpOk.pure (u:=.int k' (bif mx then (if q > p then q else p) else (if q < p then q else p))) ?_ hI hE (fun r=>RepD.int _ _)
 rw [hb]
 cases mx<;>simp [builtin,e1,e2,Builtin.max_,Builtin.min_,Builtin.max2,Builtin.min2]
end
end Go.Proofs.YteeofkbhopioiaaGreatDoor.Am
