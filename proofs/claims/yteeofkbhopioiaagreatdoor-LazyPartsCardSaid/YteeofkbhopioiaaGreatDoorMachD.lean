/- Lemmas that the rows' proofs rest on; each states its own conditions. -/
import Derived.Test.YteeofkbhopioiaaGreatDoorMachC
import Derived.RangeFuncNested
import Derived.RangeFuncLeaves
import Derived.LoopNIn
import Derived.OrdersIn
import Derived.TacticsIn
set_option linter.unusedSimpArgs false
set_option linter.unusedVariables false
set_option linter.unusedSectionVars false
namespace Go.Proofs.YteeofkbhopioiaaGreatDoor.Am
open Go
def Wd (r:Option Nat):Fence:={ Fence.wide with round:=r }
def noDefer (o:Oper):Bool:=match o.op with
 | .defer _=>false
 | _=>true
section
variable {P:Program} {r:Option Nat} {n:Nat} {ops:Array Oper} {Q:Exit→Act→World→Prop}
theorem wd_in {l:Nat}:(Wd r).inRound l=Wd (some l):=rfl
theorem wd_calls {f:FuncId} {args:Array Value} {w:World} {R:Ending→World→Prop}:CallsIn (Wd r) n P f args w R↔Calls P f args w R:=callsIn_wide (n:=n)
theorem wd_rows {row:String} {args:Array Value} {w:World} {R:Value→World→Prop} (h:Go.Rows P row args w R):Go.RowsIn (Wd r) n P row args w R :=
 fun c cs _=>let ⟨v,w',q,s⟩:=h c cs;⟨v,w',q,stepsIn_wide.2 s⟩
theorem oper_in {o:Oper} (hd:noDefer o=true) {a:Act} {w:World} {next:Act→World→Prop} (h:o.wp P a w next Q):o.wpIn (Wd r) n P a w next Q:=by
 refine ⟨fun _ _=>trivial,?_⟩
 have hs:o.semAt (Wd r).round a.eval=execOp a.eval o:=by
  cases r with
  | none=>rfl
  | some l=>exact Oper.semAt_some l _ _ (fun c hc=>by simp [noDefer,hc] at hd)
 rw [hs]
 unfold Oper.wp at h
 generalize (execOp a.eval o).run P w=res at h ⊢
 have h1:(Wd r).depth.isSome=true→1≤n:=fun h=>by cases h
 cases res with
 | ok x w' =>
  cases x with
  | value v=>exact h
  | skip=>exact h
  | defer d=>exact h
  | enter f args=>exact ⟨h1,wd_calls.2 h⟩
  | row row args=>exact ⟨h1,wd_rows h⟩
  | _=>exact h.elim
 | halt x w'=>cases x<;>exact h
theorem op_in {i:Nat} (hd:∀ o,ops[i]?=some o→noDefer o=true) (hq:¬ LetsOut Q) {K K':Act→World→Prop} (hK:∀ a w,K a w→K' a w) {a:Act} {w:World} (h:wpOp P ops Q i K a w):wpOpIn (Wd r) n P ops Q i K' a w:=by
 unfold wpOp at h
 unfold wpOpIn
 split
 ·rename_i ho;rw [ho] at h;exact hK _ _ h
 ·rename_i o ho
  rw [ho] at h
  simp only at h
  split
  ·rename_i hw
   rw [if_pos hw] at h
   rcases h with h | ⟨_,h⟩
   ·exact Oper.wpIn_mono hK (oper_in (hd o ho) h)
   ·exact absurd h hq
  ·rename_i hw
   rw [if_neg hw] at h
   exact ⟨fun _ _=>trivial,hK _ _ h⟩
theorem ops_in (hd:∀ o ∈ ops,noDefer o=true) (hq:¬ LetsOut Q):∀ (l:List Nat) (a:Act) (w:World),wpOps P ops Q l a w→wpOpsIn (Wd r) n P ops Q l a w
 | [],a,w,h=>h
 | i :: l,a,w,h=>by
  rw [wpOps_cons] at h
  rw [wpOpsIn_cons]
  exact op_in (fun o ho=>hd o (Array.mem_of_getElem? ho)) hq (fun a w=>ops_in hd hq l a w) h
theorem any_in (hd:∀ o ∈ ops,noDefer o=true) (hq:¬ LetsOut Q) {md:Region.Mode}:∀ (fuel:Nat) (listed:Array Bool) (a:Act) (w:World),wpAny P md ops Q fuel listed a w→wpAnyIn (Wd r) n P md ops Q fuel listed a w
 | 0,listed,a,w,h=>h
 | fuel+1,listed,a,w,h=>⟨h.1,fun i hi=>op_in (fun o ho=>hd o (Array.mem_of_getElem? ho)) hq (fun a w=>any_in hd hq fuel _ a w) (h.2 i hi)⟩
theorem region_in {id:Nat} (hd:∀ o ∈ ops,noDefer o=true) (hq:¬ LetsOut Q) {a:Act} {w:World} (h:wpOps P ops Q (List.range ops.size) a w):(Code.region id ops false).wpIn (Wd r) n P Q a w :=
 wpIn_region (ops_in hd hq _ _ _ h)
theorem region_any_in {id:Nat} (hm:P.follows .mixedOrders=true) (hd:∀ o ∈ ops,noDefer o=true) (hq:¬ LetsOut Q) {a:Act} {w:World} (h:wpAny P .any ops Q ops.size (Array.replicate ops.size false) a { w with drawn:=w.drawn+1 }):(Code.region id ops true).wpIn (Wd r) n P Q a w :=
 wpIn_region_any hm (any_in hd hq _ _ _ _ h)
end
def AExit.out:AExit→Exit
 | .normal=>.normal
 | .exit i=>.exit i
 | .ret=>.ret
structure InvA (N:Nat) (ds:List Deferred) (g:G) (w:World) (Pr:Nat→Prop) (s:St) (a:Act):Prop where
 inv:Inv g w Pr s.σ
 env:EnvOk g w Pr s.env a
 size:a.tmps.size=N
 defers:a.defers=ds
def Behind (N:Nat) (ds:List Deferred) (g:G) (w:World) (Pr:Nat→Prop) (s':St) (a':Act) (w':World):Prop:=∃ g',Ext g w g' w'∧Fr Pr g w g' w'∧InvA N ds g' w' Pr s' a'
def chkIns (P:Program) (N:Nat) (ops:Array Oper) (o:Oper) (i:AIns):Bool :=
 o.dst == i.dst && (match o.dst with | some d=>decide (d < N) | none=>true) && chkOp P o i.op &&
 (match o.guard,i.guard with
  | none,none=>true
  | some (j,want),some (t,want')=>want == want' && ((ops[j]?).bind (·.dst)) == some t && decide (t < N)
  | _,_=>false)
section
variable {P:Program} {N:Nat} {ds:List Deferred} {g g':G} {w w':World} {Pr:Nat→Prop} {s s':St} {a a':Act} {F:Oracle} {bd:Bd}
theorem Behind.refl (h:InvA N ds g w Pr s a):Behind N ds g w Pr s a w:=⟨g,.refl _ _,.refl _ _ _,h⟩
theorem Behind.trans {g1:G} {w1:World} {s2:St} {a2:Act} {w2:World} (h1:Ext g w g1 w1) (h2:Fr Pr g w g1 w1) (h:Behind N ds g1 w1 Pr s2 a2 w2):Behind N ds g w Pr s2 a2 w2:=by
 obtain ⟨g2,e1,e2,e3⟩:=h
 exact ⟨g2,h1.trans e1,h2.trans e2,e3⟩
theorem put_size (a:Act) (d:Option Tmp) (v:Value):(a.put d v).tmps.size=a.tmps.size:=by cases d<;>simp [Act.put]
theorem put_defers (a:Act) (d:Option Tmp) (v:Value):(a.put d v).defers=a.defers:=by cases d<;>simp [Act.put]
theorem put_get (a:Act) (d:Nat) (v:Value) (h:d < a.tmps.size) (t:Nat):(a.put (some d) v).tmps.getD t undef=if t=d then v else a.tmps.getD t undef:=by
 simp only [Act.put,Array.getD_eq_getD_getElem?]
 by_cases e:t=d
 ·subst e;simp [h]
 ·rw [if_neg e,Array.getElem?_setIfInBounds_ne (fun x=>e x.symm)]
theorem set_env {d:Option Tmp} {v:V} {u:Value} (hE:EnvOk g w Pr s.env a) (hd:∀ x,d=some x→x < a.tmps.size∧RepV g w Pr (.tmp x) v u):EnvOk g w Pr (s.set d v).env (a.put d u):=by
 cases d with
 | none=>exact hE
 | some x =>
  obtain ⟨h1,h2⟩:=hd x rfl
  intro t
  simp only [St.set]
  rw [env_get_cons,put_get a x u h1]
  by_cases e:x=t
  ·subst e;simp only [if_true];exact h2
  ·rw [if_neg e,if_neg (fun h=>e h.symm)];exact hE t
theorem post_behind {o:Oper} {v:V} (hA:InvA N ds g w Pr s a) (hd:∀ d,o.dst=some d→d < N) (h:Post o a g w Pr s' v a' w'):Behind N ds g w Pr (s'.set o.dst v) a' w':=by
 obtain ⟨g',u,rfl,q,x1,x2,x3,x4,x5⟩:=h
 refine ⟨g',x1,x2,⟨?_,?_,?_,?_⟩⟩
 ·cases hdst:o.dst<;>exact x3
 ·exact set_env x4 (fun d hd'=>⟨by rw [hA.size];exact hd d hd',x5 d hd'⟩)
 ·rw [put_size];exact hA.size
 ·rw [put_defers];exact hA.defers
theorem skip_behind {d:Option Tmp} (hA:InvA N ds g w Pr s a) (hd:∀ x,d=some x→x < N):InvA N ds g w Pr (s.set d (.tup [])) (a.put d undef):=by
 refine ⟨?_,set_env hA.env (fun x hx=>⟨by rw [hA.size];exact hd x hx,⟨#[],rfl,by simp⟩⟩),by rw [put_size];exact hA.size,by rw [put_defers];exact hA.defers⟩
 cases d<;>exact hA.inv
theorem ins_okP (hS:Sound P F) (hen:∀ f args σ lo tr r,F f args σ lo tr=some r→entered P (fnOf f)=true) {ops:Array Oper} {o:Oper} {i:AIns} (hc:chkIns P N ops o i=true)
  (hv:stepIns F bd s i=some s') (hA:InvA N ds g w Pr s a) (Q:Exit→Act→World→Prop) :
  if Region.wanted o (yielded ops a.tmps) then o.wp P a w (fun a' w'=>Behind N ds g w Pr s' a' w'∧∃ u,a'=a.put o.dst u) Q else Behind N ds g w Pr s' (a.put o.dst undef) w:=by
 simp only [chkIns,Bool.and_eq_true,beq_iff_eq] at hc
 obtain ⟨⟨⟨h1,h2⟩,h3⟩,h4⟩:=hc
 have hd:∀ d,o.dst=some d→d < N:=by
  intro d hd
  rw [hd] at h2
  exact of_decide_eq_true h2
 have hgo:∀ {v:V} {s1:St},stepOp F bd s i.op=some (v,s1)→s'=s1.set i.dst v→o.wp P a w (fun a' w'=>Behind N ds g w Pr s' a' w'∧∃ u,a'=a.put o.dst u) Q:=by
  intro v s1 hst he
  refine Oper.wp_mono ?_ (op_ok hS hen h3 hst hA.inv hA.env Q)
  intro a' w' hp
  refine ⟨?_,?_⟩
  ·rw [he,← h1]
   exact post_behind hA hd hp
  ·obtain ⟨_,u,e,_⟩:=hp;exact ⟨u,e⟩
 unfold stepIns at hv
 split at hv
 ·rename_i hg
  rw [hg] at h4
  have hog:o.guard=none:=by
   cases ho:o.guard with
   | none=>rfl
   | some p=>rw [ho] at h4;simp at h4
  simp only [Region.wanted,hog,if_true]
  split at hv
  ·rename_i v s1 hst
   cases hv
   exact hgo hst rfl
  ·cases hv
 ·rename_i t want hg
  rw [hg] at h4
  cases ho:o.guard with
  | none=>rw [ho] at h4;simp at h4
  | some p =>
   obtain ⟨j,want'⟩:=p
   rw [ho] at h4
   simp only [Bool.and_eq_true,beq_iff_eq,decide_eq_true_eq] at h4
   obtain ⟨⟨rfl,h5⟩,h6⟩:=h4
   split at hv
   case h_3=>cases hv
   case h_2 =>
    rename_i vs hb
    cases hv
    have he:=hA.env t
    rw [hb] at he
    obtain ⟨arr,he,_⟩:=he
    have ht:t < a.tmps.size:=by rw [hA.size];exact h6
    have hy:yielded ops a.tmps j=none:=by
     simp only [yielded,h5,Option.bind_some]
     simp [Array.getD_eq_getD_getElem?,ht] at he
     simp [ht,he]
    have hne2:∀ b:Bool,((none:Option Bool) == some b)=false:=fun _=>rfl
    simp only [Region.wanted,ho,hy,hne2,Bool.false_eq_true,if_false]
    rw [← h1]
    exact Behind.refl (skip_behind hA hd)
   rename_i b hb
   have he:=hA.env t
   rw [hb] at he
   have hbool:=rep_bool he
   have hy:yielded ops a.tmps j=some b:=by
    have ht:t < a.tmps.size:=by rw [hA.size];exact h6
    simp only [yielded,h5,Option.bind_some]
    simp [Array.getD_eq_getD_getElem?,ht] at hbool
    simp [ht,hbool]
   simp only [Region.wanted,ho,hy]
   by_cases hw:b=want'
   ·subst hw
    simp only [BEq.rfl,cond_true,if_true] at hv ⊢
    split at hv
    ·rename_i v s1 hst
     cases hv
     exact hgo hst rfl
    ·cases hv
   ·have hne:(b == want')=false:=by simpa using hw
    have hne2:((some b:Option Bool) == some want')=false:=by simpa using hw
    simp only [hne,cond_false,hne2,Bool.false_eq_true,if_false] at hv ⊢
    cases hv
    rw [← h1]
    exact Behind.refl (skip_behind hA hd)
theorem ins_ok (hS:Sound P F) (hen:∀ f args σ lo tr r,F f args σ lo tr=some r→entered P (fnOf f)=true) {ops:Array Oper} {o:Oper} {i:AIns} (hc:chkIns P N ops o i=true)
  (hv:stepIns F bd s i=some s') (hA:InvA N ds g w Pr s a) (Q:Exit→Act→World→Prop) :
  if Region.wanted o (yielded ops a.tmps) then o.wp P a w (Behind N ds g w Pr s') Q else Behind N ds g w Pr s' (a.put o.dst undef) w:=by
 have:=ins_okP hS hen hc hv hA Q
 split
 ·rename_i h;rw [if_pos h] at this;exact Oper.wp_mono (fun _ _ h=>h.1) this
 ·rename_i h;rw [if_neg h] at this;exact this
def chkAll (P:Program) (N:Nat) (ops:Array Oper):List Oper→List AIns→Bool
 | [],[]=>true
 | o :: os,i :: is=>chkIns P N ops o i && chkAll P N ops os is
 | _,_=>false
theorem all_ok (hS:Sound P F) (hen:∀ f args σ lo tr r,F f args σ lo tr=some r→entered P (fnOf f)=true) {ops:Array Oper} {Q:Exit→Act→World→Prop} :
  ∀ (os:List Oper) (is:List AIns) (k:Nat) (s s':St) (g:G) (a:Act) (w:World),chkAll P N ops os is=true→(∀ j,os[j]?=ops[k+j]?)→stepAll F bd s is=some s'→InvA N ds g w Pr s a →
   (∀ a' w',Behind N ds g w Pr s' a' w'→Q .normal a' w')→wpOps P ops Q (List.range' k os.length) a w
 | [],is,k,s,s',g,a,w,hc,hk,hv,hA,hQ=>by
  cases is with
  | nil =>
   simp only [stepAll,Option.some.injEq] at hv
   subst hv
   exact hQ _ _ (Behind.refl hA)
  | cons i is=>simp [chkAll] at hc
 | o :: os,is,k,s,s',g,a,w,hc,hk,hv,hA,hQ=>by
  cases is with
  | nil=>simp [chkAll] at hc
  | cons i is =>
   simp only [chkAll,Bool.and_eq_true] at hc
   simp only [stepAll] at hv
   split at hv
   case h_2=>cases hv
   rename_i s1 hs1
   have ho:ops[k]?=some o:=by have:=hk 0;simpa using this.symm
   have hins:=ins_ok hS hen hc.1 hs1 hA Q
   have hrest:∀ a1 w1,Behind N ds g w Pr s1 a1 w1→wpOps P ops Q (List.range' (k+1) os.length) a1 w1:=by
    intro a1 w1 ⟨g1,e1,e2,e3⟩
    refine all_ok hS hen os is (k+1) s1 s' g1 a1 w1 hc.2 (fun j=>?_) hv e3 (fun a2 w2 h2=>hQ _ _ (Behind.trans e1 e2 h2))
    have:=hk (j+1)
    simpa [Nat.add_assoc,Nat.add_comm 1 j] using this
   rw [List.length_cons,List.range'_succ,wpOps_cons]
   simp only [wpOp,ho]
   split at hins
   ·rename_i hw;simp only [hw,if_true];exact .inl (Oper.wp_mono hrest hins)
   ·rename_i hw;simp only [hw];exact hrest _ _ hins
theorem keep_get:∀ (ts:List Nat) (e:Env) (n:Nat),(e.keep ts).get n=e.get n∨(e.keep ts).get n=.c (.b .any)
 | [],e,n=>.inr rfl
 | t :: ts,e,n=>by
  simp only [Env.keep]
  rw [env_get_cons]
  split
  ·subst_vars;exact .inl rfl
  ·exact keep_get ts e n
theorem keep_ok {ts:List Nat} (hA:InvA N ds g w Pr s a):InvA N ds g w Pr { s with env:=s.env.keep ts } a:=by
 refine ⟨hA.inv,fun t=>?_,hA.size,hA.defers⟩
 rcases keep_get ts s.env t with h | h
 ·rw [h];exact hA.env t
 ·rw [h];trivial
theorem range_eq (n:Nat):List.range n=List.range' 0 n:=List.range_eq_range'
theorem region_ok {r:Option Nat} {k:Nat} (hS:Sound P F) (hen:∀ f args σ lo tr r,F f args σ lo tr=some r→entered P (fnOf f)=true) {id:Nat} {ops:Array Oper} {is:List AIns} {keep:List Nat}
  (hnd:∀ o ∈ ops,noDefer o=true) (hc:chkAll P N ops ops.toList is=true) (hv:stepAll F bd s is=some s') (hA:InvA N ds g w Pr s a) :
  (Code.region id ops false).wpIn (Wd r) k P (fun e a' w'=>e=.normal∧Behind N ds g w Pr { s' with env:=s'.env.keep keep } a' w') a w:=by
 refine region_in hnd (by rintro ⟨_,_,h,_⟩;cases h) ?_
 rw [range_eq]
 have:=all_ok (Q:=fun e a' w'=>e=.normal∧Behind N ds g w Pr { s' with env:=s'.env.keep keep } a' w') hS hen ops.toList is 0 s s' g a w hc (fun j=>by simp) hv hA
  (fun a' w' ⟨g',e1,e2,e3⟩=>⟨rfl,g',e1,e2,keep_ok e3⟩)
 simpa using this
end
def Opd.tmps:Opd→List Nat
 | .t n=>[n]
 | .k _=>[]
def oTmps:Option Opd→List Nat
 | none=>[]
 | some x=>x.tmps
def AOp.rds:AOp→List Nat
 | .mov .own _ | .alloc _ | .box _ | .exd _ _ | .ext _ _ | .bad | .mkm=>[]
 | .mov _ x=>x.tmps
 | .pick c a b=>c.tmps ++ a.tmps ++ b.tmps
 | .build _ ps=>ps.flatMap fun p=>p.2.2.tmps
 | .bsl _ _ _ _ ps=>ps.flatMap fun p=>p.2.tmps
 | .ld _ _ x=>x.tmps
 | .st _ a _=>a.tmps
 | .bin _ x y | .eq _ _ _ x y=>x.tmps ++ y.tmps
 | .un _ x | .conv _ x | .fa _ x | .fld _ _ x | .len _ x | .nilc x | .ga _ _ x | .clr _ _ x=>x.tmps
 | .ia _ x i | .ixs x i=>x.tmps ++ i.tmps
 | .slc .own _ _ lo hi=>oTmps lo ++ oTmps hi
 | .slc _ _ x lo hi | .slcs x lo hi=>x.tmps ++ oTmps lo ++ oTmps hi
 | .mks _ _ _ _ l c=>l.tmps ++ c.tmps
 | .app _ _ _ y=>y.tmps
 | .call _ xs | .callp _ xs | .callb _ xs=>xs.flatMap Opd.tmps
 | .ldn _ x y=>x.tmps ++ y.tmps
 | .appl _ _ x y rs=>x.tmps ++ y.tmps ++ rs
 | .appa _ _ x y | .cpy _ x y | .mm _ x y | .appn _ _ x y=>x.tmps ++ y.tmps
 | .callv x xs=>x.tmps ++ xs.flatMap Opd.tmps
 | .mkf _ xs ys=>xs.flatMap Opd.tmps ++ ys.flatMap Opd.tmps
 | .lkp _ _ _ x y | .lko _ _ x y | .ment _ x y=>x.tmps ++ y.tmps
 | .upd _ x y z | .estr x y z=>x.tmps ++ y.tmps ++ z.tmps
 | .updo _ x y _=>x.tmps ++ y.tmps
 | .stl _ a _ rs=>a.tmps ++ rs
def AOp.takes:AOp→List Nat
 | .mov .own x | .box x | .st _ _ x | .slc .own _ x _ _ | .app _ _ x _ | .updo _ _ _ x | .stl _ _ x _ | .ext _ x=>x.tmps
 | _=>[]
def AOp.strict:AOp→List Nat
 | .exd _ x=>x.tmps
 | _=>[]
def AOp.after (s:St):AOp→Env
 | .mov .own x | .box x | .st _ _ x | .slc .own _ x _ _ | .app _ _ x _ | .updo _ _ _ x | .stl _ _ x _=>(s.took x).env
 | .ext i (.t n)=>match s.env.get n with
  | .tup vs=>match vs[i]? with
   | some v=>(n,.tup (vs.set i v.down)) :: s.env
   | none=>s.env
  | _=>s.env
 | _=>s.env
def AOp.isB:AOp→Bool
 | .mov .cp _ | .mov .own _ | .mov .arr _ | .pick .. | .build .. | .bsl .own .. | .bin .. | .eq .. | .un .. | .conv .. | .fa .. | .fld .. | .ia .. | .ixs .. | .slc .. | .slcs .. | .mks .own .. | .exd .. | .ext .. | .len 0 _ | .len 1 _ | .callb .. | .nilc _ | .ga .. | .appn .. | .mm .. | .mkf .. | .ld .arr ..=>true
 | _=>false
def AOp.isR:AOp→Bool
 | .ld .cp .. | .ldn .. | .lkp .. | .app .. | .len 2 _=>true
 | _=>false
def AOp.look:AOp→Option Opd
 | .ld .cp _ x | .ldn _ x _ | .lkp _ _ _ x _ | .app _ _ _ x | .len _ x=>some x
 | _=>none
def AOp.isT:AOp→Bool
 | .ld .own none _ | .lko ..=>true
 | _=>false
def AOp.isM:AOp→Bool
 | .alloc _ | .box _ | .callp .. | .bsl .arr .. | .mks .arr .. | .mkm=>true
 | _=>false
def AOp.isA:AOp→Bool
 | .alloc _=>true
 | _=>false
def AOp.isW:AOp→Bool
 | .stl .. | .appl ..=>true
 | _=>false
def AOp.fars:AOp→List Nat
 | .stl _ _ _ rs | .appl _ _ _ _ rs=>rs
 | _=>[]
def AOp.isP:AOp→Bool
 | .upd .. | .updo .. | .ment .. | .estr ..=>true
 | _=>false
def AOp.isC:AOp→Bool
 | .ld .cp .. | .ldn .. | .app ..=>true
 | _=>false
def dnO:Ob→Ob
 | .cells cs=>.cells (cs.map C.down)
 | .map es=>.map (es.map fun e=>(e.1,e.2.down))
 | o=>o
def objOf:V→List Nat
 | .c (.b (.ptr l _))=>[l]
 | .c (.b (.arr _ l _ _))=>[l]
 | .c (.b (.map l))=>[l]
 | _=>[]
section
variable {F:Oracle} {bd:Bd} {s s1 s2 s':St}
theorem cdown_down (c:C):c.down.down=c.down:=by cases c<;>rfl
theorem took_st (s:St) (x:Opd):(s.took x).σ=s.σ:=by cases x<;>rfl
theorem set_st (s:St) (d:Option Nat) (v:V):(s.set d v).σ=s.σ:=by cases d<;>rfl
theorem set_get (s:St) (d:Option Nat) (v:V) (t:Nat):(s.set d v).env.get t=if d=some t then v else s.env.get t:=by
 cases hd:d with
 | none=>simp [St.set]
 | some d=>simp only [St.set];rw [env_get_cons];simp
theorem rd_same {x:Opd} (h:∀ t ∈ x.tmps,(s2.env.get t).down=(s.env.get t).down):s2.rd x=s.rd x:=by
 cases x with
 | t n=>exact h n (by simp [Opd.tmps])
 | k v=>rfl
theorem raw_same {x:Opd} (h:∀ t ∈ x.tmps,s2.env.get t=s.env.get t):s2.raw x=s.raw x:=by
 cases x with
 | t n=>exact h n (by simp [Opd.tmps])
 | k v=>rfl
theorem opt_same {x:Option Opd} (h:∀ t ∈ oTmps x,(s2.env.get t).down=(s.env.get t).down) (d:Int):optInt s2 x d=optInt s x d:=by
 cases x with
 | none=>rfl
 | some x=>simp only [optInt,rd_same (x:=x) h]
theorem parts_same:∀ {ps:List (Nat × Nat × Opd)} (zs:List C),(∀ t ∈ ps.flatMap (fun p=>p.2.2.tmps),(s2.env.get t).down=(s.env.get t).down)→partsIn s2 ps zs=partsIn s ps zs
 | [],zs,h=>rfl
 | (off,n,x) :: ps,zs,h=>by
  simp only [partsIn]
  rw [rd_same (x:=x) (fun t ht=>h t (by simp [ht]))]
  have:=fun zs=>parts_same (ps:=ps) zs (fun t ht=>h t (by simp only [List.flatMap_cons,List.mem_append];exact .inr ht))
  simp only [this]
theorem args_same {xs:List Opd} (h:∀ t ∈ xs.flatMap Opd.tmps,(s2.env.get t).down=(s.env.get t).down):xs.map s2.rd=xs.map s.rd :=
 List.map_congr_left fun x hx=>rd_same fun t ht=>h t (List.mem_flatMap.2 ⟨x,hx,ht⟩)
theorem bs_same:∀ {xs:List Opd},(∀ t ∈ xs.flatMap Opd.tmps,(s2.env.get t).down=(s.env.get t).down)→bsOf xs s2=bsOf xs s
 | [],_=>rfl
 | x :: xs,h=>by
  simp only [bsOf]
  rw [rd_same (x:=x) (fun t ht=>h t (by simp [ht])),bs_same (xs:=xs) (fun t ht=>h t (by simp only [List.flatMap_cons,List.mem_append];exact .inr ht))]
def into (e:Env) (σ:List Ob) (p:V × St):V × St:=(p.1,⟨e,σ⟩)
def into' (e:Env) (p:V × St):V × St:=(p.1,⟨e,p.2.σ⟩)
theorem step_blind {op:AOp} (hb:op.isB=true) (hr:∀ t ∈ op.rds,(s2.env.get t).down=(s.env.get t).down) (ht:∀ t ∈ op.takes ++ op.strict,s2.env.get t=s.env.get t) :
  stepOp F bd s2 op=(stepOp F bd s op).map (into (op.after s2) s2.σ)∧∀ p,stepOp F bd s op=some p→p.2=⟨op.after s,s.σ⟩:=by
 have rd:∀ {x:Opd},(∀ t ∈ x.tmps,t ∈ op.rds)→s2.rd x=s.rd x:=fun hx=>rd_same fun t ht=>hr t (hx t ht)
 have raw:∀ {x:Opd},(∀ t ∈ x.tmps,t ∈ op.takes ++ op.strict)→s2.raw x=s.raw x:=fun hx=>raw_same fun t h=>ht t (hx t h)
 cases op with
 | mov m x =>
  cases m with
  | cp=>exact ⟨by simp only [stepOp,rd (x:=x) (fun t h=>h)];rfl,fun p hp=>by simp only [stepOp,Option.some.injEq] at hp;subst hp;rfl⟩
  | own =>
   refine ⟨?_,fun p hp=>?_⟩
   ·simp only [stepOp,raw (x:=x) (fun t h=>by simp [AOp.takes,h])]
    simp only [Option.map_some,into,AOp.after]
    cases x<;>rfl
   ·simp only [stepOp,Option.some.injEq] at hp;subst hp;simp only [AOp.after];cases x<;>rfl
  | arr =>
   refine ⟨?_,fun p hp=>?_⟩
   ·simp only [stepOp,rd (x:=x) (fun t h=>h)]
    split<;>first | rfl | simp_all [into,AOp.after]
   ·simp only [stepOp] at hp;split at hp<;>cases hp<;>rfl
  | frz=>simp [AOp.isB] at hb
 | pick c a b =>
  refine ⟨?_,fun p hp=>?_⟩
  ·simp only [stepOp,rd (x:=c) (fun t h=>by simp [AOp.rds,h]),rd (x:=a) (fun t h=>by simp [AOp.rds,h]),rd (x:=b) (fun t h=>by simp [AOp.rds,h])]
   split<;>rfl
  ·simp only [stepOp] at hp;split at hp<;>cases hp;rfl
 | build zs ps =>
  refine ⟨?_,fun p hp=>?_⟩
  ·simp only [stepOp,parts_same (s:=s) (s2:=s2) (ps:=ps) zs hr]
   split<;>rfl
  ·simp only [stepOp] at hp;split at hp<;>cases hp;rfl
 | bsl m k n zs ps =>
  cases m with
  | own =>
   have:∀ t ∈ (ps.map fun p=>(p.1 * k,k,p.2)).flatMap (fun p=>p.2.2.tmps),(s2.env.get t).down=(s.env.get t).down:=by
    intro t ht
    refine hr t ?_
    simpa [AOp.rds,List.flatMap_map] using ht
   refine ⟨?_,fun p hp=>?_⟩
   ·simp only [stepOp,parts_same (s:=s) (s2:=s2) _ this]
    split
    ·split<;>rfl
    ·rfl
   ·simp only [stepOp] at hp
    split at hp
    ·split at hp<;>cases hp;rfl
    ·cases hp
  | _=>simp [AOp.isB] at hb
 | bin op x y =>
  refine ⟨?_,fun p hp=>?_⟩
  ·simp only [stepOp,rd (x:=x) (fun t h=>by simp [AOp.rds,h]),rd (x:=y) (fun t h=>by simp [AOp.rds,h])]
   split<;>rfl
  ·simp only [stepOp] at hp;split at hp<;>cases hp;rfl
 | eq neg kd ks x y =>
  refine ⟨?_,fun p hp=>?_⟩
  ·simp only [stepOp,rd (x:=x) (fun t h=>by simp [AOp.rds,h]),rd (x:=y) (fun t h=>by simp [AOp.rds,h])]
   split<;>rfl
  ·simp only [stepOp] at hp;split at hp<;>cases hp;rfl
 | ld m n x =>
  cases m with
  | arr =>
   refine ⟨?_,fun p hp=>?_⟩
   ·simp only [stepOp,rd (x:=x) (fun t h=>h)]
    repeat' split
    all_goals first | rfl | simp_all
   ·simp only [stepOp] at hp
    repeat' split at hp
    all_goals cases hp
    all_goals rfl
  | _=>simp [AOp.isB] at hb
 | un op x =>
  refine ⟨?_,fun p hp=>?_⟩
  ·simp only [stepOp,rd (x:=x) (fun t h=>h)]
   split<;>rfl
  ·simp only [stepOp] at hp;split at hp<;>cases hp;rfl
 | conv k x =>
  refine ⟨?_,fun p hp=>?_⟩
  ·simp only [stepOp,rd (x:=x) (fun t h=>h)]
   split<;>rfl
  ·simp only [stepOp] at hp;split at hp<;>cases hp;rfl
 | fa off x =>
  refine ⟨?_,fun p hp=>?_⟩
  ·simp only [stepOp,rd (x:=x) (fun t h=>h)]
   split<;>rfl
  ·simp only [stepOp] at hp;split at hp<;>cases hp<;>rfl
 | nilc x =>
  refine ⟨?_,fun p hp=>?_⟩
  ·simp only [stepOp,rd (x:=x) (fun t h=>h)]
   split<;>rfl
  ·simp only [stepOp] at hp;split at hp<;>cases hp<;>rfl
 | len kd x =>
  have hx:=rd (x:=x) (fun t h=>h)
  match kd,hb with
  | 0,_ =>
   refine ⟨?_,fun p hp=>?_⟩
   ·simp only [stepOp,hx]
    repeat' split
    all_goals first | rfl | simp_all
   ·simp only [stepOp] at hp
    repeat' split at hp
    all_goals cases hp
    all_goals rfl
  | 1,_ =>
   refine ⟨?_,fun p hp=>?_⟩
   ·simp only [stepOp,hx]
    repeat' split
    all_goals first | rfl | simp_all
   ·simp only [stepOp] at hp
    repeat' split at hp
    all_goals cases hp
    all_goals rfl
  | n+2,h=>simp [AOp.isB] at h
 | ga g k x =>
  refine ⟨?_,fun p hp=>?_⟩
  ·simp only [stepOp,rd (x:=x) (fun t h=>h)]
   repeat' split
   all_goals first | rfl | simp_all
  ·simp only [stepOp] at hp
   repeat' split at hp
   all_goals cases hp
   all_goals rfl
 | fld off n x =>
  refine ⟨?_,fun p hp=>?_⟩
  ·simp only [stepOp,rd (x:=x) (fun t h=>h)]
   repeat' split
   all_goals first | rfl | simp_all
  ·simp only [stepOp] at hp
   repeat' split at hp
   all_goals cases hp
   all_goals rfl
 | ia k x i =>
  refine ⟨?_,fun p hp=>?_⟩
  ·simp only [stepOp,rd (x:=x) (fun t h=>by simp [AOp.rds,h]),rd (x:=i) (fun t h=>by simp [AOp.rds,h])]
   repeat' split
   all_goals first | rfl | simp_all
  ·simp only [stepOp] at hp
   repeat' split at hp
   all_goals cases hp
   all_goals rfl
 | ixs x i =>
  refine ⟨?_,fun p hp=>?_⟩
  ·simp only [stepOp,rd (x:=x) (fun t h=>by simp [AOp.rds,h]),rd (x:=i) (fun t h=>by simp [AOp.rds,h])]
   repeat' split
   all_goals first | rfl | simp_all
  ·simp only [stepOp] at hp
   repeat' split at hp
   all_goals cases hp
   all_goals rfl
 | mm mx x y =>
  refine ⟨?_,fun p hp=>?_⟩
  ·simp only [stepOp,rd (x:=x) (fun t h=>by simp [AOp.rds,h]),rd (x:=y) (fun t h=>by simp [AOp.rds,h])]
   repeat' split
   all_goals first | rfl | simp_all
  ·simp only [stepOp] at hp
   repeat' split at hp
   all_goals cases hp
   all_goals rfl
 | appn k bytes x y =>
  refine ⟨?_,fun p hp=>?_⟩
  ·simp only [stepOp,rd (x:=x) (fun t h=>by simp [AOp.rds,h]),rd (x:=y) (fun t h=>by simp [AOp.rds,h])]
   repeat' split
   all_goals first | rfl | simp_all
  ·simp only [stepOp] at hp
   repeat' split at hp
   all_goals cases hp
   all_goals rfl
 | slc m k x lo hi =>
  cases m with
  | own =>
   have h1:=opt_same (s:=s) (s2:=s2) (x:=lo) (fun t h=>hr t (by simp [AOp.rds,h]))
   refine ⟨?_,fun p hp=>?_⟩
   ·simp only [stepOp,raw (x:=x) (fun t h=>by simp [AOp.takes,h]),h1]
    repeat' split
    all_goals first | rfl | (simp only [Option.map_some,into,AOp.after];cases x<;>rfl) | simp_all
   ·simp only [stepOp] at hp
    repeat' split at hp
    all_goals cases hp
    all_goals (simp only [AOp.after];cases x<;>rfl)
  | cp =>
   have h1:=opt_same (s:=s) (s2:=s2) (x:=lo) (fun t h=>hr t (by simp [AOp.rds,h]))
   have h2:=opt_same (s:=s) (s2:=s2) (x:=hi) (fun t h=>hr t (by simp [AOp.rds,h]))
   refine ⟨?_,fun p hp=>?_⟩
   ·simp only [stepOp,rd (x:=x) (fun t h=>by simp [AOp.rds,h]),h1,h2]
    repeat' split
    all_goals first | rfl | simp_all
   ·simp only [stepOp] at hp
    repeat' split at hp
    all_goals cases hp
    all_goals rfl
  | _ =>
   have h1:=opt_same (s:=s) (s2:=s2) (x:=lo) (fun t h=>hr t (by simp [AOp.rds,h]))
   refine ⟨?_,fun p hp=>?_⟩
   ·simp only [stepOp,h1]
    repeat' split
    all_goals rfl
   ·simp only [stepOp] at hp
    repeat' split at hp
    all_goals cases hp
 | slcs x lo hi =>
  have h1:=opt_same (s:=s) (s2:=s2) (x:=lo) (fun t h=>hr t (by simp [AOp.rds,h]))
  have h2:=opt_same (s:=s) (s2:=s2) (x:=hi) (fun t h=>hr t (by simp [AOp.rds,h]))
  refine ⟨?_,fun p hp=>?_⟩
  ·simp only [stepOp,rd (x:=x) (fun t h=>by simp [AOp.rds,h]),h1,h2]
   repeat' split
   all_goals first | rfl | simp_all
  ·simp only [stepOp] at hp
   repeat' split at hp
   all_goals cases hp
   all_goals rfl
 | mks m k b zs l c =>
  cases m with
  | own =>
   refine ⟨?_,fun p hp=>?_⟩
   ·simp only [stepOp,rd (x:=l) (fun t h=>by simp [AOp.rds,h]),rd (x:=c) (fun t h=>by simp [AOp.rds,h])]
    repeat' split
    all_goals first | rfl | simp_all
   ·simp only [stepOp] at hp
    repeat' split at hp
    all_goals cases hp
    all_goals rfl
  | _=>simp [AOp.isB] at hb
 | exd i x =>
  cases x with
  | t n =>
   refine ⟨?_,fun p hp=>?_⟩
   ·simp only [stepOp,ht n (by simp [AOp.takes,AOp.strict,Opd.tmps])]
    split
    ·split<;>rfl
    ·rfl
   ·simp only [stepOp] at hp
    repeat' split at hp
    all_goals cases hp
    all_goals rfl
  | k c=>exact ⟨rfl,fun p hp=>by simp [stepOp] at hp⟩
 | ext i x =>
  cases x with
  | t n =>
   have hn:=ht n (by simp [AOp.takes,Opd.tmps])
   cases hg:s.env.get n with
   | tup vs =>
    cases hv:vs[i]? with
    | some v=>exact ⟨by simp [stepOp,St.raw,AOp.after,hn,hg,hv,into],fun p hp=>by simp [stepOp,St.raw,hg,hv] at hp;subst hp;simp [AOp.after,hg,hv]⟩
    | none=>exact ⟨by simp [stepOp,St.raw,hn,hg,hv],fun p hp=>by simp [stepOp,St.raw,hg,hv] at hp⟩
   | _=>exact ⟨by simp [stepOp,St.raw,hn,hg],fun p hp=>by simp [stepOp,St.raw,hg] at hp⟩
  | k c =>
   refine ⟨?_,fun p hp=>?_⟩
   ·simp only [stepOp,St.raw]
    split
    ·split<;>rfl
    ·rfl
   ·simp only [stepOp] at hp
    repeat' split at hp
    all_goals simp_all
 | callb f xs =>
  have ha:=args_same (s:=s) (s2:=s2) (xs:=xs) (fun t h=>hr t h)
  refine ⟨?_,fun p hp=>?_⟩
  ·simp only [stepOp,ha]
   repeat' split
   all_goals first | rfl | simp_all
  ·simp only [stepOp] at hp
   repeat' split at hp
   all_goals cases hp
   all_goals rfl
 | mkf f xs ys =>
  have h1:=bs_same (s:=s) (s2:=s2) (xs:=xs) (fun t h=>hr t (by simp only [AOp.rds,List.mem_append];exact .inl h))
  have h2:=bs_same (s:=s) (s2:=s2) (xs:=ys) (fun t h=>hr t (by simp only [AOp.rds,List.mem_append];exact .inr h))
  refine ⟨?_,fun p hp=>?_⟩
  ·simp only [stepOp,h1,h2]
   repeat' split
   all_goals first | rfl | simp_all
  ·simp only [stepOp] at hp
   repeat' split at hp
   all_goals cases hp
   all_goals rfl
 | _=>simp [AOp.isB] at hb
theorem step_congr {op:AOp} (hσ:s2.σ=s.σ) (hr:∀ t ∈ op.rds,(s2.env.get t).down=(s.env.get t).down) (ht:∀ t ∈ op.takes ++ op.strict,s2.env.get t=s.env.get t) :
  stepOp F bd s2 op=(stepOp F bd s op).map (into' (op.after s2))∧∀ p,stepOp F bd s op=some p→p.2.env=op.after s:=by
 cases hb:op.isB with
 | true =>
  obtain ⟨h1,h2⟩:=step_blind (F:=F) (bd:=bd) hb hr ht
  refine ⟨?_,fun p hp=>by rw [h2 p hp]⟩
  rw [h1]
  cases hp:stepOp F bd s op with
  | none=>rfl
  | some p=>simp only [Option.map_some,into,into',hσ];rw [h2 p hp]
 | false =>
 have rd:∀ {x:Opd},(∀ t ∈ x.tmps,t ∈ op.rds)→s2.rd x=s.rd x:=fun hx=>rd_same fun t ht=>hr t (hx t ht)
 have raw:∀ {x:Opd},(∀ t ∈ x.tmps,t ∈ op.takes ++ op.strict)→s2.raw x=s.raw x:=fun hx=>raw_same fun t h=>ht t (hx t h)
 cases op with
 | mov m x =>
  cases m with
  | frz =>
   refine ⟨?_,fun p hp=>?_⟩
   ·simp only [stepOp,rd (x:=x) (fun t h=>h),hσ]
    repeat' split
    all_goals first | rfl | (simp only [Option.map_some,into',AOp.after];rw [← hσ]) | simp_all
   ·simp only [stepOp] at hp
    repeat' split at hp
    all_goals cases hp
    all_goals rfl
  | _=>simp [AOp.isB] at hb
 | alloc zs=>exact ⟨by simp only [stepOp,hσ];rfl,fun p hp=>by simp only [stepOp,Option.some.injEq] at hp;subst hp;rfl⟩
 | box x =>
  refine ⟨?_,fun p hp=>?_⟩
  ·simp only [stepOp,raw (x:=x) (fun t h=>by simp [AOp.takes,h]),hσ]
   split<;>rfl
  ·simp only [stepOp] at hp
   split at hp
   ·cases hp;rfl
   ·cases hp
 | bsl m k n zs ps =>
  have:∀ t ∈ (ps.map fun p=>(p.1 * k,k,p.2)).flatMap (fun p=>p.2.2.tmps),(s2.env.get t).down=(s.env.get t).down:=by
   intro t ht
   refine hr t ?_
   simpa [AOp.rds,List.flatMap_map] using ht
  refine ⟨?_,fun p hp=>?_⟩
  ·simp only [stepOp,parts_same (s:=s) (s2:=s2) _ this,hσ]
   repeat' split
   all_goals first | rfl | (simp only [Option.map_some,into',AOp.after];rw [← hσ]) | simp_all
  ·simp only [stepOp] at hp
   repeat' split at hp
   all_goals cases hp
   all_goals rfl
 | ld m n x =>
  have hx:=rd (x:=x) (fun t h=>h)
  have he:∀ c,AOp.after c (.ld m n x)=c.env:=fun c=>rfl
  cases m
  case arr=>simp [AOp.isB] at hb
  all_goals cases n
  all_goals
   refine ⟨?_,fun p hp=>?_⟩
   ·simp only [stepOp,hx,hσ]
    repeat' split
    all_goals first | rfl | (simp only [Option.map_some,into',AOp.after];rw [← hσ]) | simp_all
   ·simp only [stepOp] at hp
    repeat' split at hp
    all_goals cases hp
    all_goals rfl
 | st n a x =>
  refine ⟨?_,fun p hp=>?_⟩
  ·simp only [stepOp,rd (x:=a) (fun t h=>h),raw (x:=x) (fun t h=>by simp [AOp.takes,h]),hσ]
   repeat' split
   all_goals first | rfl | simp_all
  ·simp only [stepOp] at hp
   repeat' split at hp
   all_goals cases hp
   all_goals rfl
 | len kd x =>
  have hx:=rd (x:=x) (fun t h=>h)
  match kd,hb with
  | 0,h=>simp [AOp.isB] at h
  | 1,h=>simp [AOp.isB] at h
  | n+2,h =>
   refine ⟨?_,fun p hp=>?_⟩
   ·simp only [stepOp,hx,hσ]
    repeat' split
    all_goals first | rfl | (simp only [Option.map_some,into',AOp.after];rw [← hσ]) | simp_all
   ·simp only [stepOp] at hp
    repeat' split at hp
    all_goals cases hp
    all_goals rfl
 | mks m k b zs l c =>
  refine ⟨?_,fun p hp=>?_⟩
  ·simp only [stepOp,rd (x:=l) (fun t h=>by simp [AOp.rds,h]),rd (x:=c) (fun t h=>by simp [AOp.rds,h]),hσ]
   repeat' split
   all_goals first | rfl | (simp only [Option.map_some,into',AOp.after];rw [← hσ]) | simp_all
  ·simp only [stepOp] at hp
   repeat' split at hp
   all_goals cases hp
   all_goals rfl
 | app k bytes x y =>
  refine ⟨?_,fun p hp=>?_⟩
  ·simp only [stepOp,rd (x:=y) (fun t h=>h),raw (x:=x) (fun t h=>by simp [AOp.takes,h]),hσ]
   repeat' split
   all_goals first | rfl | (simp only [Option.map_some,into',AOp.after,took_st];rw [← hσ,← took_st s2 x]) | simp_all
  ·simp only [stepOp] at hp
   repeat' split at hp
   all_goals cases hp
   all_goals rfl
 | call f xs =>
  have ha:=args_same (s:=s) (s2:=s2) (xs:=xs) (fun t h=>hr t h)
  refine ⟨?_,fun p hp=>?_⟩
  ·simp only [stepOp,ha,hσ]
   split<;>rfl
  ·simp only [stepOp] at hp
   split at hp<;>cases hp;rfl
 | callp f xs =>
  have ha:=args_same (s:=s) (s2:=s2) (xs:=xs) (fun t h=>hr t h)
  refine ⟨?_,fun p hp=>?_⟩
  ·simp only [stepOp,ha,hσ]
   repeat' split
   all_goals first | rfl | simp_all
  ·simp only [stepOp] at hp
   repeat' split at hp
   all_goals cases hp
   all_goals rfl
 | callv x xs =>
  have ha:=args_same (s:=s) (s2:=s2) (xs:=xs) (fun t h=>hr t (by simp only [AOp.rds,List.mem_append];exact .inr h))
  refine ⟨?_,fun p hp=>?_⟩
  ·simp only [stepOp,rd (x:=x) (fun t h=>by simp [AOp.rds,h]),ha,hσ]
   repeat' split
   all_goals first | rfl | simp_all
  ·simp only [stepOp] at hp
   repeat' split at hp
   all_goals cases hp
   all_goals rfl
 | bad=>exact ⟨rfl,fun p hp=>by simp [stepOp] at hp⟩
 | mkm=>exact ⟨by simp only [stepOp,hσ];rfl,fun p hp=>by simp only [stepOp,Option.some.injEq] at hp;subst hp;rfl⟩
 | appa k bytes x y =>
  refine ⟨?_,fun p hp=>?_⟩
  ·simp only [stepOp,rd (x:=x) (fun t h=>by simp [AOp.rds,h]),rd (x:=y) (fun t h=>by simp [AOp.rds,h]),hσ]
   repeat' split
   all_goals first | rfl | (simp only [Option.map_some,into',AOp.after];rw [← hσ]) | simp_all
  ·simp only [stepOp] at hp
   repeat' split at hp
   all_goals cases hp
   all_goals rfl
 | appl k bytes x y rs =>
  have hfar:∀ l,(rs.all fun t=>farFrom l (s2.env.get t))=rs.all fun t=>farFrom l (s.env.get t):=by
   intro l
   refine Bool.eq_iff_iff.2 ?_
   simp only [List.all_eq_true]
   refine forall_congr' fun t=>imp_congr_right fun ht=>?_
   simp only [farFrom,hr t (by simp [AOp.rds,ht])]
  refine ⟨?_,fun p hp=>?_⟩
  ·simp only [stepOp,rd (x:=x) (fun t h=>by simp [AOp.rds,h]),rd (x:=y) (fun t h=>by simp [AOp.rds,h]),hσ,hfar]
   repeat' split
   all_goals first | rfl | (simp only [Option.map_some,into',AOp.after];rw [← hσ]) | simp_all
  ·simp only [stepOp] at hp
   repeat' split at hp
   all_goals cases hp
   all_goals rfl
 | ldn n x u =>
  refine ⟨?_,fun p hp=>?_⟩
  ·simp only [stepOp,rd (x:=x) (fun t h=>by simp [AOp.rds,h]),rd (x:=u) (fun t h=>by simp [AOp.rds,h]),hσ]
   repeat' split
   all_goals first | rfl | (simp only [Option.map_some,into',AOp.after];rw [← hσ]) | simp_all
  ·simp only [stepOp] at hp
   repeat' split at hp
   all_goals cases hp
   all_goals rfl
 | cpy k x y =>
  refine ⟨?_,fun p hp=>?_⟩
  ·simp only [stepOp,rd (x:=x) (fun t h=>by simp [AOp.rds,h]),rd (x:=y) (fun t h=>by simp [AOp.rds,h]),hσ]
   repeat' split
   all_goals first | rfl | simp_all
  ·simp only [stepOp] at hp
   repeat' split at hp
   all_goals cases hp
   all_goals rfl
 | clr k zs x =>
  refine ⟨?_,fun p hp=>?_⟩
  ·simp only [stepOp,rd (x:=x) (fun t h=>h),hσ]
   repeat' split
   all_goals first | rfl | simp_all
  ·simp only [stepOp] at hp
   repeat' split at hp
   all_goals cases hp
   all_goals rfl
 | lkp ks zs ok x key =>
  refine ⟨?_,fun p hp=>?_⟩
  ·simp only [stepOp,rd (x:=x) (fun t h=>by simp [AOp.rds,h]),rd (x:=key) (fun t h=>by simp [AOp.rds,h]),hσ]
   repeat' split
   all_goals first | rfl | (simp only [Option.map_some,into',AOp.after];rw [← hσ]) | simp_all
  ·simp only [stepOp] at hp
   repeat' split at hp
   all_goals cases hp
   all_goals rfl
 | lko ks k x key =>
  refine ⟨?_,fun p hp=>?_⟩
  ·simp only [stepOp,rd (x:=x) (fun t h=>by simp [AOp.rds,h]),rd (x:=key) (fun t h=>by simp [AOp.rds,h]),hσ]
   repeat' split
   all_goals first | rfl | (simp only [Option.map_some,into',AOp.after];rw [← hσ]) | simp_all
  ·simp only [stepOp] at hp
   repeat' split at hp
   all_goals cases hp
   all_goals rfl
 | ment ks x key =>
  refine ⟨?_,fun p hp=>?_⟩
  ·simp only [stepOp,rd (x:=x) (fun t h=>by simp [AOp.rds,h]),rd (x:=key) (fun t h=>by simp [AOp.rds,h]),hσ]
   repeat' split
   all_goals first | rfl | simp_all
  ·simp only [stepOp] at hp
   repeat' split at hp
   all_goals cases hp
   all_goals rfl
 | upd ks x key v =>
  refine ⟨?_,fun p hp=>?_⟩
  ·simp only [stepOp,rd (x:=x) (fun t h=>by simp [AOp.rds,h]),rd (x:=key) (fun t h=>by simp [AOp.rds,h]),rd (x:=v) (fun t h=>by simp [AOp.rds,h]),hσ]
   repeat' split
   all_goals first | rfl | simp_all
  ·simp only [stepOp] at hp
   repeat' split at hp
   all_goals cases hp
   all_goals rfl
 | estr x st v =>
  refine ⟨?_,fun p hp=>?_⟩
  ·simp only [stepOp,rd (x:=x) (fun t h=>by simp [AOp.rds,h]),rd (x:=st) (fun t h=>by simp [AOp.rds,h]),rd (x:=v) (fun t h=>by simp [AOp.rds,h]),hσ]
   repeat' split
   all_goals first | rfl | simp_all
  ·simp only [stepOp] at hp
   repeat' split at hp
   all_goals cases hp
   all_goals rfl
 | updo ks x key v =>
  refine ⟨?_,fun p hp=>?_⟩
  ·simp only [stepOp,rd (x:=x) (fun t h=>by simp [AOp.rds,h]),rd (x:=key) (fun t h=>by simp [AOp.rds,h]),raw (x:=v) (fun t h=>by simp [AOp.takes,h]),hσ]
   repeat' split
   all_goals first | rfl | simp_all
  ·simp only [stepOp] at hp
   repeat' split at hp
   all_goals cases hp
   all_goals rfl
 | stl n a x rs =>
  have hfar:∀ l,(rs.all fun t=>farFrom l (s2.env.get t))=rs.all fun t=>farFrom l (s.env.get t):=by
   intro l
   refine Bool.eq_iff_iff.2 ?_
   simp only [List.all_eq_true]
   refine forall_congr' fun t=>imp_congr_right fun ht=>?_
   simp only [farFrom,hr t (by simp [AOp.rds,ht])]
  refine ⟨?_,fun p hp=>?_⟩
  ·simp only [stepOp,rd (x:=a) (fun t h=>by simp [AOp.rds,h]),raw (x:=x) (fun t h=>by simp [AOp.takes,h]),hσ,hfar]
   repeat' split
   all_goals first | rfl | simp_all
  ·simp only [stepOp] at hp
   repeat' split at hp
   all_goals cases hp
   all_goals rfl
 | _=>simp [AOp.isB] at hb
end
section
variable {F:Oracle} {bd:Bd} {s s1 s2 s':St}
theorem data_down (c:C):c.down.data=c.data:=by cases c<;>rfl
theorem datas_down:∀ cs:List C,datas (cs.map C.down)=datas cs
 | []=>rfl
 | c :: cs=>by simp only [List.map_cons,datas,data_down,datas_down cs]
theorem chunk_down (k:Nat):∀ (n:Nat) (cs:List C),chunk k n (cs.map C.down)=chunk k n cs
 | 0,_=>rfl
 | n+1,cs=>by simp only [chunk,← List.map_take,← List.map_drop,datas_down,chunk_down k n]
theorem dn_cells {o:Ob} {cs:List C} (h:dnO o=dnO (.cells cs)):∃ cs2,o=.cells cs2∧cs2.map C.down=cs.map C.down:=by
 cases o<;>simp [dnO] at h
 exact ⟨_,rfl,h⟩
theorem dn_map {o:Ob} {es:List (V × V)} (h:dnO o=dnO (.map es)):∃ es2,o=.map es2∧es2.map (fun e=>(e.1,e.2.down))=es.map fun e=>(e.1,e.2.down):=by
 cases o<;>simp only [dnO,Ob.map.injEq,reduceCtorEq] at h
 exact ⟨_,rfl,h⟩
theorem find_dn {ks:List Nat} {key:V}:∀ {es es2:List (V × V)} {i:Nat},es2.map (fun e=>(e.1,e.2.down))=es.map (fun e=>(e.1,e.2.down)) →
  (findKey ks key es2 i).map (fun r=>r.map fun p=>(p.1,p.2.down))=(findKey ks key es i).map fun r=>r.map fun p=>(p.1,p.2.down)
 | [],[],i,_=>rfl
 | [],_ :: _,i,h=>by simp at h
 | _ :: _,[],i,h=>by simp at h
 | (k,v) :: es,(k2,v2) :: es2,i,h=>by
  simp only [List.map_cons,List.cons.injEq,Prod.mk.injEq] at h
  obtain ⟨⟨rfl,h2⟩,h3⟩:=h
  simp only [findKey]
  split
  ·simp [h2]
  ·exact find_dn h3
  ·rfl
theorem got_dn {zs:V} {r r2:Option (Nat × V)} (h:r2.map (fun p=>(p.1,p.2.down))=r.map fun p=>(p.1,p.2.down)):got zs r2=got zs r∧r2.isSome=r.isSome:=by
 cases r<;>cases r2<;>simp [got] at h ⊢
 exact h.2
def Seen (s s2:St) (op:AOp):Prop:=∀ x,op.look=some x→∀ l ∈ objOf (s.rd x),∀ o,s.σ[l]?=some o→∃ o2,s2.σ[l]?=some o2∧dnO o2=dnO o
theorem getCells_obj {σ:List Ob} {l:Nat} {cs:List C} (h:getCells σ l=some cs):σ[l]?=some (.cells cs):=by
 unfold getCells at h
 split at h
 ·rename_i h';cases h;exact h'
 ·cases h
theorem step_read {op:AOp} {v:V} (hb:op.isR=true) (hσ:Seen s s2 op) (hr:∀ t ∈ op.rds,(s2.env.get t).down=(s.env.get t).down) (ht:∀ t ∈ op.takes ++ op.strict,s2.env.get t=s.env.get t)
  (h:stepOp F bd s op=some (v,s1)):s1=⟨op.after s,s.σ⟩∧stepOp F bd s2 op=some (v,⟨op.after s2,s2.σ⟩):=by
 have rd:∀ {x:Opd},(∀ t ∈ x.tmps,t ∈ op.rds)→s2.rd x=s.rd x:=fun hx=>rd_same fun t ht=>hr t (hx t ht)
 have raw:∀ {x:Opd},(∀ t ∈ x.tmps,t ∈ op.takes ++ op.strict)→s2.raw x=s.raw x:=fun hx=>raw_same fun t h=>ht t (hx t h)
 cases op with
 | ld m n x =>
  cases m with
  | cp =>
   have hx:=rd (x:=x) (fun t h=>h)
   simp only [stepOp,hx] at h ⊢
   split at h
   ·rename_i l off hl
    split at h
    case h_2=>cases h
    rename_i cs hcs
    obtain ⟨o2,e1,e2⟩:=hσ x rfl l (by simp [hl,objOf]) _ (getCells_obj hcs)
    obtain ⟨cs2,rfl,e3⟩:=dn_cells e2
    have hlen:cs2.length=cs.length:=by simpa using congrArg List.length e3
    have hg:getCells s2.σ l=some cs2:=by simp only [getCells,e1]
    simp only [hg]
    cases n with
    | none =>
     simp only at h ⊢
     split at h
     case h_2=>cases h
     rename_i c hc
     cases h
     have hget:(cs2[off]?).map C.down=(cs[off]?).map C.down:=by rw [← List.getElem?_map,e3,List.getElem?_map]
     rw [hc] at hget
     cases h2:cs2[off]? with
     | none=>rw [h2] at hget;cases hget
     | some c2 =>
      rw [h2] at hget
      simp only [Option.map_some,Option.some.injEq] at hget
      exact ⟨rfl,by simp only [hget];rfl⟩
    | some n =>
     simp only at h ⊢
     have:((cs2.drop off).take n).map C.down=((cs.drop off).take n).map C.down:=by
      rw [List.map_take,List.map_drop,e3,List.map_take,List.map_drop]
     rw [hlen,this]
     split at h
     case isFalse=>cases h
     rename_i hle
     cases h
     exact ⟨rfl,by rw [if_pos hle];rfl⟩
   ·rename_i row off hl
    cases n with
    | none =>
     simp only at h ⊢
     split at h
     case h_2=>cases h
     cases h
     exact ⟨rfl,rfl⟩
    | some n =>
     simp only at h ⊢
     split at h
     case isFalse=>cases h
     rename_i hle
     cases h
     exact ⟨rfl,by rw [if_pos hle];rfl⟩
   ·cases h
  | _=>simp [AOp.isR] at hb
 | ldn n x u =>
  have hx:=rd (x:=x) (fun t h=>by simp [AOp.rds,h])
  have hu:=rd (x:=u) (fun t h=>by simp [AOp.rds,h])
  simp only [stepOp,hx,hu] at h ⊢
  split at h
  case h_2=>cases h
  rename_i l off l' o' hl hl'
  split at h
  case isFalse=>cases h
  rename_i hll
  rw [if_pos hll]
  split at h
  case h_2=>cases h
  rename_i cs hcs
  obtain ⟨o2,e1,e2⟩:=hσ x rfl l (by simp [hl,objOf]) _ (getCells_obj hcs)
  obtain ⟨cs2,rfl,e3⟩:=dn_cells e2
  have hlen:cs2.length=cs.length:=by simpa using congrArg List.length e3
  have hg:getCells s2.σ l=some cs2:=by simp only [getCells,e1]
  simp only [hg]
  cases n with
  | none =>
   simp only at h ⊢
   split at h
   case h_2=>cases h
   rename_i c hc
   cases h
   have hget:(cs2[off]?).map C.down=(cs[off]?).map C.down:=by rw [← List.getElem?_map,e3,List.getElem?_map]
   rw [hc] at hget
   cases h2:cs2[off]? with
   | none=>rw [h2] at hget;cases hget
   | some c2 =>
    rw [h2] at hget
    simp only [Option.map_some,Option.some.injEq] at hget
    exact ⟨rfl,by simp only [hget];rfl⟩
  | some n =>
   simp only at h ⊢
   have:((cs2.drop off).take n).map C.down=((cs.drop off).take n).map C.down:=by
    rw [List.map_take,List.map_drop,e3,List.map_take,List.map_drop]
   rw [hlen,this]
   split at h
   case isFalse=>cases h
   rename_i hle
   cases h
   exact ⟨rfl,by rw [if_pos hle];rfl⟩
 | lkp ks zs ok x key =>
  have hx:=rd (x:=x) (fun t h=>by simp [AOp.rds,h])
  have hk:=rd (x:=key) (fun t h=>by simp [AOp.rds,h])
  simp only [stepOp,hx,hk] at h ⊢
  split at h
  case h_2=>cases h
  rename_i es hes
  have hm:∃ es2,mapOf s2.σ (s.rd x)=some es2∧es2.map (fun e=>(e.1,e.2.down))=es.map fun e=>(e.1,e.2.down):=by
   cases hv:s.rd x with
   | c c =>
    rw [hv] at hes
    cases c with
    | b b =>
     cases b with
     | map l =>
      simp only [mapOf] at hes ⊢
      split at hes
      case h_2=>cases hes
      rename_i es' hes'
      cases hes
      obtain ⟨o2,e1,e2⟩:=hσ x rfl l (by simp [hv,objOf]) _ hes'
      obtain ⟨es2,rfl,e3⟩:=dn_map e2
      exact ⟨es2,by rw [e1],e3⟩
     | nilm=>exact ⟨es,by simpa [mapOf] using hes,rfl⟩
     | _=>simp [mapOf] at hes
    | _=>simp [mapOf] at hes
   | _=>rw [hv] at hes;simp [mapOf] at hes
  obtain ⟨es2,m1,m2⟩:=hm
  simp only [m1]
  split at h
  case isFalse=>cases h
  rename_i hsh
  rw [if_pos hsh]
  split at h
  case h_2=>cases h
  rename_i r hf
  have hf2:=find_dn (ks:=ks) (key:=s.rd key) (i:=0) m2
  rw [hf] at hf2
  cases hf3:findKey ks (s.rd key) es2 0 with
  | none=>rw [hf3] at hf2;cases hf2
  | some r2 =>
   rw [hf3] at hf2
   simp only [Option.map_some,Option.some.injEq] at hf2
   obtain ⟨g1,g2⟩:=got_dn (zs:=zs) hf2
   simp only [g1,g2]
   cases h
   exact ⟨rfl,rfl⟩
 | app k bytes x y =>
  have hy:=rd (x:=y) (fun t h=>h)
  have hx:=raw (x:=x) (fun t h=>by simp [AOp.takes,h])
  simp only [stepOp,hx,hy] at h ⊢
  split at h
  case h_2=>cases h
  rename_i ys hys
  have hm:rowsOf s2.σ (s.rd y)=some ys:=by
   cases hv:s.rd y with
   | c c =>
    rw [hv] at hys
    cases c with
    | b b =>
     cases b with
     | arr k l off len =>
      simp only [rowsOf] at hys ⊢
      split at hys
      case h_2=>cases hys
      rename_i cs hcs
      obtain ⟨o2,e1,e2⟩:=hσ y rfl l (by simp [hv,objOf]) _ (getCells_obj hcs)
      obtain ⟨cs2,rfl,e3⟩:=dn_cells e2
      simp only [getCells,e1]
      rw [← hys,← chunk_down k len (cs2.drop off),← chunk_down k len (cs.drop off),List.map_drop,e3,List.map_drop]
     | d x=>cases x<;>exact hys
     | _=>exact hys
    | _=>exact hys
   | _=>rw [hv] at hys;exact hys
  simp only [hm]
  split at h
  case isFalse=>cases h
  rename_i h1
  rw [if_pos h1]
  split at h
  case h_2=>cases h
  split at h
  case isFalse=>cases h
  rename_i h2
  rw [if_pos h2]
  cases h
  refine ⟨?_,?_⟩
  ·simp only [AOp.after];rw [← took_st s x]
  ·simp only [AOp.after];rw [← took_st s2 x]
 | len kd x =>
  have hx:=rd (x:=x) (fun t h=>h)
  match kd,hb with
  | 2,_ =>
   simp only [stepOp,hx] at h ⊢
   cases hv:s.rd x with
   | c c =>
    rw [hv] at h
    cases c with
    | b b =>
     cases b with
     | map l =>
      simp only at h ⊢
      split at h
      case h_2=>cases h
      rename_i es hes
      obtain ⟨o2,e1,e2⟩:=hσ x rfl l (by simp [hv,objOf]) _ hes
      obtain ⟨es2,rfl,e3⟩:=dn_map e2
      have hlen:es2.length=es.length:=by simpa using congrArg List.length e3
      cases h
      exact ⟨rfl,by simp only [e1,hlen];rfl⟩
     | nilm=>simp only at h ⊢;cases h;exact ⟨rfl,rfl⟩
     | _=>simp at h
    | _=>simp at h
   | _=>rw [hv] at h;simp at h
  | 0,h=>simp [AOp.isR] at h
  | 1,h=>simp [AOp.isR] at h
  | n+3,h=>simp [AOp.isR] at h
 | _=>simp [AOp.isR] at hb
theorem view_set {σ:List Ob} {l:Nat} {o o2:Ob} (h:σ[l]?=some o) (h2:dnO o2=dnO o) (m:Nat):((σ.set l o2)[m]?).map dnO=(σ[m]?).map dnO:=by
 rw [List.getElem?_set]
 split
 ·subst_vars
  split
  ·rw [h];simp [h2]
  ·rename_i hlt;exact absurd (List.getElem?_eq_some_iff.mp h).1 hlt
 ·rfl
theorem set_app {σ zs:List Ob} {l:Nat} {o:Ob} (h:l < σ.length):(σ ++ zs).set l o=σ.set l o ++ zs:=by
 rw [List.set_append,if_pos h]
theorem cells_set_down {cs:List C} {off:Nat} {c:C} (h:cs[off]?=some c):(cs.set off c.down).map C.down=cs.map C.down:=by
 apply List.ext_getElem?
 intro i
 simp only [List.getElem?_map,List.getElem?_set]
 split
 ·subst_vars
  split
  ·rw [h];simp [cdown_down]
  ·rename_i hlt;exact absurd (List.getElem?_eq_some_iff.mp h).1 hlt
 ·rfl
theorem step_take {op:AOp} {v:V} (hb:op.isT=true) (h:stepOp F bd s op=some (v,s1)) :
  s1.σ.length=s.σ.length∧(∀ m:Nat,(s1.σ[m]?).map dnO=(s.σ[m]?).map dnO)∧∀ zs:List Ob,stepOp F bd ⟨s.env,s.σ ++ zs⟩ op=some (v,⟨s.env,s1.σ ++ zs⟩):=by
 have get:∀ {l:Nat} {o:Ob} (zs:List Ob),s.σ[l]?=some o→(s.σ ++ zs)[l]?=some o:=fun zs h=>by
  rw [List.getElem?_append_left (List.getElem?_eq_some_iff.mp h).1];exact h
 have rdz:∀ (zs:List Ob) (x:Opd),St.rd ⟨s.env,s.σ ++ zs⟩ x=s.rd x:=fun zs x=>by cases x<;>rfl
 cases op with
 | ld m n x =>
  match m,n,hb with
  | .own,none,_ =>
   simp only [stepOp] at h
   split at h
   case h_2=>cases h
   rename_i l off hl
   split at h
   case h_2=>cases h
   rename_i cs hcs
   split at h
   case h_2=>cases h
   rename_i c hc
   split at h
   case isFalse=>cases h
   rename_i hle
   cases h
   have hs:=getCells_obj hcs
   refine ⟨by simp,fun m=>view_set hs (by simp only [dnO,cells_set_down hc]) m,fun zs=>?_⟩
   simp only [stepOp,rdz,hl]
   have:getCells (s.σ ++ zs) l=some cs:=by simp only [getCells,get zs hs]
   simp only [this,hc,if_pos hle,set_app (List.getElem?_eq_some_iff.mp hs).1]
 | lko ks k x key =>
  simp only [stepOp] at h
  split at h
  case h_2=>cases h
  rename_i l hl
  split at h
  case h_2=>cases h
  rename_i es hes
  split at h
  case isFalse=>cases h
  rename_i hsh
  split at h
  ·rename_i i v0 hf
   split at h
   case h_2=>cases h
   rename_i e he
   split at h
   case h_2=>cases h
   rename_i c hc
   cases h
   refine ⟨by simp,fun m=>view_set hes ?_ m,fun zs=>?_⟩
   ·simp only [dnO,Ob.map.injEq]
    apply List.ext_getElem?
    intro j
    simp only [List.getElem?_map,List.getElem?_set]
    split
    ·subst_vars
     split
     ·rw [he];simp [hc,V.down,cdown_down]
     ·rename_i hlt;exact absurd (List.getElem?_eq_some_iff.mp he).1 hlt
    ·rfl
   ·simp only [stepOp,rdz,hl,get zs hes,if_pos hsh,hf,he,hc,set_app (List.getElem?_eq_some_iff.mp hes).1]
  ·rename_i hf
   cases h
   refine ⟨rfl,fun m=>rfl,fun zs=>?_⟩
   simp only [stepOp,rdz,hl,get zs hes,if_pos hsh,hf]
  ·cases h
 | _=>simp [AOp.isT] at hb
theorem step_make {op:AOp} {v:V} (hK:KeepF F) (hb:op.isM=true) (h:stepOp F bd s op=some (v,s1)):s.σ.length≤s1.σ.length∧∀ l,l < s.σ.length→s1.σ[l]?=s.σ[l]?:=by
 have app:∀ (zs:List Ob),s.σ.length≤(s.σ ++ zs).length∧∀ l,l < s.σ.length→(s.σ ++ zs)[l]?=s.σ[l]?:=fun zs=>⟨by simp,fun l hl=>List.getElem?_append_left hl⟩
 cases op with
 | alloc zs=>simp only [stepOp,Option.some.injEq,Prod.mk.injEq] at h;obtain ⟨_,rfl⟩:=h;exact app _
 | mkm=>simp only [stepOp,Option.some.injEq,Prod.mk.injEq] at h;obtain ⟨_,rfl⟩:=h;exact app _
 | box x =>
  simp only [stepOp] at h
  split at h<;>cases h
  exact app _
 | bsl m k n zs ps =>
  cases m with
  | arr =>
   simp only [stepOp] at h
   split at h<;>cases h
   exact app _
  | _=>simp [AOp.isM] at hb
 | mks m k b zs x y =>
  cases m with
  | arr =>
   simp only [stepOp] at h
   repeat' split at h
   all_goals cases h
   exact app _
  | _=>simp [AOp.isM] at hb
 | callp f xs =>
  simp only [stepOp] at h
  split at h
  case h_2=>cases h
  rename_i v' σ' hF
  split at h
  case isFalse=>cases h
  rename_i hle
  cases h
  exact ⟨hle,fun l hl=>hK _ _ _ _ _ _ _ hF l (Nat.lt_of_lt_of_le hl (Nat.le_max_right _ _)) hl⟩
 | _=>simp [AOp.isM] at hb
theorem step_hurt {op:AOp} {v:V} (hb:op.isW=true) (h:stepOp F bd s op=some (v,s1)) :
  ∃ hs:List Nat,(∀ m,m < s.σ.length→m ∉ hs→s1.σ[m]?=s.σ[m]?)∧s.σ.length≤s1.σ.length∧∀ l ∈ hs,∀ t ∈ op.fars,∀ o,(s.env.get t).down≠.c (.b (.ptr l o)):=by
 cases op with
 | stl n a x rs =>
  simp only [stepOp] at h
  split at h
  case h_2=>cases h
  rename_i l cs hl hcs
  split at h
  case h_2=>cases h
  rename_i zs hzs
  split at h
  case isFalse=>cases h
  rename_i hc
  cases h
  refine ⟨[l],fun m _ hm=>?_,by simp,fun l' hl' t ht o he=>?_⟩
  ·rw [List.getElem?_set_ne (fun e=>hm (by simp [e]))]
  ·simp only [List.mem_singleton] at hl'
   subst hl'
   have:=List.all_eq_true.1 hc.2.2.2 t ht
   simp [farFrom,he] at this
 | appl k bytes x y rs =>
  simp only [stepOp] at h
  split at h
  case h_2=>cases h
  split at h
  ·split at h
   case isFalse=>cases h
   split at h
   ·cases h;exact ⟨[],fun _ _ _=>rfl,Nat.le_refl _,by simp⟩
   ·cases h;exact ⟨[],fun m hm _=>List.getElem?_append_left hm,by simp,by simp⟩
  ·rename_i l off len hl
   split at h
   case h_2=>cases h
   split at h
   case isFalse=>cases h
   rename_i hc
   cases h
   refine ⟨[l],fun m hm hml=>?_,by simp,fun l' hl' t ht o he=>?_⟩
   ·simp only
    rw [List.getElem?_append_left (by simpa using hm),List.getElem?_set_ne (fun e=>hml (by simp [e]))]
   ·simp only [List.mem_singleton] at hl'
    subst hl'
    have:=List.all_eq_true.1 hc.2.2.2.2.2 t ht
    simp [farFrom,he] at this
  ·cases h
 | _=>simp [AOp.isW] at hb
theorem step_map {op:AOp} {v:V} (hb:op.isP=true) (h:stepOp F bd s op=some (v,s1)):∃ l es es',s.σ[l]?=some (.map es)∧s1.σ=s.σ.set l (.map es'):=by
 cases op with
 | upd ks x key v =>
  simp only [stepOp] at h
  repeat' split at h
  all_goals cases h
  all_goals exact ⟨_,_,_,by assumption,rfl⟩
 | updo ks x key v =>
  simp only [stepOp] at h
  repeat' split at h
  all_goals cases h
  all_goals exact ⟨_,_,_,by assumption,rfl⟩
 | ment ks x key =>
  simp only [stepOp] at h
  repeat' split at h
  all_goals cases h
  all_goals exact ⟨_,_,_,by assumption,rfl⟩
 | estr x st v =>
  simp only [stepOp] at h
  repeat' split at h
  all_goals cases h
  all_goals exact ⟨_,_,_,by assumption,rfl⟩
 | _=>simp [AOp.isP] at hb
theorem step_cells {op:AOp} {v:V} (hb:op.isC=true) (h:stepOp F bd s op=some (v,s1)):∀ x,op.look=some x→∀ l ∈ objOf (s.rd x),∃ cs,s.σ[l]?=some (.cells cs):=by
 intro x hx l hl
 have fin:∀ {l l':Nat} {cs:List C},getCells s.σ l'=some cs→l=l'→∃ cs,s.σ[l]?=some (.cells cs):=fun h e=>⟨_,e ▸ getCells_obj h⟩
 cases op with
 | ld m n y =>
  cases m with
  | cp =>
   simp only [AOp.look,Option.some.injEq] at hx
   subst hx
   simp only [stepOp] at h
   split at h
   ·rename_i l' o hv
    rw [hv] at hl
    split at h
    case h_2=>cases h
    rename_i cs hcs
    exact fin hcs (by simpa [objOf] using hl)
   ·rename_i hv
    rw [hv] at hl
    simp [objOf] at hl
   ·cases h
  | _=>simp [AOp.isC] at hb
 | ldn n y u =>
  simp only [AOp.look,Option.some.injEq] at hx
  subst hx
  simp only [stepOp] at h
  split at h
  case h_2=>cases h
  rename_i l' o _ _ hv _
  rw [hv] at hl
  split at h
  case isFalse=>cases h
  split at h
  case h_2=>cases h
  rename_i cs hcs
  exact fin hcs (by simpa [objOf] using hl)
 | app k b z y =>
  simp only [AOp.look,Option.some.injEq] at hx
  subst hx
  simp only [stepOp] at h
  split at h
  case h_2=>cases h
  rename_i ys hys
  cases hv:s.rd y with
  | c c =>
   rw [hv] at hl hys
   cases c with
   | b b =>
    cases b with
    | arr k l' off len =>
     simp only [rowsOf] at hys
     split at hys
     case h_2=>cases hys
     rename_i cs hcs
     exact fin hcs (by simpa [objOf] using hl)
    | d d=>simp [objOf] at hl
    | ptr=>simp [rowsOf] at hys
    | map=>simp [rowsOf] at hys
    | _=>simp [objOf] at hl
   | _=>simp [objOf] at hl
  | _=>rw [hv] at hl;simp [objOf] at hl
 | _=>simp [AOp.isC] at hb
end
def AIns.writes (i:AIns):List Nat:=i.op.takes ++ i.dst.toList
def AIns.gtmp (i:AIns):List Nat:=match i.guard with | some (t,_)=>[t] | none=>[]
def AIns.stricts (i:AIns):List Nat:=i.op.strict ++ i.gtmp
def AIns.touch (i:AIns):List Nat:=i.op.rds ++ i.op.takes ++ i.stricts ++ i.dst.toList
structure Agree (i:AIns) (s s2:St):Prop where
 rds:∀ t ∈ i.op.rds,(s2.env.get t).down=(s.env.get t).down
 raws:∀ t ∈ i.op.takes ++ i.stricts,s2.env.get t=s.env.get t
structure Apart (i j:AIns):Prop where
 d1:∀ t,i.dst=some t→t ∉ j.touch
 d2:∀ t,j.dst=some t→t ∉ i.touch
 t1:∀ t ∈ i.op.takes,t ∉ j.op.takes∧t ∉ j.stricts
 t2:∀ t ∈ j.op.takes,t ∉ i.stricts
section
variable {F:Oracle} {bd:Bd} {s s1 s2 s3 s':St} {i j:AIns}
theorem took_get (s:St) (x:Opd) (t:Nat):((s.took x).env.get t).down=(s.env.get t).down∧(t ∉ x.tmps→(s.took x).env.get t=s.env.get t):=by
 cases x with
 | k v=>exact ⟨rfl,fun _=>rfl⟩
 | t n =>
  simp only [St.took,env_get_cons]
  by_cases h:n=t
  ·subst h;simp [down_down,Opd.tmps]
  ·simp [h]
theorem took_same {x:Opd} (h:∀ t ∈ x.tmps,s2.env.get t=s.env.get t):∀ t ∈ x.tmps,(s2.took x).env.get t=(s.took x).env.get t:=by
 cases x with
 | k v=>intro t ht;simp [Opd.tmps] at ht
 | t n =>
  intro t ht
  simp only [Opd.tmps,List.mem_singleton] at ht
  subst ht
  simp only [St.took,env_get_cons,if_true,h t (by simp [Opd.tmps])]
theorem after_get (op:AOp) (s:St) (t:Nat):((op.after s).get t).down=(s.env.get t).down∧(t ∉ op.takes→(op.after s).get t=s.env.get t):=by
 have none:((s.env).get t).down=(s.env.get t).down∧(t ∉ op.takes→(s.env).get t=s.env.get t):=⟨rfl,fun _=>rfl⟩
 cases op with
 | mov m x=>cases m<;>first | exact none | exact took_get s x t
 | slc m k x lo hi=>cases m<;>first | exact none | exact took_get s x t
 | box x=>exact took_get s x t
 | st n a x=>exact took_get s x t
 | app k b x y=>exact took_get s x t
 | updo ks a b x=>exact took_get s x t
 | stl n a x rs=>exact took_get s x t
 | ext i x =>
  cases x with
  | k v=>exact none
  | t n =>
   simp only [AOp.after]
   split
   ·rename_i vs hvs
    split
    ·simp only [env_get_cons]
     by_cases h:n=t
     ·subst h;simp [hvs,V.down,AOp.takes,Opd.tmps]
     ·simp [h]
    ·exact none
   ·exact none
 | _=>exact none
theorem after_same {op:AOp} (h:∀ t ∈ op.takes,s2.env.get t=s.env.get t):∀ t ∈ op.takes,(op.after s2).get t=(op.after s).get t:=by
 cases op with
 | mov m x=>cases m<;>first | exact h | exact took_same h
 | slc m k x lo hi=>cases m<;>first | exact h | exact took_same h
 | box x=>exact took_same h
 | st n a x=>exact took_same h
 | app k b x y=>exact took_same h
 | updo ks a b x=>exact took_same h
 | stl n a x rs=>exact took_same h
 | ext i x =>
  cases x with
  | k v=>exact h
  | t n =>
   have hn:=h n (by simp [AOp.takes,Opd.tmps])
   intro t ht
   simp only [AOp.takes,Opd.tmps,List.mem_singleton] at ht
   subst ht
   simp only [AOp.after,hn]
   split
   ·split
    ·simp only [env_get_cons,if_true]
    ·exact hn
   ·exact hn
 | _=>exact h
theorem ins_lift {R:List Ob→List Ob→Prop} (hA:Agree i s s2) (h:stepIns F bd s i=some s1) (hskip:R s.σ s2.σ)
  (hop:∀ (v:V) (s':St),stepOp F bd s i.op=some (v,s')→s'.env=i.op.after s∧∃ σ',stepOp F bd s2 i.op=some (v,⟨i.op.after s2,σ'⟩)∧R s'.σ σ') :
  ∃ s3,stepIns F bd s2 i=some s3∧R s1.σ s3.σ∧(∀ t ∈ i.writes,s3.env.get t=s1.env.get t)∧(∀ t,t ∉ i.writes→s3.env.get t=s2.env.get t):=by
 have go:∀ {v:V} {s':St},stepOp F bd s i.op=some (v,s')→s1=s'.set i.dst v→∃ s3,stepOp F bd s2 i.op=some (v,s3)∧R s1.σ (s3.set i.dst v).σ∧(∀ t ∈ i.writes,(s3.set i.dst v).env.get t=s1.env.get t)∧(∀ t,t ∉ i.writes→(s3.set i.dst v).env.get t=s2.env.get t):=by
  intro v s' h0 h1
  obtain ⟨e1,σ',e2,e3⟩:=hop v s' h0
  subst h1
  refine ⟨_,e2,by rw [set_st,set_st];exact e3,fun t ht=>?_,fun t ht=>?_⟩
  ·rw [set_get,set_get]
   split
   ·rfl
   ·rename_i hne
    simp only [AIns.writes,List.mem_append,Option.mem_toList] at ht
    rw [e1]
    exact after_same (fun t ht=>hA.raws t (List.mem_append_left _ ht)) t (ht.resolve_right hne)
  ·simp only [AIns.writes,List.mem_append,Option.mem_toList,not_or] at ht
   rw [set_get,if_neg ht.2]
   exact (after_get i.op s2 t).2 ht.1
 have skp:s1=s.set i.dst (.tup [])→∃ s3,some (s2.set i.dst (.tup []))=some s3∧R s1.σ s3.σ∧(∀ t ∈ i.writes,s3.env.get t=s1.env.get t)∧(∀ t,t ∉ i.writes→s3.env.get t=s2.env.get t):=by
  intro h1
  subst h1
  refine ⟨_,rfl,by rw [set_st,set_st];exact hskip,fun t ht=>?_,fun t ht=>?_⟩
  ·rw [set_get,set_get]
   split
   ·rfl
   ·rename_i hne
    simp only [AIns.writes,List.mem_append,Option.mem_toList] at ht
    exact hA.raws t (List.mem_append_left _ (ht.resolve_right hne))
  ·simp only [AIns.writes,List.mem_append,Option.mem_toList,not_or] at ht
   rw [set_get,if_neg ht.2]
 unfold stepIns at h ⊢
 split at h
 ·split at h
  case h_2=>cases h
  rename_i v s0 h0
  simp only [Option.some.injEq] at h
  obtain ⟨s3,k1,k2⟩:=go h0 h.symm
  exact ⟨_,by rw [k1],k2⟩
 ·rename_i gt want hg
  have hgt:s2.env.get gt=s.env.get gt:=hA.raws gt (by simp [AIns.stricts,AIns.gtmp,hg])
  rw [hgt]
  split at h
  case h_3=>cases h
  case h_2=>simp only [Option.some.injEq] at h;exact skp h.symm
  rename_i b hb
  cases hwn:b == want with
  | true =>
   rw [hwn] at h
   simp only [cond_true] at h ⊢
   split at h
   case h_2=>cases h
   rename_i v s0 h0
   simp only [Option.some.injEq] at h
   obtain ⟨s3,k1,k2⟩:=go h0 h.symm
   exact ⟨_,by rw [k1],k2⟩
  | false =>
   rw [hwn] at h
   simp only [cond_false,Option.some.injEq] at h ⊢
   obtain ⟨s3,k1,k2⟩:=skp h.symm
   exact ⟨s3,by simpa using k1,k2⟩
theorem ins_cases (h:stepIns F bd s i=some s1):s1=s.set i.dst (.tup [])∨∃ v s',stepOp F bd s i.op=some (v,s')∧s1=s'.set i.dst v:=by
 unfold stepIns at h
 split at h
 ·split at h
  case h_2=>cases h
  rename_i v s0 h0
  cases h
  exact .inr ⟨v,s0,h0,rfl⟩
 ·split at h
  case h_3=>cases h
  case h_2=>cases h;exact .inl rfl
  rename_i want _ _ b _
  cases hwn:b == want with
  | true =>
   rw [hwn,cond_true] at h
   split at h
   case h_2=>cases h
   rename_i v s0 h0
   cases h
   exact .inr ⟨v,s0,h0,rfl⟩
  | false =>
   rw [hwn,cond_false] at h
   cases h
   exact .inl rfl
theorem ins_is {p:List Ob→Prop} (h:stepIns F bd s i=some s1) (hskip:p s.σ) (hop:∀ (v:V) (s':St),stepOp F bd s i.op=some (v,s')→p s'.σ):p s1.σ:=by
 rcases ins_cases h with rfl | ⟨v,s',h0,rfl⟩
 ·rw [set_st];exact hskip
 ·rw [set_st];exact hop v s' h0
theorem agree_refl (i:AIns) (s:St):Agree i s s:=⟨fun _ _=>rfl,fun _ _=>rfl⟩
theorem congr_op (hA:Agree i s s2) (hσ:s2.σ=s.σ) {v:V} (h:stepOp F bd s i.op=some (v,s')):s'.env=i.op.after s∧∃ σ',stepOp F bd s2 i.op=some (v,⟨i.op.after s2,σ'⟩)∧σ'=s'.σ:=by
 obtain ⟨h1,h2⟩:=step_congr (F:=F) (bd:=bd) hσ hA.rds (fun t ht=>hA.raws t (by simp only [List.mem_append] at ht ⊢;rcases ht with ht | ht;exact .inl ht;exact .inr (by simp [AIns.stricts,ht])))
 refine ⟨h2 _ h,s'.σ,?_,rfl⟩
 rw [h1,h]
 rfl
theorem ins_congr (hA:Agree i s s2) (hσ:s2.σ=s.σ) (h:stepIns F bd s i=some s1) :
  ∃ s3,stepIns F bd s2 i=some s3∧s3.σ=s1.σ∧(∀ t ∈ i.writes,s3.env.get t=s1.env.get t)∧(∀ t,t ∉ i.writes→s3.env.get t=s2.env.get t) :=
 ins_lift (R:=fun a b=>b=a) hA h hσ (fun v s' h=>by
  obtain ⟨h1,σ',h2,h3⟩:=congr_op hA hσ h
  exact ⟨h1,σ',h2,h3⟩)
theorem ins_env (h:stepIns F bd s i=some s1):(∀ t,t ∉ i.writes→s1.env.get t=s.env.get t)∧∀ t,i.dst≠some t→(s1.env.get t).down=(s.env.get t).down:=by
 have hop:∀ (v:V) (s':St),stepOp F bd s i.op=some (v,s')→(∀ t,t ∉ i.writes→(s'.set i.dst v).env.get t=s.env.get t)∧∀ t,i.dst≠some t→((s'.set i.dst v).env.get t).down=(s.env.get t).down:=by
  intro v s' h0
  have he:=(congr_op (agree_refl i s) rfl h0).1
  refine ⟨fun t ht=>?_,fun t ht=>?_⟩
  ·simp only [AIns.writes,List.mem_append,Option.mem_toList,not_or] at ht
   rw [set_get,if_neg ht.2,he];exact (after_get i.op s t).2 ht.1
  ·rw [set_get,if_neg ht,he];exact (after_get i.op s t).1
 have hsk:(∀ t,t ∉ i.writes→(s.set i.dst (.tup [])).env.get t=s.env.get t)∧∀ t,i.dst≠some t→((s.set i.dst (.tup [])).env.get t).down=(s.env.get t).down:=by
  refine ⟨fun t ht=>?_,fun t ht=>by rw [set_get,if_neg ht]⟩
  simp only [AIns.writes,List.mem_append,Option.mem_toList,not_or] at ht
  rw [set_get,if_neg ht.2]
 rcases ins_cases h with rfl | ⟨v,s',h0,rfl⟩
 ·exact hsk
 ·exact hop v s' h0
theorem touch_rds {t:Nat} (h:t ∈ i.op.rds):t ∈ i.touch:=by simp [AIns.touch,h]
theorem touch_raws {t:Nat} (h:t ∈ i.op.takes ++ i.stricts):t ∈ i.touch:=by
 simp only [AIns.touch,List.mem_append] at h ⊢
 rcases h with h | h
 ·exact .inl (.inl (.inr h))
 ·exact .inl (.inr h)
theorem touch_dst {t:Nat} (h:i.dst=some t):t ∈ i.touch:=by simp [AIns.touch,h]
theorem Apart.symm (h:Apart i j):Apart j i:=⟨h.d2,h.d1,fun t ht=>⟨fun h'=>(h.t1 t h').1 ht,h.t2 t ht⟩,fun t ht=>(h.t1 t ht).2⟩
theorem Apart.agree (h:Apart i j) (h1:stepIns F bd s i=some s1):Agree j s s1:=by
 obtain ⟨e1,e2⟩:=ins_env h1
 refine ⟨fun t ht=>e2 t fun hd=>h.d1 t hd (touch_rds ht),fun t ht=>e1 t ?_⟩
 simp only [AIns.writes,List.mem_append,Option.mem_toList,not_or]
 refine ⟨fun hk=>?_,fun hd=>h.d1 t hd (touch_raws ht)⟩
 simp only [List.mem_append] at ht
 rcases ht with ht | ht
 ·exact (h.t1 t hk).1 ht
 ·exact (h.t1 t hk).2 ht
theorem agree_symm (h:Agree i s s2):Agree i s2 s:=⟨fun t ht=>(h.rds t ht).symm,fun t ht=>(h.raws t ht).symm⟩
def AOp.near:AOp→List Nat
 | .ldn _ _ u=>u.tmps
 | _=>[]
def AOp.farsOk (r w:AOp):Bool:=match r with
 | .ldn _ _ (.t t)=>w.fars.any (Nat.beq t)
 | _=>false
def clsOk (a b:AOp):Bool :=
 a.isB || b.isB || (a.isR && (b.isR || b.isT || b.isM || (b.isW && a.farsOk b) || (a.isC && b.isP))) || (b.isR && (a.isT || a.isM || (a.isW && b.farsOk a) || (b.isC && a.isP))) || (a.isT && b.isA)
def Stood (n:Nat) (s:St) (j:AIns):Prop:=j.op.isR=true→n≤s.σ.length∧∀ x,j.op.look=some x→∀ l ∈ objOf (s.rd x),l < n
theorem look_rds {op:AOp} {x:Opd} (h:op.look=some x) (hR:op.isR=true):∀ t ∈ x.tmps,t ∈ op.rds:=by
 cases op with
 | ld m n y=>cases m<;>simp [AOp.look,AOp.isR] at h hR;subst h;exact fun t h=>h
 | ldn n y u=>simp only [AOp.look,Option.some.injEq] at h;subst h;exact fun t h=>by simp [AOp.rds,h]
 | lkp ks zs ok y k=>simp only [AOp.look,Option.some.injEq] at h;subst h;exact fun t h=>by simp [AOp.rds,h]
 | app k b y z=>simp only [AOp.look,Option.some.injEq] at h;subst h;exact fun t h=>h
 | len k y=>simp only [AOp.look,Option.some.injEq] at h;subst h;exact fun t h=>h
 | _=>simp [AOp.isR] at hR
theorem far_look {r w:AOp} {l:Nat} (hf:r.farsOk w=true) (hs:∀ t ∈ w.fars,t ∈ r.near→∀ o,(s.env.get t).down≠.c (.b (.ptr l o)))
  {v:V} (h:stepOp F bd s r=some (v,s')):∀ x,r.look=some x→∀ m ∈ objOf (s.rd x),m≠l:=by
 intro x hx m hm he
 subst he
 cases r with
 | ldn n y u =>
  cases u with
  | t t =>
   simp only [AOp.farsOk,List.any_eq_true] at hf
   obtain ⟨t',h1,h2⟩:=hf
   have h2:=Nat.eq_of_beq_eq_true h2
   subst h2
   simp only [AOp.look,Option.some.injEq] at hx
   subst hx
   have:=hs t h1 (by simp [AOp.near,Opd.tmps])
   simp only [stepOp] at h
   split at h
   case h_2=>cases h
   rename_i l' o' l2 o2 hv hu
   rw [hv] at hm
   simp only [objOf,List.mem_singleton] at hm
   subst hm
   split at h
   case isFalse=>cases h
   rename_i hll
   subst hll
   exact this o2 hu
  | k v=>simp [AOp.farsOk] at hf
 | _=>simp [AOp.farsOk] at hf
theorem near_rds {op:AOp} {t:Nat} (h:t ∈ op.near):t ∈ op.rds:=by
 cases op<;>simp only [AOp.near,List.not_mem_nil] at h
 simp [AOp.rds,h]
theorem fars_rds {op:AOp} {t:Nat} (h:t ∈ op.fars):t ∈ op.rds:=by
 cases op<;>simp only [AOp.fars,List.not_mem_nil] at h
 all_goals simp [AOp.rds,h]
theorem isR_st (hb:i.op.isR=true) (h:stepIns F bd s i=some s1):s1.σ=s.σ :=
 ins_is (p:=fun σ=>σ=s.σ) h rfl (fun v s' h0=>by
  have:=(step_read (s2:=s) hb (fun x _ l _ o ho=>⟨o,ho,rfl⟩) (fun _ _=>rfl) (fun _ _=>rfl) h0).1
  rw [this])
theorem isB_st (hb:i.op.isB=true) (h:stepIns F bd s i=some s1):s1.σ=s.σ :=
 ins_is (p:=fun σ=>σ=s.σ) h rfl (fun v s' h0=>by
  have:=(step_blind (F:=F) (bd:=bd) (s:=s) (s2:=s) hb (fun _ _=>rfl) (fun _ _=>rfl)).2 _ h0
  simp only at this
  rw [this])
theorem ins_blind (hb:i.op.isB=true) (hA:Agree i s s2) (h:stepIns F bd s i=some s1) :
  ∃ s3,stepIns F bd s2 i=some s3∧s3.σ=s2.σ∧(∀ t ∈ i.writes,s3.env.get t=s1.env.get t)∧(∀ t,t ∉ i.writes→s3.env.get t=s2.env.get t) :=
 ins_lift (R:=fun _ b=>b=s2.σ) hA h rfl (fun v s' h0=>by
  obtain ⟨h1,h2⟩:=step_blind (F:=F) (bd:=bd) hb hA.rds (fun t ht=>hA.raws t (by simp only [List.mem_append] at ht ⊢;rcases ht with ht | ht;exact .inl ht;exact .inr (by simp [AIns.stricts,ht])))
  refine ⟨by have:=h2 _ h0;simp only at this;rw [this],s2.σ,?_,rfl⟩
  rw [h1,h0];rfl)
theorem ins_read (hb:i.op.isR=true) (hA:Agree i s s2) (hσ:∀ (v:V) (s':St),stepOp F bd s i.op=some (v,s')→Seen s s2 i.op) (h:stepIns F bd s i=some s1) :
  ∃ s3,stepIns F bd s2 i=some s3∧s3.σ=s2.σ∧(∀ t ∈ i.writes,s3.env.get t=s1.env.get t)∧(∀ t,t ∉ i.writes→s3.env.get t=s2.env.get t) :=
 ins_lift (R:=fun _ b=>b=s2.σ) hA h rfl (fun v s' h0=>by
  obtain ⟨h1,h2⟩:=step_read hb (hσ v s' h0) hA.rds (fun t ht=>hA.raws t (by simp only [List.mem_append] at ht ⊢;rcases ht with ht | ht;exact .inl ht;exact .inr (by simp [AIns.stricts,ht]))) h0
  exact ⟨by rw [h1],s2.σ,h2,rfl⟩)
theorem comm {n:Nat} (hK:KeepF F) (hap:Apart i j) (hc:clsOk i.op j.op=true) (hv:Stood n s j) (h1:stepIns F bd s i=some s1) (h2:stepIns F bd s1 j=some s2) :
  ∃ s3 s4,stepIns F bd s j=some s3∧stepIns F bd s3 i=some s4∧s4.σ=s2.σ∧∀ t,s4.env.get t=s2.env.get t:=by
 have hAj:Agree j s1 s:=agree_symm (hap.agree h1)
 have hE1:=ins_env h1
 have hE2:=ins_env h2
 have fin:∀ {s3 s4:St},(∀ t ∈ j.writes,s3.env.get t=s2.env.get t)→(∀ t,t ∉ j.writes→s3.env.get t=s.env.get t) →
   (∀ t ∈ i.writes,s4.env.get t=s1.env.get t)→(∀ t,t ∉ i.writes→s4.env.get t=s3.env.get t)→∀ t,s4.env.get t=s2.env.get t:=by
  intro s3 s4 a1 a2 a3 a4 t
  by_cases hi:t ∈ i.writes
  ·have hj:t ∉ j.writes:=by
    simp only [AIns.writes,List.mem_append,Option.mem_toList] at hi ⊢
    rintro (hj | hj)
    ·rcases hi with hi | hi
     ·exact (hap.t1 t hi).1 hj
     ·exact hap.d1 t hi (touch_raws (List.mem_append_left _ hj))
    ·rcases hi with hi | hi
     ·exact hap.d2 t hj (touch_raws (List.mem_append_left _ hi))
     ·exact hap.d1 t hi (touch_dst hj)
   rw [a3 t hi,hE2.1 t hj]
  ·rw [a4 t hi]
   by_cases hj:t ∈ j.writes
   ·exact a1 t hj
   ·rw [a2 t hj,hE2.1 t hj,hE1.1 t hi]
 simp only [clsOk,Bool.or_eq_true,Bool.and_eq_true] at hc
 rcases hc with (((hc | hc) | ⟨hR,hc⟩) | ⟨hR,hc⟩) | ⟨hT,hM⟩
 ·
  have e1:=isB_st hc h1
  obtain ⟨s3,b1,b2,b3,b4⟩:=ins_congr hAj e1.symm h2
  obtain ⟨s4,c1,c2,c3,c4⟩:=ins_blind hc (hap.symm.agree b1) h1
  exact ⟨s3,s4,b1,c1,c2.trans b2,fin b3 b4 c3 c4⟩
 ·have e2:=isB_st hc h2
  obtain ⟨s3,b1,b2,b3,b4⟩:=ins_blind hc hAj h2
  obtain ⟨s4,c1,c2,c3,c4⟩:=ins_congr (hap.symm.agree b1) b2 h1
  exact ⟨s3,s4,b1,c1,c2.trans e2.symm,fin b3 b4 c3 c4⟩
 ·
  have e1:=isR_st hR h1
  obtain ⟨s3,b1,b2,b3,b4⟩:=ins_congr hAj e1.symm h2
  have seen:∀ (v:V) (s':St),stepOp F bd s i.op=some (v,s')→Seen s s3 i.op:=by
   intro v s' h0 x hx l hl o ho
   rw [b2]
   have hlt:=(List.getElem?_eq_some_iff.mp ho).1
   rcases hc with (((hc | hc) | hc) | ⟨hc,hf⟩) | ⟨hC,hc⟩
   ·exact ⟨o,by rw [isR_st hc h2,e1];exact ho,rfl⟩
   ·have:=ins_is (p:=fun σ=>∀ m:Nat,(σ[m]?).map dnO=(s1.σ[m]?).map dnO) h2 (fun _=>rfl) (fun v s' h=>(step_take hc h).2.1) l
    rw [e1,ho] at this
    cases h3:s2.σ[l]? with
    | none=>rw [h3] at this;cases this
    | some o2=>rw [h3] at this;exact ⟨o2,rfl,by simpa using this⟩
   ·have:=ins_is (p:=fun σ=>∀ l,l < s1.σ.length→σ[l]?=s1.σ[l]?) h2 (fun _ _=>rfl) (fun v s' h=>(step_make hK hc h).2) l (by rw [e1];exact hlt)
    exact ⟨o,by rw [this,e1];exact ho,rfl⟩
   ·refine ⟨o,?_,rfl⟩
    have:=ins_is (p:=fun σ=>σ[l]?=s1.σ[l]?) h2 rfl (fun v' s'' h=>by
     obtain ⟨hs,w1,w2,w3⟩:=step_hurt hc h
     refine w1 l (by rw [e1];exact hlt) fun hl'=>?_
     exact far_look (s:=s) hf (fun t ht hnr o=>by
      rw [← hE1.2 t (fun hd=>hap.d1 t hd (touch_rds (fars_rds ht)))]
      exact w3 l hl' t ht o) h0 x hx l hl rfl)
    rw [this,e1];exact ho
   ·refine ⟨o,?_,rfl⟩
    obtain ⟨cs,hcs⟩:=step_cells hC h0 x hx l hl
    have:=ins_is (p:=fun σ=>σ[l]?=s1.σ[l]?) h2 rfl (fun v' s'' h=>by
     obtain ⟨lw,es,es',w1,w2⟩:=step_map hc h
     rw [w2,List.getElem?_set_ne]
     rintro rfl
     rw [e1,hcs] at w1
     cases w1)
    rw [this,e1];exact ho
  obtain ⟨s4,c1,c2,c3,c4⟩:=ins_read hR (hap.symm.agree b1) seen h1
  exact ⟨s3,s4,b1,c1,c2.trans b2,fin b3 b4 c3 c4⟩
 ·
  have e2:=isR_st hR h2
  obtain ⟨n1,n2⟩:=hv hR
  have hrd:∀ x,j.op.look=some x→s1.rd x=s.rd x:=fun x hx=>rd_same fun t ht=>(hAj.rds t (look_rds hx hR t ht)).symm
  have seen:∀ (v:V) (s':St),stepOp F bd s1 j.op=some (v,s')→Seen s1 s j.op:=by
   intro v s' h0 x hx l hl o ho
   rw [hrd x hx] at hl
   have hlt:=Nat.lt_of_lt_of_le (n2 x hx l hl) n1
   rcases hc with ((hc | hc) | ⟨hc,hf⟩) | ⟨hC,hc⟩
   ·have:=ins_is (p:=fun σ=>∀ m:Nat,(σ[m]?).map dnO=(s.σ[m]?).map dnO) h1 (fun _=>rfl) (fun v s' h=>(step_take hc h).2.1) l
    rw [ho] at this
    cases h3:s.σ[l]? with
    | none=>rw [h3] at this;cases this
    | some o2=>rw [h3] at this;exact ⟨o2,rfl,by simpa using this.symm⟩
   ·have:=ins_is (p:=fun σ=>∀ l,l < s.σ.length→σ[l]?=s.σ[l]?) h1 (fun _ _=>rfl) (fun v s' h=>(step_make hK hc h).2) l hlt
    exact ⟨o,by rw [← this];exact ho,rfl⟩
   ·refine ⟨o,?_,rfl⟩
    have:=ins_is (p:=fun σ=>σ[l]?=s.σ[l]?) h1 rfl (fun v' s'' h=>by
     obtain ⟨hs,w1,w2,w3⟩:=step_hurt hc h
     refine w1 l hlt fun hl'=>?_
     exact far_look (s:=s1) hf (fun t ht hnr o=>by
      rw [hE1.2 t (fun hd=>hap.d1 t hd (touch_rds (near_rds hnr)))]
      exact w3 l hl' t ht o) h0 x hx l (by rw [hrd x hx];exact hl) rfl)
    rw [← this];exact ho
   ·refine ⟨o,?_,rfl⟩
    obtain ⟨cs,hcs⟩:=step_cells hC h0 x hx l (by rw [hrd x hx];exact hl)
    rcases ins_cases h1 with h3 | ⟨v3,s5,h3,h4⟩
    ·rw [h3,set_st] at ho;exact ho
    ·obtain ⟨lw,es,es',w1,w2⟩:=step_map hc h3
     rw [h4,set_st,w2] at ho hcs
     by_cases he:lw=l
     ·subst he
      rw [List.getElem?_set_self (List.getElem?_eq_some_iff.mp w1).1] at hcs
      cases hcs
     ·rwa [List.getElem?_set_ne he] at ho
  obtain ⟨s3,b1,b2,b3,b4⟩:=ins_read hR hAj seen h2
  obtain ⟨s4,c1,c2,c3,c4⟩:=ins_congr (hap.symm.agree b1) b2 h1
  exact ⟨s3,s4,b1,c1,c2.trans e2.symm,fin b3 b4 c3 c4⟩
 ·
  have hlen:=ins_is (p:=fun σ=>σ.length=s.σ.length) h1 rfl (fun v s' h=>(step_take hT h).1)
  obtain ⟨s3,b1,⟨zz,b2,b2'⟩,b3,b4⟩:=ins_lift (R:=fun a b=>∃ zz,a=s1.σ ++ zz∧b=s.σ ++ zz) hAj h2 ⟨[],by simp,by simp⟩ (fun v s' h0=>by
   cases hop:j.op with
   | alloc zs =>
    rw [hop] at h0
    simp only [stepOp,Option.some.injEq,Prod.mk.injEq] at h0 ⊢
    obtain ⟨rfl,rfl⟩:=h0
    exact ⟨rfl,_,⟨by rw [hlen],rfl⟩,[.cells zs],rfl,rfl⟩
   | _=>simp [hop,AOp.isA] at hM)
  obtain ⟨s4,c1,c2,c3,c4⟩:=ins_lift (R:=fun a b=>b=a ++ zz) (hap.symm.agree b1) h1 b2' (fun v s' h0=>by
   obtain ⟨_,_,k1⟩:=step_take hT h0
   have he:=(congr_op (agree_refl i s) rfl h0).1
   have hA':Agree i ⟨s.env,s.σ ++ zz⟩ s3:=⟨(hap.symm.agree b1).rds,(hap.symm.agree b1).raws⟩
   obtain ⟨_,σ',q1,q2⟩:=congr_op hA' b2' (k1 zz)
   exact ⟨he,σ',q1,q2⟩)
  exact ⟨s3,s4,b1,c1,by rw [c2,b2],fin b3 b4 c3 c4⟩
end
section
variable {ds:List Deferred} {g g':G} {w w':World} {Pr Pr2:Nat→Prop} {s s':St} {a a':Act}
theorem RepC.pw (hp:∀ b,g.kind b≠.free→Pr2 b→Pr b) {p:Place} {x:C} {v:Value} (h:RepC g w Pr p x v):RepC g w Pr2 p x v:=by
 cases x with
 | b x=>exact h
 | osl k rows =>
  obtain ⟨h1,h2,h3⟩:=h
  refine ⟨h1,h2,h3.imp id ?_⟩
  rintro ⟨a,cap,h4,h5⟩
  refine ⟨a,cap,h4,h5.imp id ?_⟩
  rintro ⟨s1,s2,s3,s4,s5,s6⟩
  exact ⟨s1,s2,s3,s4,fun h=>s5 (hp _ (by rw [s3];simp) h),s6⟩
 | fn f fst cap=>exact h
 | nilf=>exact h
theorem RepV1.pw (hp:∀ b,g.kind b≠.free→Pr2 b→Pr b) {r:Root} {path:List Nat} {x:V} {v:Value} (h:RepV1 g w Pr r path x v):RepV1 g w Pr2 r path x v:=by
 cases x with
 | c x=>exact RepC.pw hp h
 | agg cs =>
  obtain ⟨arr,h1,h2,h3⟩:=h
  refine ⟨arr,h1,h2,fun i c hi=>?_⟩
  obtain ⟨u,k1,k2,k3⟩:=h3 i c hi
  exact ⟨u,k1,k2,RepC.pw hp k3⟩
 | tup vs=>exact h
theorem RepV.pw (hp:∀ b,g.kind b≠.free→Pr2 b→Pr b) {r:Root} {x:V} {v:Value} (h:RepV g w Pr r x v):RepV g w Pr2 r x v:=by
 cases x with
 | c x=>exact RepV1.pw (x:=.c x) (path:=[]) hp h
 | agg cs=>exact RepV1.pw (x:=.agg cs) (path:=[]) hp h
 | tup vs =>
  obtain ⟨arr,h1,h2⟩:=h
  refine ⟨arr,h1,fun i x hi=>?_⟩
  obtain ⟨u,k1,k2⟩:=h2 i x hi
  exact ⟨u,k1,RepV1.pw hp k2⟩
theorem RepOb.pw (hp:∀ b,g.kind b≠.free→Pr2 b→Pr b) {l:Nat} {x:Ob} (h:RepOb g w Pr l x):RepOb g w Pr2 l x:=by
 cases x with
 | cells cs =>
  obtain ⟨b,o,arr,ty,h1,h2,h3,h4,h5⟩:=h
  refine ⟨b,o,arr,ty,h1,h2,h3,h4,fun i c hi=>?_⟩
  obtain ⟨u,k1,k2,k3⟩:=h5 i c hi
  exact ⟨u,k1,k2,RepC.pw hp k3⟩
 | map es =>
  obtain ⟨b,o,mes,clock,h1,h2,h3,h4,hbn,h5⟩:=h
  refine ⟨b,o,mes,clock,h1,h2,h3,h4,hbn,fun i k v hi=>?_⟩
  obtain ⟨m,k1,k2,k3⟩:=h5 i k v hi
  exact ⟨m,k1,RepV1.pw hp k2,RepV1.pw hp k3⟩
 | dead=>trivial
 | blank n=>exact h
theorem EnvOk.pw (hp:∀ b,g.kind b≠.free→Pr2 b→Pr b) {env:Env} (h:EnvOk g w Pr env a):EnvOk g w Pr2 env a:=fun t=>RepV.pw hp (h t)
theorem Inv.pr' {σ:List Ob} (hI:Inv g w Pr σ) (hp:∀ b,g.kind b≠.free→Pr2 b→Pr b) (hq:∀ b,Pr2 b→b < w.heap.size∧(∀ l,g.kind b≠.obj l)∧∀ l i,g.own b≠some (.cell l,i)):Inv g w Pr2 σ where
 len:=hI.len
 ob l o h:=RepOb.pw hp (hI.ob l o h)
 lt:=hI.lt
 pr:=hq
 gl:=hI.gl
theorem InvA.less {N:Nat} (hA:InvA N ds g w Pr s a) (hp:∀ b,Pr2 b→Pr b):InvA N ds g w Pr2 s a :=
 ⟨hA.inv.pr' (fun b _ h=>hp b h) (fun b h=>hA.inv.pr b (hp b h)),hA.env.pw (fun b _ h=>hp b h),hA.size,hA.defers⟩
def G.noOwn (g:G) (b:Nat):G:={ g with own:=fun x=>if x=b then none else g.own x }
theorem lone_kind (hI:Inv g w Pr s.σ):g.kind w.heap.size=.free:=by
 cases h:g.kind w.heap.size with
 | free=>rfl
 | _=>exact absurd (hI.lt _ (by rw [h];simp)) (by omega)
theorem lone_ext (hI:Inv g w Pr s.σ) (o:Obj):Ext g w (g.noOwn w.heap.size) (w.alloc o) where
 st x v h:=by
  obtain ⟨h1,h2,h3⟩:=h
  have hlt:x.block < w.heap.size:=hI.lt _ (by rcases h3 with h3 | ⟨n,h3,_⟩<;>rw [h3]<;>simp)
  exact ⟨h1,by rw [alloc_cell hlt];exact h2,h3⟩
 loc l x h:=h
 size:=by simp
 shape b arr ty fz h:=⟨arr,by rw [alloc_get b (Array.getElem?_eq_some_iff.mp h).1];exact h,rfl⟩
 os:=rfl
 tape:=rfl
 output:=rfl
theorem lone_keep (hI:Inv g w Pr s.σ) (p:Place):Keep g (g.noOwn w.heap.size) p:=by
 intro b n h1 h2
 have hlt:b < w.heap.size:=hI.lt _ (by rw [h2];simp)
 have hne:b≠w.heap.size:=by omega
 exact ⟨by simpa [G.noOwn,hne] using h1,h2⟩
theorem lone_fr (hI:Inv g w Pr s.σ) (o:Obj):Fr Pr g w (g.noOwn w.heap.size) (w.alloc o):=by
 intro b hb
 have hlt:=(hI.pr b hb).1
 have hne:b≠w.heap.size:=by omega
 exact ⟨alloc_get b hlt,rfl,by simp [G.noOwn,hne]⟩
theorem lone {N:Nat} (hA:InvA N ds g w Pr s a) (o:Obj):InvA N ds (g.noOwn w.heap.size) (w.alloc o) (fun b=>Pr b∨b=w.heap.size) s a:=by
 have hI:=hA.inv
 have hE:=lone_ext hI o
 have hinv:Inv (g.noOwn w.heap.size) (w.alloc o) Pr s.σ:=by
  refine ⟨hI.len,fun l x hx=>?_,fun b hb=>?_,fun b hb=>?_,hI.gl.mono hE.st⟩
  ·refine RepOb.frame hE (fun i=>lone_keep hI _) ?_ (hI.ob l x hx)
   intro b hb
   have hlt:b < w.heap.size:=hI.lt _ (by rw [hb];simp)
   exact ⟨alloc_get b hlt,hb⟩
  ·have:=hI.lt b hb
   simp;omega
  ·obtain ⟨h1,h2,h3⟩:=hI.pr b hb
   have hne:b≠w.heap.size:=by omega
   exact ⟨by simp;omega,h2,by simpa [G.noOwn,hne] using h3⟩
 have hk:(g.noOwn w.heap.size).kind w.heap.size=.free:=lone_kind (g:=g) (s:=s) hI
 have hpr:∀ b,(g.noOwn w.heap.size).kind b≠.free→(Pr b∨b=w.heap.size)→Pr b:=by
  rintro b h1 (h2 | rfl)
  ·exact h2
  ·exact absurd hk h1
 refine ⟨hinv.pr' hpr ?_,EnvOk.pw hpr (hA.env.ext hE (fun _ _=>lone_keep hI _)),hA.size,hA.defers⟩
 rintro b (hb | rfl)
 ·exact hinv.pr b hb
 ·exact ⟨by simp,by rw [hk];simp,by simp [G.noOwn]⟩
def G.adopt (g:G) (b l:Nat):G:=(g.withKind b (.obj l)).withLoc (b,0)
theorem adopt_ext {b l:Nat} (hk:g.kind b=.free):Ext g w (g.adopt b l) w where
 st x v h:=by
  obtain ⟨h1,h2,h3⟩:=h
  have hne:x.block≠b:=by rintro rfl;rcases h3 with h3 | ⟨n,h3,_⟩<;>rw [hk] at h3<;>cases h3
  exact ⟨h1,h2,by simpa [G.adopt,G.withKind,G.withLoc,hne] using h3⟩
 loc l x h:=loc_old h
 size:=Nat.le_refl _
 shape b arr ty fz h:=⟨arr,h,rfl⟩
 os:=rfl
 tape:=rfl
 output:=rfl
theorem adopt_keep {b l:Nat} (hk:g.kind b=.free) (p:Place):Keep g (g.adopt b l) p:=by
 intro x n h1 h2
 have hne:x≠b:=by rintro rfl;rw [hk] at h2;cases h2
 exact ⟨h1,by simpa [G.adopt,G.withKind,G.withLoc,hne] using h2⟩
theorem adopt_inv {N:Nat} (hA:InvA N ds g w Pr s a) {b:Nat} {arr:Array Value} {ty:TypeId} {zs:List C} (hk:g.kind b=.free) (hb:w.heap[b]?=some (.cells arr ty (0,0))) (hl:zs.length≤arr.size)
  (hc:∀ (i:Nat) (c:C),zs[i]?=some c→∃ u,arr[i]?=some u∧u.oneCell'=true∧∀ p,RepC g w Pr p c u) {d:Nat} (hd:a.tmps.getD d undef=.pointer (some ⟨b,0,none⟩)) :
  InvA N ds (g.adopt b s.σ.length) w (fun x=>Pr x∧x≠b) ⟨(d,.c (.b (.ptr s.σ.length 0))) :: s.env,s.σ ++ [.cells zs]⟩ a:=by
 have hI:=hA.inv
 have hE:Ext g w (g.adopt b s.σ.length) w:=adopt_ext hk
 have hpr:∀ x,(g.adopt b s.σ.length).kind x≠.free→(Pr x∧x≠b)→Pr x:=fun x _ h=>h.1
 have hloc:(g.adopt b s.σ.length).loc[s.σ.length]?=some (b,0):=by simp [G.adopt,G.withLoc,G.withKind,← hI.len]
 refine ⟨⟨by simp [G.adopt,G.withLoc,G.withKind,hI.len],fun l x hx=>?_,fun x hx=>?_,fun x hx=>?_,hI.gl.mono hE.st⟩,fun t=>?_,hA.size,hA.defers⟩
 ·by_cases hlt:l < s.σ.length
  ·rw [List.getElem?_append_left hlt] at hx
   refine RepOb.pw hpr (RepOb.frame hE (fun i=>adopt_keep hk _) ?_ (hI.ob l x hx))
   intro y hy
   have hne:y≠b:=by rintro rfl;rw [hk] at hy;cases hy
   exact ⟨rfl,by simpa [G.adopt,G.withKind,G.withLoc,hne] using hy⟩
  ·rw [List.getElem?_append_right (by omega)] at hx
   have:l=s.σ.length:=by
    have:=(List.getElem?_eq_some_iff.mp hx).1
    simp at this;omega
   subst this
   simp at hx
   subst hx
   refine ⟨b,0,arr,ty,hloc,by simp [G.adopt,G.withKind,G.withLoc],hb,by omega,fun i c hi=>?_⟩
   obtain ⟨u,k1,k2,k3⟩:=hc i c hi
   exact ⟨u,by simpa using k1,k2,RepC.pw hpr (RepC.ext hE (adopt_keep hk _) (k3 _))⟩
 ·by_cases he:x=b
  ·subst he;exact (Array.getElem?_eq_some_iff.1 hb).1
  ·exact hI.lt x (by simpa [G.adopt,G.withKind,G.withLoc,he] using hx)
 ·obtain ⟨h1,h2,h3⟩:=hI.pr x hx.1
  exact ⟨h1,by simpa [G.adopt,G.withKind,G.withLoc,hx.2] using h2,h3⟩
 ·show RepV _ _ _ _ (Env.get ((d,_) :: s.env) t) _
  rw [env_get_cons]
  split
  ·rename_i e;subst e;rw [hd];exact ⟨b,0,hloc,by simp⟩
  ·exact RepV.pw hpr (RepV.ext hE (fun _=>adopt_keep hk _) (hA.env t))
end
inductive Waits (ops:Array Oper):Nat→Nat→Prop where
 | edge {k:Nat} {o:Oper} {e:Edge}:ops[k]?=some o→e ∈ o.after→Region.binds .any e=true→Waits ops k e.on
 | step {k j:Nat} {o:Oper} {e:Edge}:ops[k]?=some o→e ∈ o.after→Region.binds .any e=true→Waits ops e.on j→Waits ops k j
def maskOf (acc:List Nat):List Edge→Nat
 | []=>0
 | e :: es=>bif Region.binds .any e then 2 ^ e.on ||| acc.getD e.on 0 ||| maskOf acc es else maskOf acc es
def masks:List Oper→List Nat→List Nat
 | [],acc=>acc
 | o :: os,acc=>masks os (acc ++ [maskOf acc o.after.toList])
def AIns.isAlloc (i:AIns):Bool:=match i with
 | ⟨some _,.alloc _,none⟩=>true
 | _=>false
structure Ft where
 op:AOp
 al:Bool
 all:Nat
 tk:Nat
 sk:Nat
 dst:Nat
 w:Nat
 b:Nat
def maskL:List Nat→Nat
 | []=>0
 | t :: ts=>2 ^ t ||| maskL ts
def AIns.ft (i:AIns) (w b:Nat):Ft:=⟨i.op,i.isAlloc,maskL i.touch,maskL i.op.takes,maskL i.stricts,maskL i.dst.toList,w,b⟩
def fts:List Nat→Nat→Nat→List AIns→List Ft
 | m :: ms,k,b,i :: is=>i.ft m b :: fts ms (k+1) (bif i.op.isM then b ||| 2 ^ k else b) is
 | _,_,_,_=>[]
def apOk (x y:Ft):Bool:=Nat.beq (x.dst &&& y.all) 0 && (Nat.beq (y.dst &&& x.all) 0 && (Nat.beq (x.tk &&& (y.tk ||| y.sk)) 0 && Nat.beq (y.tk &&& x.sk) 0))
def okPr (x y:Ft):Bool:=apOk x y && clsOk x.op y.op
def Ft.pend (y:Ft):Bool:=y.al && !Nat.beq (y.b &&& y.w) y.b
def rowOk (y:Ft) (pend:Bool):Nat→List Ft→Bool
 | _,[]=>true
 | i,x :: xs=>(y.w.testBit i || okPr x y || (y.al && x.op.isM)) && (!pend || Nat.beq (y.dst &&& x.all) 0) && (!x.pend || y.al || okPr x y || Nat.beq (x.b &&& y.w) x.b) && rowOk y pend (i+1) xs
def rowsOk (fs:List Ft):Nat→List Ft→Bool
 | _,[]=>true
 | k,y :: ys=>rowOk y y.pend 0 (fs.take k) && rowsOk fs (k+1) ys
def lookOk (i:AIns):Bool:=match i.op.look with
 | some (.k v)=>(objOf v.down).isEmpty
 | _=>true
def drawOk (ops:Array Oper) (is:List AIns):Bool :=
 ((List.range ops.size).all fun k=>match ops[k]? with | some o=>o.after.all (fun e=>!Region.binds .any e || decide (e.on < k)) | none=>true) &&
 (is.all lookOk && (let fs:=fts (masks ops.toList []) 0 0 is;rowsOk fs 0 fs))
def Mk (is:List AIns) (m:Nat):Prop:=∃ x,is[m]?=some x∧x.op.isM=true
structure Ordd (ops:Array Oper) (is:List AIns):Prop where
 back:∀ (k:Nat) (o:Oper) (e:Edge),ops[k]?=some o→e ∈ o.after→Region.binds .any e=true→e.on < k
 look:∀ (k:Nat) (i:AIns),is[k]?=some i→lookOk i=true
 pair:∀ (i k:Nat) (x y:AIns),i < k→is[i]?=some x→is[k]?=some y→Waits ops k i∨(Apart x y∧clsOk x.op y.op=true)∨(y.isAlloc=true∧x.op.isM=true)
 fresh:∀ (i k m:Nat) (x y:AIns) (d:Nat),i < k→is[i]?=some x→is[k]?=some y→y.isAlloc=true→m < k→Mk is m→¬ Waits ops k m→y.dst=some d→d ∉ x.touch
 pend:∀ (i k m:Nat) (x y:AIns),i < k→is[i]?=some x→is[k]?=some y→x.isAlloc=true→m < i→Mk is m→¬ Waits ops i m→y.isAlloc=true∨(Apart x y∧clsOk x.op y.op=true)∨∀ m,m < i→Mk is m→Waits ops k m
theorem maskOf_waits {ops:Array Oper} {k:Nat} {o:Oper} {acc:List Nat} (ho:ops[k]?=some o) (hacc:∀ (i m j:Nat),acc[i]?=some m→m.testBit j=true→Waits ops i j) :
  ∀ (es:List Edge),(∀ e ∈ es,e ∈ o.after)→∀ j,(maskOf acc es).testBit j=true→Waits ops k j
 | [],_,j,h=>by simp [maskOf] at h
 | e :: es,hes,j,h=>by
  have ih:=maskOf_waits ho hacc es (fun e he=>hes e (List.mem_cons_of_mem _ he)) j
  have he:=hes e List.mem_cons_self
  simp only [maskOf] at h
  cases hb:Region.binds .any e with
  | false=>rw [hb] at h;exact ih h
  | true =>
   rw [hb] at h
   simp only [cond_true,Nat.testBit_or,Bool.or_eq_true] at h
   rcases h with (h | h) | h
   ·rw [Nat.testBit_two_pow] at h
    have:=of_decide_eq_true h
    subst this
    exact .edge ho he hb
   ·rw [List.getD_eq_getElem?_getD] at h
    cases hm:acc[e.on]? with
    | none=>rw [hm] at h;simp at h
    | some m=>rw [hm] at h;exact .step ho he hb (hacc _ _ _ hm h)
   ·exact ih h
theorem masks_waits {ops:Array Oper}:∀ (os:List Oper) (acc:List Nat),(∀ j,os[j]?=ops[acc.length+j]?)→(∀ (i m j:Nat),acc[i]?=some m→m.testBit j=true→Waits ops i j) →
  ∀ (i m j:Nat),(masks os acc)[i]?=some m→m.testBit j=true→Waits ops i j
 | [],acc,_,h=>h
 | o :: os,acc,hk,h=>by
  have ho:ops[acc.length]?=some o:=by have:=hk 0;simpa using this.symm
  refine masks_waits os _ (fun j=>?_) ?_
  ·have:=hk (j+1)
   simpa [Nat.add_assoc,Nat.add_comm 1 j] using this
  ·intro i m j hi hj
   by_cases hlt:i < acc.length
   ·rw [List.getElem?_append_left hlt] at hi;exact h i m j hi hj
   ·rw [List.getElem?_append_right (by omega)] at hi
    have:i=acc.length:=by
     have:=(List.getElem?_eq_some_iff.mp hi).1
     simp at this;omega
    subst this
    simp only [Nat.sub_self,List.getElem?_cons_zero,Option.some.injEq] at hi
    subst hi
    exact maskOf_waits ho h _ (fun e he=>Array.mem_toList_iff.1 he) j hj
theorem mask_mem {t:Nat}:∀ {l:List Nat},t ∈ l→(maskL l).testBit t=true
 | [],h=>by cases h
 | x :: l,h=>by
  simp only [maskL,Nat.testBit_or,Bool.or_eq_true]
  rcases List.mem_cons.1 h with rfl | h
  ·exact .inl (by rw [Nat.testBit_two_pow];simp)
  ·exact .inr (mask_mem h)
theorem mask_off {a b t:Nat} (h:Nat.beq (a &&& b) 0=true) (ha:a.testBit t=true) (hb:b.testBit t=true):False:=by
 have h:=Nat.eq_of_beq_eq_true h
 have:=Nat.testBit_and a b t
 rw [h,ha,hb] at this
 simp at this
theorem fts_get:∀ (is:List AIns) (ms:List Nat) (k b j:Nat) (i:AIns),ms.length=is.length→is[j]?=some i→∃ w c,ms[j]?=some w∧(fts ms k b is)[j]?=some (i.ft w c)∧(∀ m,b.testBit m=true→c.testBit m=true)∧∀ (m:Nat) (x:AIns),m < j→is[m]?=some x→x.op.isM=true→c.testBit (k+m)=true
 | [],ms,k,b,j,i,hl,hj=>by simp at hj
 | x :: is,[],k,b,j,i,hl,hj=>by simp at hl
 | x :: is,w :: ms,k,b,0,i,hl,hj=>by
  simp only [List.getElem?_cons_zero,Option.some.injEq] at hj
  subst hj
  exact ⟨w,b,by simp,by simp [fts],fun _ h=>h,fun m _ h=>by omega⟩
 | x :: is,w :: ms,k,b,j+1,i,hl,hj=>by
  obtain ⟨w',c,h1,h2,h3,h4⟩:=fts_get is ms (k+1) (bif x.op.isM then b ||| 2 ^ k else b) j i (by simpa using hl) (by simpa using hj)
  refine ⟨w',c,by simpa using h1,by simpa [fts] using h2,fun m hm=>h3 m ?_,fun m y hm hy hM=>?_⟩
  ·cases x.op.isM<;>simp [hm]
  ·cases m with
   | zero =>
    simp only [List.getElem?_cons_zero,Option.some.injEq] at hy
    subst hy
    refine h3 _ ?_
    rw [hM]
    simp
   | succ m =>
    have:=h4 m y (by omega) (by simpa using hy) hM
    rwa [show k+1+m=k+(m+1) by omega] at this
theorem rowOk_get {y:Ft} {p:Bool}:∀ (xs:List Ft) (n j:Nat) (x:Ft),rowOk y p n xs=true→xs[j]?=some x →
  (y.w.testBit (n+j)=true∨okPr x y=true∨(y.al=true∧x.op.isM=true))∧(p=true→Nat.beq (y.dst &&& x.all) 0=true)∧(x.pend=true→y.al=true∨okPr x y=true∨Nat.beq (x.b &&& y.w) x.b=true)
 | [],n,j,x,h,hj=>by simp at hj
 | z :: xs,n,0,x,h,hj=>by
  simp only [List.getElem?_cons_zero,Option.some.injEq] at hj
  subst hj
  simp only [rowOk,Bool.and_eq_true,Bool.or_eq_true,Bool.not_eq_true'] at h
  obtain ⟨⟨⟨h1,h2⟩,h3⟩,_⟩:=h
  refine ⟨?_,fun hp=>h2.resolve_left (by simp [hp]),fun hp=>?_⟩
  ·rcases h1 with (h1 | h1) | h1
   ·exact .inl h1
   ·exact .inr (.inl h1)
   ·exact .inr (.inr h1)
  ·rcases h3 with ((h3 | h3) | h3) | h3
   ·rw [hp] at h3;cases h3
   ·exact .inl h3
   ·exact .inr (.inl h3)
   ·exact .inr (.inr h3)
 | z :: xs,n,j+1,x,h,hj=>by
  simp only [rowOk,Bool.and_eq_true] at h
  have:=rowOk_get xs (n+1) j x h.2 (by simpa using hj)
  rwa [show n+1+j=n+(j+1) by omega] at this
theorem rowsOk_get {fs:List Ft}:∀ (ys:List Ft) (n j:Nat) (y:Ft),rowsOk fs n ys=true→ys[j]?=some y→rowOk y y.pend 0 (fs.take (n+j))=true
 | [],n,j,y,h,hj=>by simp at hj
 | z :: ys,n,0,y,h,hj=>by
  simp only [List.getElem?_cons_zero,Option.some.injEq] at hj
  subst hj
  simp only [rowsOk,Bool.and_eq_true] at h
  exact h.1
 | z :: ys,n,j+1,y,h,hj=>by
  simp only [rowsOk,Bool.and_eq_true] at h
  have:=rowsOk_get ys (n+1) j y h.2 (by simpa using hj)
  rwa [show n+1+j=n+(j+1) by omega] at this
theorem apOk_apart {x y:AIns} {w b w' b':Nat} (h:apOk (x.ft w b) (y.ft w' b')=true):Apart x y:=by
 simp only [apOk,AIns.ft,Bool.and_eq_true] at h
 obtain ⟨h1,h2,h3,h4⟩:=h
 refine ⟨fun t ht hm=>mask_off h1 (mask_mem (t:=t) (by simp [ht])) (mask_mem hm),fun t ht hm=>mask_off h2 (mask_mem (t:=t) (by simp [ht])) (mask_mem hm),fun t ht=>⟨fun hm=>mask_off h3 (mask_mem ht) ?_,fun hm=>mask_off h3 (mask_mem ht) ?_⟩,fun t ht hm=>mask_off h4 (mask_mem ht) (mask_mem hm)⟩
 ·simp [mask_mem hm]
 ·simp [mask_mem hm]
theorem and_eq_bit {b w m:Nat} (h:Nat.beq (b &&& w) b=true) (hb:b.testBit m=true):w.testBit m=true:=by
 have h:=Nat.eq_of_beq_eq_true h
 have:=Nat.testBit_and b w m
 rw [h,hb] at this
 simpa using this.symm
theorem masks_length:∀ (os:List Oper) (acc:List Nat),(masks os acc).length=acc.length+os.length
 | [],acc=>by simp [masks]
 | o :: os,acc=>by simp only [masks,masks_length os,List.length_append,List.length_cons,List.length_nil];omega
theorem drawOk_ord {ops:Array Oper} {is:List AIns} (hl:is.length=ops.size) (h:drawOk ops is=true):Ordd ops is:=by
 simp only [drawOk,Bool.and_eq_true,List.all_eq_true,List.mem_range] at h
 obtain ⟨h1,h2,h3⟩:=h
 have hw:∀ (i m j:Nat),(masks ops.toList [])[i]?=some m→m.testBit j=true→Waits ops i j :=
  masks_waits ops.toList [] (fun j=>by simp) (fun i m j hi=>by simp at hi)
 generalize hms:masks ops.toList []=ms at h3 hw
 have hml:ms.length=is.length:=by rw [← hms,masks_length];simp [hl]
 have get:∀ (k:Nat) (y:AIns),is[k]?=some y→∃ w c,(∀ m,w.testBit m=true→Waits ops k m)∧(fts ms 0 0 is)[k]?=some (y.ft w c)∧(∀ m,m < k→Mk is m→c.testBit m=true)∧rowOk (y.ft w c) (y.ft w c).pend 0 ((fts ms 0 0 is).take k)=true:=by
  intro k y hy
  obtain ⟨w,c,e1,e2,_,e3⟩:=fts_get is ms 0 0 k y hml hy
  refine ⟨w,c,fun m hm=>hw k w m e1 hm,e2,fun m hm hM=>?_,?_⟩
  ·obtain ⟨x,hx,hxM⟩:=hM
   have:=e3 m x hm hx hxM
   simpa using this
  ·have:=rowsOk_get _ 0 k _ h3 e2
   simpa using this
 have two:∀ (i k:Nat) (x y:AIns),i < k→is[i]?=some x→is[k]?=some y→∃ w c w' c',(∀ m,w.testBit m=true→Waits ops i m)∧(∀ m,w'.testBit m=true→Waits ops k m)∧(∀ m,m < i→Mk is m→c.testBit m=true)∧(∀ m,m < k→Mk is m→c'.testBit m=true) ∧
   (w'.testBit i=true∨okPr (x.ft w c) (y.ft w' c')=true∨(y.isAlloc=true∧x.op.isM=true))∧((y.ft w' c').pend=true→Nat.beq ((y.ft w' c').dst &&& (x.ft w c).all) 0=true)∧((x.ft w c).pend=true→y.isAlloc=true∨okPr (x.ft w c) (y.ft w' c')=true∨Nat.beq (c &&& w') c=true):=by
  intro i k x y hik hx hy
  obtain ⟨w,c,a1,a2,a3,_⟩:=get i x hx
  obtain ⟨w',c',b1,b2,b3,b4⟩:=get k y hy
  have:=rowOk_get _ 0 i (x.ft w c) b4 (by rw [List.getElem?_take,if_pos hik];exact a2)
  rw [Nat.zero_add] at this
  exact ⟨w,c,w',c',a1,b1,a3,b3,this⟩
 have pnd:∀ {k m:Nat} {y:AIns} {w c:Nat},y.isAlloc=true→m < k→Mk is m→¬ Waits ops k m→(∀ m,w.testBit m=true→Waits ops k m)→(∀ m,m < k→Mk is m→c.testBit m=true)→(y.ft w c).pend=true:=by
  intro k m y w c hy hm hM hW e1 e2
  simp only [Ft.pend,AIns.ft,hy,Bool.true_and,Bool.not_eq_true']
  cases hb:Nat.beq (c &&& w) c with
  | false=>rfl
  | true=>exact absurd (e1 m (and_eq_bit hb (e2 m hm hM))) hW
 refine ⟨?_,?_,?_,?_,?_⟩
 ·intro k o e ho he hb
  have:=h1 k (Array.getElem?_eq_some_iff.1 ho).1
  rw [ho] at this
  simp only [Array.all_eq_true_iff_forall_mem,Bool.or_eq_true,Bool.not_eq_true',decide_eq_true_eq] at this
  exact (this e he).resolve_left (by rw [hb];simp)
 ·intro k i hi
  exact h2 i (List.mem_of_getElem? hi)
 ·intro i k x y hik hx hy
  obtain ⟨w,c,w',c',a1,a2,a3,a4,a5,a6,a7⟩:=two i k x y hik hx hy
  rcases a5 with a5 | a5 | a5
  ·exact .inl (a2 i a5)
  ·simp only [okPr,Bool.and_eq_true] at a5
   exact .inr (.inl ⟨apOk_apart a5.1,a5.2⟩)
  ·exact .inr (.inr a5)
 ·intro i k m x y d hik hx hy hal hm hM hW hd hmem
  obtain ⟨w,c,w',c',a1,a2,a3,a4,a5,a6,a7⟩:=two i k x y hik hx hy
  exact mask_off (a6 (pnd hal hm hM hW a2 a4)) (mask_mem (t:=d) (by simp [hd])) (mask_mem hmem)
 ·intro i k m x y hik hx hy hal hm hM hW
  obtain ⟨w,c,w',c',a1,a2,a3,a4,a5,a6,a7⟩:=two i k x y hik hx hy
  rcases a7 (pnd hal hm hM hW a1 a3) with h | h | h
  ·exact .inl h
  ·simp only [okPr,Bool.and_eq_true] at h
   exact .inr (.inl ⟨apOk_apart h.1,h.2⟩)
  ·exact .inr <| .inr fun m hm hM=>a2 m (and_eq_bit h (a3 m hm hM))
abbrev Ld (listed:Array Bool) (j:Nat):Prop:=listed.getD j false=true
theorem ld_set {listed:Array Bool} {i j:Nat} (hi:i < listed.size):Ld (listed.setIfInBounds i true) j↔(j=i∨Ld listed j):=by
 unfold Ld
 simp only [Array.getD_eq_getD_getElem?]
 by_cases h:j=i
 ·subst h;simp [hi]
 ·rw [Array.getElem?_setIfInBounds_ne (fun e=>h e.symm)];simp [h]
def Closed (ops:Array Oper) (listed:Array Bool):Prop:=∀ (k:Nat) (o:Oper) (e:Edge),Ld listed k→ops[k]?=some o→e ∈ o.after→Region.binds .any e=true→Ld listed e.on
theorem waits_ld {ops:Array Oper} {listed:Array Bool} (hc:Closed ops listed) {k j:Nat} (h:Waits ops k j):(∀ (o:Oper) (e:Edge),ops[k]?=some o→e ∈ o.after→Region.binds .any e=true→Ld listed e.on)→Ld listed j:=by
 induction h with
 | edge h1 h2 h3=>exact fun h=>h _ _ h1 h2 h3
 | step h1 h2 h3 _ ih=>exact fun h=>ih fun o e a b c=>hc _ o e (h _ _ h1 h2 h3) a b c
theorem cnt_set:∀ (l:List Bool) (i:Nat),l[i]?=some false→(l.set i true).count false+1=l.count false
 | [],i,h=>by simp at h
 | b :: l,0,h=>by simp at h;subst h;simp
 | b :: l,i+1,h=>by
  have:=cnt_set l i (by simpa using h)
  simp only [List.set_cons_succ,List.count_cons]
  omega
section
variable {P:Program} {N:Nat} {ds:List Deferred} {F:Oracle} {bd:Bd} {ops:Array Oper} {is:List AIns} {s s1 s2 s':St} {g0:G} {w0:World} {Pr:Nat→Prop}
def Alike (s s2:St):Prop:=s2.σ=s.σ∧∀ t,s2.env.get t=s.env.get t
theorem Alike.refl (s:St):Alike s s:=⟨rfl,fun _=>rfl⟩
theorem Alike.trans {s3:St} (h:Alike s s2) (h':Alike s2 s3):Alike s s3:=⟨h'.1.trans h.1,fun t=>(h'.2 t).trans (h.2 t)⟩
theorem Alike.symm (h:Alike s s2):Alike s2 s:=⟨h.1.symm,fun t=>(h.2 t).symm⟩
theorem ins_alike {i:AIns} (h:Alike s s2) (h1:stepIns F bd s i=some s1):∃ s3,stepIns F bd s2 i=some s3∧Alike s1 s3:=by
 obtain ⟨s3,a1,a2,a3,a4⟩:=ins_congr (s2:=s2) (i:=i) ⟨fun t _=>by rw [h.2],fun t _=>h.2 t⟩ h.1 h1
 refine ⟨s3,a1,a2,fun t=>?_⟩
 by_cases ht:t ∈ i.writes
 ·exact a3 t ht
 ·rw [a4 t ht,(ins_env h1).1 t ht];exact h.2 t
def Runs (F:Oracle) (bd:Bd) (s:St) (is:List AIns) (s':St):Prop:=∃ s2,stepAll F bd s is=some s2∧Alike s' s2
theorem Runs.cons {i:AIns} {is:List AIns}:Runs F bd s (i :: is) s'↔∃ s1,stepIns F bd s i=some s1∧Runs F bd s1 is s':=by
 simp only [Runs,stepAll]
 constructor
 ·rintro ⟨s2,h,h'⟩
  split at h
  case h_2=>cases h
  rename_i s1 h1
  exact ⟨s1,h1,s2,h,h'⟩
 ·rintro ⟨s1,h1,s2,h,h'⟩
  exact ⟨s2,by rw [h1];exact h,h'⟩
theorem Runs.alike:∀ {is:List AIns} {s s2:St},Alike s s2→Runs F bd s is s'→Runs F bd s2 is s'
 | [],s,s2,h,hr=>by
  obtain ⟨s3,h1,h2⟩:=hr
  simp only [stepAll,Option.some.injEq] at h1
  subst h1
  exact ⟨s2,rfl,h2.trans h⟩
 | i :: is,s,s2,h,hr=>by
  rw [Runs.cons] at hr ⊢
  obtain ⟨s1,h1,h2⟩:=hr
  obtain ⟨s3,h3,h4⟩:=ins_alike h h1
  exact ⟨s3,h3,Runs.alike h4 h2⟩
theorem cls_len {x y:AIns} (hK:KeepF F) (hc:clsOk x.op y.op=true) (hy:y.op.isR=true) (h:stepIns F bd s x=some s1):s.σ.length≤s1.σ.length:=by
 simp only [clsOk,Bool.or_eq_true,Bool.and_eq_true] at hc
 have hB:y.op.isB=true→y.op.isR=true→False:=by
  intro hb hr
  cases hop:y.op<;>simp only [hop,AOp.isR,Bool.false_eq_true] at hr
  ·rename_i m n z;cases m<;>simp [hop,AOp.isB] at hb hr
  ·rename_i k z
   match k,hr with
   | 2,_=>simp [hop,AOp.isB] at hb
  ·simp [hop,AOp.isB] at hb
  ·simp [hop,AOp.isB] at hb
  ·simp [hop,AOp.isB] at hb
 rcases hc with (((hc | hc) | ⟨hR,_⟩) | ⟨_,((hc | hc) | ⟨hc,_⟩) | ⟨_,hc⟩⟩) | ⟨_,hc⟩
 ·rw [isB_st hc h];exact Nat.le_refl _
 ·exact (hB hc hy).elim
 ·rw [isR_st hR h];exact Nat.le_refl _
 ·exact Nat.le_of_eq (ins_is (p:=fun σ=>s.σ.length=σ.length) h rfl (fun v s' h=>(step_take hc h).1.symm))
 ·exact ins_is (p:=fun σ=>s.σ.length≤σ.length) h (Nat.le_refl _) (fun v s' h=>(step_make hK hc h).1)
 ·refine ins_is (p:=fun σ=>s.σ.length≤σ.length) h (Nat.le_refl _) (fun v s' h=>?_)
  obtain ⟨_,_,h2,_⟩:=step_hurt hc h
  exact h2
 ·refine ins_is (p:=fun σ=>s.σ.length≤σ.length) h (Nat.le_refl _) (fun v s' h=>?_)
  obtain ⟨l,es,es',_,h2⟩:=step_map hc h
  rw [h2];simp
 ·cases hop:y.op<;>simp [hop,AOp.isA,AOp.isR] at hc hy
theorem front {n:Nat} {y:AIns} {post:List AIns} (hK:KeepF F):∀ {pre:List AIns} {s:St},(∀ x ∈ pre,Apart x y∧clsOk x.op y.op=true)→Stood n s y→Runs F bd s (pre ++ y :: post) s' →
  ∃ s1,stepIns F bd s y=some s1∧Runs F bd s1 (pre ++ post) s'
 | [],s,_,_,h=>Runs.cons.1 h
 | x :: pre,s,hx,hn,h=>by
  rw [List.cons_append,Runs.cons] at h
  obtain ⟨s1,h1,h2⟩:=h
  obtain ⟨hap,hcl⟩:=hx x List.mem_cons_self
  have hn1:Stood n s1 y:=by
   intro hy
   obtain ⟨n1,n2⟩:=hn hy
   refine ⟨Nat.le_trans n1 (cls_len hK hcl hy h1),fun z hz=>?_⟩
   have:s1.rd z=s.rd z:=rd_same fun t ht=>(hap.agree h1).rds t (look_rds hz hy t ht)
   rw [this]
   exact n2 z hz
  obtain ⟨s2,h3,h4⟩:=front hK (fun z hz=>hx z (List.mem_cons_of_mem _ hz)) hn1 h2
  obtain ⟨s3,s4,c1,c2,c3,c4⟩:=comm hK hap hcl hn h1 h3
  refine ⟨s3,c1,?_⟩
  rw [List.cons_append,Runs.cons]
  exact ⟨s4,c2,Runs.alike (Alike.symm ⟨c3.symm,fun t=>(c4 t).symm⟩) h4⟩
theorem run_fresh {d:Nat} {zs:List C} {post:List AIns}:∀ {pre:List AIns} {s s2:St},(∀ x ∈ pre,d ∉ x.touch)→s2.σ=s.σ→(∀ t,t≠d→s2.env.get t=s.env.get t)→Runs F bd s (pre ++ ⟨some d,.alloc zs,none⟩ :: post) s'→Runs F bd s2 (pre ++ ⟨some d,.alloc zs,none⟩ :: post) s'
 | [],s,s2,_,hσ,he,h=>by
  rw [List.nil_append,Runs.cons] at h ⊢
  obtain ⟨s1,h1,h2⟩:=h
  simp only [stepIns,stepOp,Option.some.injEq] at h1 ⊢
  subst h1
  refine ⟨_,rfl,Runs.alike ⟨?_,fun t=>?_⟩ h2⟩
  ·rw [set_st,set_st];simp only [hσ]
  ·rw [set_get,set_get,hσ]
   split
   ·rfl
   ·rename_i hne;exact he t (fun e=>hne (by rw [e]))
 | x :: pre,s,s2,hx,hσ,he,h=>by
  rw [List.cons_append,Runs.cons] at h ⊢
  obtain ⟨s1,h1,h2⟩:=h
  have hd:=hx x List.mem_cons_self
  obtain ⟨s3,a1,a2,a3,a4⟩:=ins_congr (s2:=s2) (i:=x) ⟨fun t ht=>by rw [he t (fun e=>hd (e ▸ touch_rds ht))],fun t ht=>he t (fun e=>hd (e ▸ touch_raws ht))⟩ hσ h1
  refine ⟨s3,a1,run_fresh (fun z hz=>hx z (List.mem_cons_of_mem _ hz)) a2 (fun t ht=>?_) h2⟩
  by_cases htw:t ∈ x.writes
  ·exact a3 t htw
  ·rw [a4 t htw,(ins_env h1).1 t htw];exact he t ht
def rem (p:Nat→Bool):Nat→List AIns→List AIns
 | _,[]=>[]
 | n,i :: is=>bif p n then i :: rem p (n+1) is else rem p (n+1) is
theorem rem_congr {p q:Nat→Bool}:∀ {is:List AIns} {n:Nat},(∀ m,n≤m→m < n+is.length→p m=q m)→rem p n is=rem q n is
 | [],n,_=>rfl
 | i :: is,n,h=>by
  simp only [rem,h n (Nat.le_refl _) (by simp),rem_congr (is:=is) (n:=n+1) (fun m h1 h2=>h m (by omega) (by simp only [List.length_cons];omega))]
theorem rem_none {p:Nat→Bool}:∀ {is:List AIns} {n:Nat},(∀ m,n≤m→m < n+is.length→p m=false)→rem p n is=[]
 | [],n,_=>rfl
 | i :: is,n,h=>by
  simp only [rem,h n (Nat.le_refl _) (by simp),cond_false]
  exact rem_none (is:=is) (n:=n+1) (fun m h1 h2=>h m (by omega) (by simp only [List.length_cons];omega))
theorem rem_all {p:Nat→Bool}:∀ {is:List AIns} {n:Nat},(∀ m,n≤m→m < n+is.length→p m=true)→rem p n is=is
 | [],n,_=>rfl
 | i :: is,n,h=>by
  simp only [rem,h n (Nat.le_refl _) (by simp),cond_true]
  rw [rem_all (is:=is) (n:=n+1) (fun m h1 h2=>h m (by omega) (by simp only [List.length_cons];omega))]
theorem rem_split {p:Nat→Bool} {y:AIns}:∀ {is:List AIns} {n k:Nat},is[k]?=some y→p (n+k)=true →
  ∃ pre post,rem p n is=pre ++ y :: post∧rem (fun m=>!Nat.beq m (n+k) && p m) n is=pre ++ post∧∀ x ∈ pre,∃ i,i < k∧p (n+i)=true∧is[i]?=some x
 | [],n,k,hk,_=>by simp at hk
 | z :: is,n,0,hk,hp=>by
  simp only [List.getElem?_cons_zero,Option.some.injEq] at hk
  subst hk
  rw [Nat.add_zero] at hp
  refine ⟨[],rem p (n+1) is,by simp [rem,hp],?_,by simp⟩
  simp only [rem,Nat.add_zero,Nat.beq_refl,Bool.not_true,Bool.false_and,cond_false,List.nil_append]
  refine rem_congr fun m h1 h2=>?_
  have:Nat.beq m n=false:=by
   cases hb:Nat.beq m n with
   | false=>rfl
   | true=>have:=Nat.eq_of_beq_eq_true hb;omega
  simp [this]
 | z :: is,n,k+1,hk,hp=>by
  obtain ⟨pre,post,h1,h2,h3⟩:=rem_split (is:=is) (n:=n+1) (k:=k) (by simpa using hk) (by rw [show n+1+k=n+(k+1) by omega];exact hp)
  rw [show n+1+k=n+(k+1) by omega] at h2
  have hb:Nat.beq n (n+(k+1))=false:=by
   cases hb:Nat.beq n (n+(k+1)) with
   | false=>rfl
   | true=>have:=Nat.eq_of_beq_eq_true hb;omega
  cases hpn:p n with
  | true =>
   refine ⟨z :: pre,post,by simp [rem,hpn,h1],by simp only [rem,hb,hpn,Bool.not_false,Bool.true_and,cond_true,h2,List.cons_append],fun x hx=>?_⟩
   rcases List.mem_cons.1 hx with rfl | hx
   ·exact ⟨0,by omega,by simpa using hpn,by simp⟩
   ·obtain ⟨i,i1,i2,i3⟩:=h3 x hx
    exact ⟨i+1,by omega,by rw [show n+(i+1)=n+1+i by omega];exact i2,by simpa using i3⟩
  | false =>
   refine ⟨pre,post,by simp [rem,hpn,h1],by simp only [rem,hb,hpn,Bool.not_false,Bool.true_and,cond_false,h2],fun x hx=>?_⟩
   obtain ⟨i,i1,i2,i3⟩:=h3 x hx
   exact ⟨i+1,by omega,by rw [show n+(i+1)=n+1+i by omega];exact i2,by simpa using i3⟩
structure Drawn (is:List AIns) (g:G) (w0 w:World) (a:Act) (k b:Nat):Prop where
 free:g.kind b=.free
 new:w0.heap.size≤b
 ins:∃ d zs arr ty,is[k]?=some ⟨some d,.alloc zs,none⟩∧a.tmps.getD d undef=.pointer (some ⟨b,0,none⟩)∧w.heap[b]?=some (.cells arr ty (0,0))∧zs.length≤arr.size ∧
  ∀ (i:Nat) (c:C),zs[i]?=some c→∃ u,arr[i]?=some u∧u.oneCell'=true∧∀ g w Pr p,RepC g w Pr p c u
def todo (listed:Array Bool) (blk:Nat→Option Nat) (k:Nat):Bool:=!listed.getD k false || (blk k).isSome
structure Mid (N:Nat) (ds:List Deferred) (F:Oracle) (bd:Bd) (ops:Array Oper) (is:List AIns) (s':St) (g0:G) (w0:World) (Pr:Nat→Prop) (n:Nat) (listed:Array Bool) (a:Act) (w:World) (g:G) (sc:St) (blk:Nat→Option Nat):Prop where
 closed:Closed ops listed
 ext:Ext g0 w0 g w
 fr:Fr Pr g0 w0 g w
 inv:InvA N ds g w (fun b=>Pr b∨∃ k,blk k=some b) sc a
 run:Runs F bd sc (rem (todo listed blk) 0 is) s'
 pend:∀ k b,blk k=some b→Ld listed k∧Drawn is g w0 w a k b
 inj:∀ k k' b,blk k=some b→blk k'=some b→k=k'
 may:∀ k b,blk k=some b→∃ m,m < k∧Mk is m∧¬ Waits ops k m
 norm:∀ k b,k < n→blk k=some b→∃ m,m < k∧Mk is m∧¬ Ld listed m
theorem alloc_step {bd:Bd} {s s':St} {d:Nat} {zs:List C} (h:stepIns F bd s ⟨some d,.alloc zs,none⟩=some s'):s'=⟨(d,.c (.b (.ptr s.σ.length 0))) :: s.env,s.σ ++ [.cells zs]⟩:=by
 simp only [stepIns,stepOp,Option.some.injEq] at h
 rw [← h];rfl
theorem zero_any {z:Value} {zs:List C} (h:chkZero z zs=true):z.cells.size=zs.length∧∀ (i:Nat) (c:C),zs[i]?=some c→∃ u,z.cells[i]?=some u∧u.oneCell'=true∧∀ g w Pr p,RepC g w Pr p c u:=by
 refine ⟨(chkZero_ok (g:=⟨[],fun _=>.free,fun _=>none⟩) (w:=default) (Pr:=fun _=>False) h).1,fun i c hi=>?_⟩
 obtain ⟨u,k1,k2,k3⟩:=(chkZero_ok (g:=⟨[],fun _=>.free,fun _=>none⟩) (w:=default) (Pr:=fun _=>False) h).2 i c hi
 refine ⟨u,k1,k2,fun g w Pr p=>?_⟩
 obtain ⟨u',k1',k2',k3'⟩:=(chkZero_ok (g:=g) (w:=w) (Pr:=Pr) h).2 i c hi
 rw [k1] at k1';cases k1'
 exact k3' p
theorem put_other {a:Act} {d:Option Tmp} {u:Value} {t:Nat} (h:d≠some t):(a.put d u).tmps.getD t undef=a.tmps.getD t undef:=by
 cases d with
 | none=>rfl
 | some d =>
  simp only [Act.put,Array.getD_eq_getD_getElem?]
  rw [Array.getElem?_setIfInBounds_ne (fun e=>h (by rw [e]))]
theorem chkAll_get:∀ {os:List Oper} {is:List AIns},chkAll P N ops os is=true→is.length=os.length∧∀ (k:Nat) (o:Oper) (i:AIns),os[k]?=some o→is[k]?=some i→chkIns P N ops o i=true
 | [],[],_=>⟨rfl,fun k o i h=>by simp at h⟩
 | [],_ :: _,h=>by simp [chkAll] at h
 | _ :: _,[],h=>by simp [chkAll] at h
 | o :: os,i :: is,h=>by
  simp only [chkAll,Bool.and_eq_true] at h
  obtain ⟨h1,h2⟩:=chkAll_get h.2
  refine ⟨by simp [h1],fun k x y hx hy=>?_⟩
  cases k with
  | zero=>simp at hx hy;subst hx hy;exact h.1
  | succ k=>exact h2 k x y (by simpa using hx) (by simpa using hy)
theorem put_any {g:G} {w:World} {Pr:Nat→Prop} {s:St} {a:Act} {d:Nat} {u:Value} (hA:InvA N ds g w Pr s a) (hd:d < N):InvA N ds g w Pr (s.set (some d) (.c (.b .any))) (a.put (some d) u) :=
 ⟨hA.inv,set_env hA.env (fun x hx=>⟨by cases hx;rw [hA.size];exact hd,trivial⟩),by rw [put_size];exact hA.size,by rw [put_defers];exact hA.defers⟩
theorem chk_dst {o:Oper} {i:AIns} (h:chkIns P N ops o i=true):o.dst=i.dst:=by
 simp only [chkIns,Bool.and_eq_true,beq_iff_eq] at h
 exact h.1.1.1
theorem loc_lt {g:G} {w:World} {sc:St} {a:Act} (hA:InvA N ds g w Pr sc a) {t l:Nat} (h:l ∈ objOf (sc.env.get t).down):l < sc.σ.length:=by
 have hr:=hA.env t
 rw [← hA.inv.len]
 cases hv:sc.env.get t with
 | c x =>
  rw [hv] at h hr
  cases x with
  | b x =>
   simp only [V.down,C.down] at h
   cases x with
   | ptr l' o =>
    simp only [objOf,List.mem_singleton] at h
    subst h
    obtain ⟨b,o',h,_⟩:=hr
    exact (List.getElem?_eq_some_iff.mp h).1
   | arr k l' o n =>
    simp only [objOf,List.mem_singleton] at h
    subst h
    obtain ⟨b,o',_,_,_,h,_⟩:=hr
    exact (List.getElem?_eq_some_iff.mp h).1
   | map l' =>
    simp only [objOf,List.mem_singleton] at h
    subst h
    obtain ⟨b,o',h,_⟩:=hr
    exact (List.getElem?_eq_some_iff.mp h).1
   | _=>simp [objOf] at h
  | _=>simp [V.down,C.down,objOf] at h
 | _=>rw [hv] at h;simp [V.down,objOf] at h
theorem stood_of {g:G} {w:World} {sc:St} {a:Act} {y:AIns} (hl:lookOk y=true) (hA:InvA N ds g w Pr sc a):Stood sc.σ.length sc y:=by
 intro _
 refine ⟨Nat.le_refl _,fun x hx l hm=>?_⟩
 cases x with
 | t t=>exact loc_lt hA hm
 | k v =>
  simp only [lookOk,hx,List.isEmpty_iff] at hl
  simp only [St.rd,St.raw,hl] at hm
  cases hm
theorem mid_norm (hS:Sound P F) (hd:Ordd ops is) (hl:is.length=ops.size) (hpr0:∀ b,Pr b→b < w0.heap.size) {listed:Array Bool} {a:Act} {w:World} {g:G} {sc:St} {blk:Nat→Option Nat}
  (h0:Mid N ds F bd ops is s' g0 w0 Pr 0 listed a w g sc blk):∀ n,∃ g sc blk,Mid N ds F bd ops is s' g0 w0 Pr n listed a w g sc blk:=by
 intro n
 induction n with
 | zero=>exact ⟨g,sc,blk,h0⟩
 | succ n ih =>
  obtain ⟨g,sc,blk,hM⟩:=ih
  cases hb:blk n with
  | none =>
   refine ⟨g,sc,blk,{ hM with norm:=fun k b hk hkb=>hM.norm k b ?_ hkb }⟩
   have:k≠n:=by rintro rfl;rw [hb] at hkb;cases hkb
   omega
  | some b =>
   by_cases hun:∃ m,m < n∧Mk is m∧¬ Ld listed m
   ·refine ⟨g,sc,blk,{ hM with norm:=fun k b' hk hkb=>?_ }⟩
    by_cases e:k=n
    ·subst e;exact hun
    ·exact hM.norm k b' (by omega) hkb
   ·obtain ⟨hld,hD⟩:=hM.pend n b hb
    obtain ⟨d,zs,arr,ty,y1,y2,y3,y4,y5⟩:=hD.ins
    have hnone:∀ k b',k < n→blk k=some b'→False:=fun k b' hk hkb=>by
     obtain ⟨m,m1,m2,m3⟩:=hM.norm k b' hk hkb
     exact hun ⟨m,by omega,m2,m3⟩
    obtain ⟨pre,post,r1,r2,r3⟩:=rem_split (p:=todo listed blk) (is:=is) (n:=0) (k:=n) y1 (by simp [todo,hb])
    have hrun:=hM.run
    rw [r1] at hrun
    obtain ⟨s1,k1,k2⟩:=front (n:=0) (y:=⟨some d,.alloc zs,none⟩) hS.2 (fun x hx=>by
     obtain ⟨i,i1,i2,i3⟩:=r3 x hx
     rw [Nat.zero_add] at i2
     have hui:¬ Ld listed i:=by
      intro hli
      simp only [todo,Bool.or_eq_true,Bool.not_eq_true'] at i2
      rcases i2 with i2 | i2
      ·rw [hli] at i2;cases i2
      ·cases hbi:blk i with
       | none=>rw [hbi] at i2;cases i2
       | some b'=>exact hnone i b' i1 hbi
     rcases hd.pair i n x _ i1 i3 y1 with h | h | ⟨_,h⟩
     ·exact absurd (waits_ld hM.closed h (fun o e=>hM.closed n o e hld)) hui
     ·exact h
     ·exact absurd ⟨i,i1,⟨x,i3,h⟩,hui⟩ hun) (by intro h;cases h) hrun
    rw [alloc_step k1] at k2
    have hA:=adopt_inv hM.inv hD.free y3 y4 (fun i c hi=>by obtain ⟨u,z1,z2,z3⟩:=y5 i c hi;exact ⟨u,z1,z2,z3 _ _ _⟩) y2
    have hE:Ext g w (g.adopt b sc.σ.length) w:=adopt_ext hD.free
    have hne:∀ k b',k≠n→blk k=some b'→b'≠b:=by
     rintro k b' hk hkb rfl
     exact hk (hM.inj _ _ _ hkb hb)
    refine ⟨_,_,fun k=>if k=n then none else blk k,⟨hM.closed,hM.ext.trans hE,hM.fr.trans ?_,hA.less ?_,?_,?_,?_,?_,?_⟩⟩
    ·intro x hx
     have hne:x≠b:=by have:=hpr0 x hx;have:=hD.new;omega
     exact ⟨rfl,by simp [G.adopt,G.withKind,G.withLoc,hne],rfl⟩
    ·rintro x (hx | ⟨k,hx⟩)
     ·exact ⟨.inl hx,by have:=hpr0 x hx;have:=hD.new;omega⟩
     ·split at hx
      ·cases hx
      ·rename_i hk;exact ⟨.inr ⟨k,hx⟩,hne k x hk hx⟩
    ·rw [← r2] at k2
     have:rem (todo listed fun k=>if k=n then none else blk k) 0 is=rem (fun m=>!Nat.beq m (0+n) && todo listed blk m) 0 is:=by
      refine rem_congr fun m _ _=>?_
      rw [Nat.zero_add]
      by_cases e:m=n
      ·subst e
       simp only [todo,if_true,Nat.beq_refl,Bool.not_true,Bool.false_and,Option.isSome_none,Bool.or_false]
       rw [hld];rfl
      ·have:Nat.beq m n=false:=by
        cases hbb:Nat.beq m n with
        | false=>rfl
        | true=>exact absurd (Nat.eq_of_beq_eq_true hbb) e
       simp only [todo,if_neg e,this,Bool.not_false,Bool.true_and]
     rw [this]
     exact k2
    ·intro k b' hk
     split at hk
     ·cases hk
     ·rename_i hkn
      obtain ⟨z0,z1,z2,z3⟩:=hM.pend k b' hk
      have:=hne k b' hkn hk
      exact ⟨z0,by simpa [G.adopt,G.withKind,G.withLoc,this] using z1,z2,z3⟩
    ·intro k k' b' hk hk'
     split at hk
     ·cases hk
     ·split at hk'
      ·cases hk'
      ·exact hM.inj _ _ _ hk hk'
    ·intro k b' hk
     split at hk
     ·cases hk
     ·exact hM.may k b' hk
    ·intro k b' hk hkb
     split at hkb
     ·cases hkb
     ·rename_i hkn
      exact (hnone k b' (by omega) hkb).elim
theorem mid_pair (hd:Ordd ops is) {n:Nat} {listed:Array Bool} {a:Act} {w:World} {g:G} {sc:St} {blk:Nat→Option Nat} (hM:Mid N ds F bd ops is s' g0 w0 Pr n listed a w g sc blk) {k:Nat} {y:AIns} (hkn:k≤n) (hi:is[k]?=some y)
  (hrd:∀ (o:Oper) (e:Edge),ops[k]?=some o→e ∈ o.after→Region.binds .any e=true→Ld listed e.on) (hnp:y.isAlloc=true→¬ ∃ m,m < k∧Mk is m∧¬ Ld listed m) {i:Nat} {x:AIns} (hik:i < k) (hx:is[i]?=some x) (ht:todo listed blk i=true):Apart x y∧clsOk x.op y.op=true:=by
 by_cases hui:Ld listed i
 ·
  simp only [todo,Bool.or_eq_true,Bool.not_eq_true'] at ht
  rcases ht with ht | ht
  ·rw [hui] at ht;cases ht
  obtain ⟨b,hb⟩:=Option.isSome_iff_exists.1 ht
  obtain ⟨d,zs,arr,ty,y1,_⟩:=(hM.pend i b hb).2.ins
  rw [hx] at y1
  cases y1
  obtain ⟨m,m1,m2,m3⟩:=hM.may i b hb
  obtain ⟨m',q1,q2,q3⟩:=hM.norm i b (by omega) hb
  rcases hd.pend i k m _ y hik hx hi rfl m1 m2 m3 with h | h | h
  ·exact absurd ⟨m',by omega,q2,q3⟩ (hnp h)
  ·exact h
  ·exact absurd (waits_ld hM.closed (h m' q1 q2) hrd) q3
 ·rcases hd.pair i k x y hik hx hi with h | h | ⟨h1,h2⟩
  ·exact absurd (waits_ld hM.closed h hrd) hui
  ·exact h
  ·exact absurd ⟨i,hik,⟨x,hx,h2⟩,hui⟩ (hnp h1)
theorem mid_drawn (hd:Ordd ops is) {n:Nat} {listed:Array Bool} {a:Act} {w:World} {g:G} {sc:St} {blk:Nat→Option Nat} (hM:Mid N ds F bd ops is s' g0 w0 Pr n listed a w g sc blk) {k:Nat} {y:AIns} (hi:is[k]?=some y) (hun:¬ Ld listed k)
  (hsafe:∀ i,i < k→∀ x,is[i]?=some x→todo listed blk i=true→x.isAlloc=true→∀ d,x.dst=some d→d ∉ y.touch) :
  ∀ k' b,blk k'=some b→∃ d zs,is[k']?=some ⟨some d,.alloc zs,none⟩∧d ∉ y.touch:=by
 intro k' b hb
 obtain ⟨hld,hD⟩:=hM.pend k' b hb
 obtain ⟨d,zs,arr,ty,y1,_⟩:=hD.ins
 refine ⟨d,zs,y1,?_⟩
 obtain ⟨m,m1,m2,m3⟩:=hM.may k' b hb
 rcases Nat.lt_trichotomy k k' with h | h | h
 ·exact hd.fresh k k' m y _ d h hi y1 rfl m1 m2 m3 rfl
 ·subst h;exact absurd hld hun
 ·exact hsafe k' h _ y1 (by simp [todo,hb]) rfl d rfl
theorem ld_count {listed:Array Bool} {n:Nat} (hsz:listed.size=n) (h0:listed.toList.count false=0):∀ k,k < n→Ld listed k:=by
 intro k hk
 rw [List.count_eq_zero] at h0
 unfold Ld
 rw [Array.getD_eq_getD_getElem?]
 have hk':k < listed.size:=by omega
 simp only [hk',getElem?_pos,Option.getD_some]
 cases hb:listed[k] with
 | true=>rfl
 | false=>exact absurd (by rw [← hb];simp) h0
theorem ready_nil (hd:Ordd ops is) {listed:Array Bool} (hsz:listed.size=ops.size) (h:Region.ready .any ops listed=[]):∀ k,k < ops.size→Ld listed k:=by
 intro k
 induction k using Nat.strongRecOn with
 | _ k ih =>
  intro hk
  refine Decidable.byContradiction fun hn=>?_
  have:k ∈ Region.ready .any ops listed:=by
   rw [mem_ready]
   refine ⟨?_,ops[k],by simp [hk],fun e he hb=>ih _ (hd.back k ops[k] e (by simp [hk]) he hb) (by have:=hd.back k ops[k] e (by simp [hk]) he hb;omega)⟩
   unfold Ld at hn
   simp only [Array.getD_eq_getD_getElem?] at hn ⊢
   have:k < listed.size:=by omega
   simp only [this,getElem?_pos,Option.getD_some] at hn ⊢
   simpa using hn
  rw [h] at this
  cases this
theorem wp_trace (hS:Sound P F) (hen:∀ f args σ lo tr r,F f args σ lo tr=some r→entered P (fnOf f)=true) (hd:Ordd ops is) (hl:is.length=ops.size) (hpr0:∀ b,Pr b→b < w0.heap.size)
  (hc:∀ (k:Nat) (o:Oper) (i:AIns),ops[k]?=some o→is[k]?=some i→chkIns P N ops o i=true) {Q:Exit→Act→World→Prop} (hQ:∀ a w,Behind N ds g0 w0 Pr s' a w→Q .normal a w) :
  ∀ (fuel:Nat) (listed:Array Bool) (a:Act) (w:World),listed.size=ops.size→listed.toList.count false≤fuel →
   (∃ g sc blk,Mid N ds F bd ops is s' g0 w0 Pr 0 listed a w g sc blk)→wpAny P .any ops Q fuel listed a w:=by
 have done:∀ (listed:Array Bool) (a:Act) (w:World),listed.size=ops.size→(∀ k,k < ops.size→Ld listed k)→(∃ g sc blk,Mid N ds F bd ops is s' g0 w0 Pr 0 listed a w g sc blk)→Q .normal a w:=by
  rintro listed a w hsz hall ⟨g,sc,blk,h0⟩
  obtain ⟨g,sc,blk,hM⟩:=mid_norm hS hd hl hpr0 h0 ops.size
  have hnone:∀ k b,blk k=some b→False:=by
   intro k b hb
   obtain ⟨d,zs,arr,ty,y1,_⟩:=(hM.pend k b hb).2.ins
   have hk:k < ops.size:=by rw [← hl];exact (List.getElem?_eq_some_iff.mp y1).1
   obtain ⟨m,m1,m2,m3⟩:=hM.norm k b hk hb
   exact m3 (hall m (by omega))
  have hrun:=hM.run
  rw [rem_none (fun m _ hm=>by
   have h1:=hall m (by omega)
   unfold Ld at h1
   simp only [todo,h1,Bool.not_true,Bool.false_or]
   cases hb:blk m with
   | none=>rfl
   | some b=>exact (hnone m b hb).elim)] at hrun
  obtain ⟨s2,h1,h2⟩:=hrun
  simp only [stepAll,Option.some.injEq] at h1
  subst h1
  have hA:=hM.inv.less (Pr2:=Pr) (fun b hb=>.inl hb)
  exact hQ _ _ ⟨g,hM.ext,hM.fr,⟨by rw [← h2.1];exact hA.inv,fun t=>by rw [← h2.2 t];exact hA.env t,hA.size,hA.defers⟩⟩
 intro fuel
 induction fuel with
 | zero =>
  intro listed a w hsz hcnt hst
  have hall:∀ k,k < ops.size→Ld listed k:=ld_count hsz (by omega)
  refine ⟨?_,done listed a w hsz hall hst⟩
  rw [List.eq_nil_iff_forall_not_mem]
  intro k hk
  rw [mem_ready] at hk
  obtain ⟨h1,o,ho,_⟩:=hk
  have hlt:=(Array.getElem?_eq_some_iff.1 ho).1
  have:=hall k hlt
  unfold Ld at this
  rw [Array.getD_eq_getD_getElem?] at this h1
  have hk':k < listed.size:=by omega
  simp only [hk',getElem?_pos,Option.getD_some] at this h1
  rw [this] at h1;cases h1
 | succ fuel ih =>
  intro listed a w hsz hcnt hst
  refine ⟨fun h=>done listed a w hsz (ready_nil hd hsz h) hst,fun k hk=>?_⟩
  rw [mem_ready] at hk
  obtain ⟨hun0,o,ho,hrd0⟩:=hk
  have hlt:=(Array.getElem?_eq_some_iff.1 ho).1
  have hks:k < listed.size:=by omega
  have hun:¬ Ld listed k:=by
   unfold Ld
   rw [Array.getD_eq_getD_getElem?] at hun0 ⊢
   simp only [hks,getElem?_pos,Option.getD_some] at hun0 ⊢
   rw [hun0];simp
  have hrd:∀ (o:Oper) (e:Edge),ops[k]?=some o→e ∈ o.after→Region.binds .any e=true→Ld listed e.on:=by
   intro o' e ho' he hb
   rw [ho] at ho';cases ho'
   exact hrd0 e he hb
  have hsz':(listed.setIfInBounds k true).size=ops.size:=by simpa using hsz
  have hcnt':(listed.setIfInBounds k true).toList.count false≤fuel:=by
   have:=cnt_set listed.toList k (by
    rw [Array.getD_eq_getD_getElem?] at hun0
    simp only [hks,getElem?_pos,Option.getD_some] at hun0
    simp [hks,hun0])
   rw [Array.toList_setIfInBounds]
   omega
  have hilt:k < is.length:=by omega
  have hi:is[k]?=some is[k]:=by simp [hilt]
  generalize is[k]=y at hi
  obtain ⟨g,sc,blk,h0⟩:=hst
  obtain ⟨g,sc,blk,hM⟩:=mid_norm hS hd hl hpr0 h0 ops.size
  have hcl:Closed ops (listed.setIfInBounds k true):=by
   intro j oj e hj h4 h5 h6
   rw [ld_set hks] at hj ⊢
   rcases hj with rfl | hj
   ·exact .inr (hrd oj e h4 h5 h6)
   ·exact .inr (hM.closed j oj e hj h4 h5 h6)
  have htodo:todo listed blk k=true:=by
   simp only [todo,Bool.or_eq_true,Bool.not_eq_true']
   refine .inl ?_
   unfold Ld at hun
   simpa using hun
  obtain ⟨pre,post,r1,r2,r3⟩:=rem_split (p:=todo listed blk) (is:=is) (n:=0) (k:=k) hi (by rw [Nat.zero_add];exact htodo)
  have hrun:=hM.run
  rw [r1] at hrun
  have hci:=hc k o y ho hi
  by_cases hcase:y.isAlloc=true∧∃ m,m < k∧Mk is m∧¬ Ld listed m
  ·
   obtain ⟨hal,m,m1,m2,m3⟩:=hcase
   have hW:¬ Waits ops k m:=fun h=>m3 (waits_ld hM.closed h hrd)
   obtain ⟨d,zs,rfl⟩:∃ d zs,y=⟨some d,.alloc zs,none⟩:=by
    unfold AIns.isAlloc at hal
    split at hal
    ·exact ⟨_,_,rfl⟩
    ·cases hal
   have hother:=mid_drawn hd hM hi hun (fun i hik x hx _ _ d' hd' hmem=>by
    have:=hd.fresh i k m x _ d hik hx hi rfl m1 m2 hW rfl
    simp only [AIns.touch,AOp.rds,AOp.takes,AIns.stricts,AOp.strict,AIns.gtmp,List.append_nil,List.nil_append,Option.toList_some,List.mem_singleton] at hmem
    subst hmem
    exact this (touch_dst hd'))
   simp only [chkIns,Bool.and_eq_true,beq_iff_eq] at hci
   obtain ⟨⟨⟨c1,c2⟩,c3⟩,c4⟩:=hci
   rw [c1] at c2
   have hdN:d < N:=of_decide_eq_true c2
   have hg:o.guard=none:=by
    cases hg:o.guard with
    | none=>rfl
    | some p=>rw [hg] at c4;simp at c4
   simp only [chkOp] at c3
   split at c3
   case h_2=>cases c3
   rename_i t hop
   split at c3
   case h_2=>cases c3
   rename_i inf hinf
   split at c3
   case h_2=>cases c3
   rename_i z hz
   obtain ⟨z1,z2⟩:=zero_any c3
   have hexec:(execOp a.eval o).run P w=.ok (.value (.pointer (some ⟨w.heap.size,0,none⟩))) (w.alloc (.cells z.cells t)):=by
    simp [execOp,hop,Instr.alloc,zeroValue,typeInfo,hinf,hz,newVar,newRow]
   have hw:Region.wanted o (yielded ops a.tmps)=true:=by simp [Region.wanted,hg]
   simp only [wpOp,ho,hw,if_true,Oper.wp,hexec,Oper.upon]
   refine .inl ?_
   rw [c1]
   have hI:=hM.inv
   have hE:=lone_ext hI.inv (.cells z.cells t)
   have hF:=lone_fr hI.inv (.cells z.cells t)
   have hnb:∀ j b,blk j=some b→b≠w.heap.size:=by
    intro j b hb e
    obtain ⟨d',zs',arr',ty',y1,y2,y3,y4,y5⟩:=(hM.pend j b hb).2.ins
    have:=(Array.getElem?_eq_some_iff.1 y3).1
    omega
   refine ih _ _ _ hsz' hcnt' ⟨g.noOwn w.heap.size,sc.set (some d) (.c (.b .any)),fun x=>if x=k then some w.heap.size else blk x,⟨hcl,hM.ext.trans hE,hM.fr.trans (fun b hb=>hF b (.inl hb)),?_,?_,?_,?_,?_,fun k b hk=>absurd hk (Nat.not_lt_zero _)⟩⟩
   ·refine put_any ?_ hdN
    refine (lone hI (.cells z.cells t)).less ?_
    rintro b (hb | ⟨j,hj⟩)
    ·exact .inl (.inl hb)
    ·split at hj
     ·cases hj;exact .inr rfl
     ·exact .inl (.inr ⟨j,hj⟩)
   ·have:rem (todo (listed.setIfInBounds k true) fun x=>if x=k then some w.heap.size else blk x) 0 is=rem (todo listed blk) 0 is:=by
     refine rem_congr fun j _ _=>?_
     by_cases e:j=k
     ·subst e;rw [htodo];simp [todo]
     ·simp only [todo,if_neg e]
      rw [Array.getD_eq_getD_getElem?,Array.getElem?_setIfInBounds_ne (fun h=>e h.symm),← Array.getD_eq_getD_getElem?]
    rw [this,r1]
    refine run_fresh (s:=sc) (fun x hx=>?_) (set_st _ _ _) (fun t ht=>?_) hrun
    ·obtain ⟨i,i1,i2,i3⟩:=r3 x hx
     exact hd.fresh i k m x _ d i1 i3 hi rfl m1 m2 hW rfl
    ·rw [set_get,if_neg (fun e=>ht (by cases e;rfl))]
   ·intro j b hb
    by_cases hjk:j=k
    ·subst hjk
     simp only [if_true,Option.some.injEq] at hb
     subst hb
     refine ⟨(ld_set hks).2 (.inl rfl),lone_kind (g:=g) (s:=sc) hI.inv,hM.ext.size,d,zs,z.cells,t,hi,?_,alloc_new,by omega,z2⟩
     rw [put_get a d _ (by rw [hI.size];exact hdN),if_pos rfl]
    ·simp only [if_neg hjk] at hb
     obtain ⟨z0,z1,z2,d',zs',arr',ty',y1,y2,y3,y4,y5⟩:=hM.pend j b hb
     obtain ⟨d2,zs2,q1,q2⟩:=hother j b hb
     rw [y1] at q1
     cases q1
     refine ⟨(ld_set hks).2 (.inr z0),z1,z2,d',zs',arr',ty',y1,?_,?_,y4,y5⟩
     ·rw [put_other,y2]
      intro e
      exact q2 (by simp [AIns.touch,e])
     ·rw [alloc_get b (Array.getElem?_eq_some_iff.1 y3).1];exact y3
   ·intro j j' b hj hj'
    by_cases h:j=k
    ·by_cases h':j'=k
     ·rw [h,h']
     ·simp only [if_pos h] at hj;simp only [if_neg h'] at hj'
      cases hj
      exact absurd rfl (hnb j' _ hj')
    ·by_cases h':j'=k
     ·simp only [if_neg h] at hj;simp only [if_pos h'] at hj'
      cases hj'
      exact absurd rfl (hnb j _ hj)
     ·simp only [if_neg h] at hj;simp only [if_neg h'] at hj'
      exact hM.inj _ _ _ hj hj'
   ·intro j b hj
    by_cases h:j=k
    ·subst h;exact ⟨m,m1,m2,hW⟩
    ·simp only [if_neg h] at hj;exact hM.may j b hj
  ·
   have hpair:∀ x ∈ pre,Apart x y∧clsOk x.op y.op=true:=by
    intro x hx
    obtain ⟨i,i1,i2,i3⟩:=r3 x hx
    rw [Nat.zero_add] at i2
    exact mid_pair hd hM (by omega) hi hrd (fun h1 h2=>hcase ⟨h1,h2⟩) i1 i3 i2
   obtain ⟨s1,k1,k2⟩:=front hS.2 hpair (stood_of (hd.look k y hi) hM.inv) hrun
   have hother:=mid_drawn hd hM hi hun (fun i hik x hx ht hal d' hd'=>(mid_pair hd hM (by omega) hi hrd (fun h1 h2=>hcase ⟨h1,h2⟩) hik hx ht).1.d1 d' hd')
   have hins:=ins_okP hS hen hci k1 hM.inv Q
   have hdst:o.dst=y.dst:=chk_dst hci
   have hnext:∀ a1 w1,Behind N ds g w (fun b=>Pr b∨∃ k,blk k=some b) s1 a1 w1→(∃ u,a1=a.put o.dst u)→wpAny P .any ops Q fuel (listed.setIfInBounds k true) a1 w1:=by
    rintro a1 w1 ⟨g',e1,e2,e3⟩ ⟨u,hu⟩
    refine ih _ _ _ hsz' hcnt' ⟨g',s1,blk,⟨hcl,hM.ext.trans e1,hM.fr.trans (fun b hb=>e2 b (.inl hb)),e3,?_,?_,hM.inj,hM.may,fun k b hk=>absurd hk (Nat.not_lt_zero _)⟩⟩
    ·rw [← r2] at k2
     have hbk:blk k=none:=by
      cases hb:blk k with
      | none=>rfl
      | some b=>exact absurd (hM.pend k b hb).1 hun
     have:rem (todo (listed.setIfInBounds k true) blk) 0 is=rem (fun m=>!Nat.beq m (0+k) && todo listed blk m) 0 is:=by
      refine rem_congr fun j _ _=>?_
      rw [Nat.zero_add]
      by_cases e:j=k
      ·subst e
       have:=(ld_set hks (j:=j)).2 (.inl rfl)
       unfold Ld at this
       simp only [todo,this,hbk,Nat.beq_refl,Bool.not_true,Bool.false_and,Option.isSome_none,Bool.or_false]
      ·have:Nat.beq j k=false:=by
        cases hbb:Nat.beq j k with
        | false=>rfl
        | true=>exact absurd (Nat.eq_of_beq_eq_true hbb) e
       simp only [todo,this,Bool.not_false,Bool.true_and]
       rw [Array.getD_eq_getD_getElem?,Array.getElem?_setIfInBounds_ne (fun h=>e h.symm),← Array.getD_eq_getD_getElem?]
     rw [this]
     exact k2
    ·intro j b hb
     obtain ⟨z0,z1,z2,d',zs',arr',ty',y1,y2,y3,y4,y5⟩:=hM.pend j b hb
     obtain ⟨d2,zs2,q1,q2⟩:=hother j b hb
     rw [y1] at q1
     cases q1
     obtain ⟨f1,f2,f3⟩:=e2 b (.inr ⟨j,hb⟩)
     refine ⟨(ld_set hks).2 (.inr z0),by rw [f2];exact z1,z2,d',zs',arr',ty',y1,?_,by rw [f1];exact y3,y4,y5⟩
     rw [hu,put_other,y2]
     intro e
     rw [hdst] at e
     exact q2 (touch_dst e)
   simp only [wpOp,ho]
   split at hins
   ·rename_i hw;simp only [hw,if_true];exact .inl (Oper.wp_mono (fun a1 w1 h=>hnext a1 w1 h.1 h.2) hins)
   ·rename_i hw;simp only [hw];exact hnext _ _ hins ⟨_,rfl⟩
theorem draw_any {g:G} {w:World} {s s':St} {a:Act} (hS:Sound P F) (hen:∀ f args σ lo tr r,F f args σ lo tr=some r→entered P (fnOf f)=true) {keep:List Nat}
  (hc:chkAll P N ops ops.toList is=true) (hd:drawOk ops is=true) (hv:stepAll F bd s is=some s') (hA:InvA N ds g w Pr s a) :
  wpAny P .any ops (fun e a' w'=>e=.normal∧Behind N ds g w Pr { s' with env:=s'.env.keep keep } a' w') ops.size (Array.replicate ops.size false) a { w with drawn:=w.drawn+1 }:=by
 obtain ⟨hl,hci⟩:=chkAll_get hc
 have hl':is.length=ops.size:=by simpa using hl
 have hw:Ext g w g { w with drawn:=w.drawn+1 }:=⟨fun _ _ h=>h,fun _ _ h=>h,Nat.le_refl _,fun _ arr _ _ h=>⟨arr,h,rfl⟩,rfl,rfl,rfl⟩
 have hf:Fr Pr g w g { w with drawn:=w.drawn+1 }:=fun _ _=>⟨rfl,rfl,rfl⟩
 have hA':InvA N ds g { w with drawn:=w.drawn+1 } Pr s a:=by
  refine ⟨⟨hA.inv.len,fun l o h=>RepOb.frame hw (fun _=>Keep.refl _ _) (fun b hb=>⟨rfl,hb⟩) (hA.inv.ob l o h),hA.inv.lt,hA.inv.pr,hA.inv.gl.mono hw.st⟩,hA.env.ext hw (fun _ _=>Keep.refl _ _),hA.size,hA.defers⟩
 have hld0:∀ j,¬ Ld (Array.replicate ops.size false) j:=by
  intro j
  simp only [Ld,Array.getD_eq_getD_getElem?,Array.getElem?_replicate]
  split<;>simp
 refine wp_trace (s':=s') (g0:=g) (w0:={ w with drawn:=w.drawn+1 }) (Pr:=Pr) (N:=N) (ds:=ds) (F:=F) (bd:=bd) hS hen (drawOk_ord hl' hd) hl' (fun b hb=>(hA'.inv.pr b hb).1) (fun k o i ho hi=>hci k o i (by simpa using ho) hi) ?_ ops.size _ a _ (by simp) (by simp)
  ⟨g,s,fun _=>none,⟨fun k o e h=>absurd h (hld0 k),.refl _ _,.refl _ _ _,hA'.less (fun b hb=>?_),?_,fun k b h=>(by cases h),fun _ _ _ h=>(by cases h),fun _ _ h=>(by cases h),fun _ _ h=>absurd h (Nat.not_lt_zero _)⟩⟩
 ·rintro a1 w1 ⟨g',e1,e2,e3⟩
  exact ⟨rfl,g',hw.trans e1,hf.trans e2,keep_ok e3⟩
 ·rcases hb with hb | ⟨k,hk⟩
  ·exact hb
  ·cases hk
 ·rw [rem_all (fun m _ _=>by
   have:=hld0 m
   unfold Ld at this
   simp only [todo,Bool.or_eq_true,Bool.not_eq_true']
   exact .inl (by simpa using this))]
  exact ⟨s',hv,Alike.refl _⟩
end
def nth (l:List Nat) (k:Nat):Nat:=(l[k]?).getD 0
def renOp (ι:List Nat) (o:Oper):Oper:={ o with after:=(o.after.toList.map fun e=>{ e with on:=nth ι e.on }).toArray,guard:=o.guard.map fun p=>(nth ι p.1,p.2) }
def permOps (π ι:List Nat) (ops:Array Oper):Array Oper:=((List.range ops.size).map fun k=>renOp ι ((ops[nth π k]?).getD default)).toArray
def permOk (π ι:List Nat) (ops:Array Oper):Bool :=
 ((List.range ops.size).all fun k=>decide (nth π k < ops.size) && decide (nth ι k < ops.size) && Nat.beq (nth ι (nth π k)) k && Nat.beq (nth π (nth ι k)) k) &&
 ops.toList.all fun o=>(o.after.toList.all fun e=>decide (e.on < ops.size)) && (match o.guard with | some p=>decide (p.1 < ops.size) | none=>true)
section
variable {P:Program} {ds:List Deferred} {π ι:List Nat} {ops:Array Oper} {Q:Exit→Act→World→Prop}
theorem perm_size:(permOps π ι ops).size=ops.size:=by simp [permOps]
structure PermIs (π ι:List Nat) (ops:Array Oper):Prop where
 lt:∀ k,k < ops.size→nth π k < ops.size
 lt':∀ k,k < ops.size→nth ι k < ops.size
 l:∀ k,k < ops.size→nth ι (nth π k)=k
 r:∀ k,k < ops.size→nth π (nth ι k)=k
 on:∀ (k:Nat) (o:Oper) (e:Edge),ops[k]?=some o→e ∈ o.after→e.on < ops.size
 guard:∀ (k:Nat) (o:Oper) (p:Nat × Bool),ops[k]?=some o→o.guard=some p→p.1 < ops.size
theorem permOk_is (h:permOk π ι ops=true):PermIs π ι ops:=by
 simp only [permOk,Bool.and_eq_true,List.all_eq_true,List.mem_range,decide_eq_true_eq] at h
 obtain ⟨h1,h2⟩:=h
 have hm:∀ (k:Nat) (o:Oper),ops[k]?=some o→o ∈ ops.toList:=fun k o ho=>by simpa using Array.mem_of_getElem? ho
 refine ⟨fun k hk=>(h1 k hk).1.1.1,fun k hk=>(h1 k hk).1.1.2,fun k hk=>Nat.eq_of_beq_eq_true (h1 k hk).1.2,fun k hk=>Nat.eq_of_beq_eq_true (h1 k hk).2,fun k o e ho he=>?_,fun k o p ho hp=>?_⟩
 ·exact (h2 o (hm k o ho)).1 e (by simpa using he)
 ·have:=(h2 o (hm k o ho)).2
  rw [hp] at this
  exact of_decide_eq_true this
theorem perm_get (hp:PermIs π ι ops) {k:Nat} {o:Oper} (ho:ops[k]?=some o):(permOps π ι ops)[nth ι k]?=some (renOp ι o):=by
 have hk:=(Array.getElem?_eq_some_iff.mp ho).1
 simp only [permOps,List.getElem?_toArray,List.getElem?_map,List.getElem?_range (hp.lt' k hk),Option.map_some,hp.r k hk,ho,Option.getD_some]
theorem ren_exec (ρ:Operand→Value) (o:Oper):execOp ρ (renOp ι o)=execOp ρ o:=by cases o;rfl
theorem ren_wp (o:Oper) (a:Act) (w:World) (K:Act→World→Prop) (h:(renOp ι o).wp P a w K Q):o.wp P a w K Q:=by
 unfold Oper.wp at *
 rw [ren_exec] at h
 cases o
 exact h
theorem ren_asks (o:Oper) (a:Act) (w:World) (h:(renOp ι o).asks P a w):o.asks P a w:=by
 unfold Oper.asks at *
 rw [ren_exec] at h
 exact h
theorem ren_wanted (hp:PermIs π ι ops) {k:Nat} {o:Oper} (ho:ops[k]?=some o) (t:Array Value):Region.wanted (renOp ι o) (yielded (permOps π ι ops) t)=Region.wanted o (yielded ops t):=by
 cases hg:o.guard with
 | none=>simp [Region.wanted,renOp,hg]
 | some p =>
  obtain ⟨j,want⟩:=p
  have hj:=hp.guard k o _ ho hg
  have hoj:ops[j]?=some ops[j]:=by simp [hj]
  have hy:yielded (permOps π ι ops) t (nth ι j)=yielded ops t j:=by
   simp only [yielded,perm_get hp hoj,hoj,Option.bind_some,renOp]
  simp only [Region.wanted,renOp,hg,Option.map_some,hy]
theorem wpAny_perm (hp:PermIs π ι ops):∀ (fuel:Nat) (listed listed':Array Bool) (a:Act) (w:World),listed.size=ops.size→listed'.size=ops.size→(∀ k,k < ops.size→listed'.getD (nth ι k) false=listed.getD k false) →
  wpAny P .any (permOps π ι ops) Q fuel listed' a w→wpAny P .any ops Q fuel listed a w:=by
 have sz:∀ {l:Array Bool} {k:Nat} (d d':Bool),k < l.size→l.getD k d=l.getD k d':=by
  intro l k d d' hk
  simp [Array.getD_eq_getD_getElem?,hk]
 have rd:∀ (listed listed':Array Bool),listed.size=ops.size→listed'.size=ops.size→(∀ k,k < ops.size→listed'.getD (nth ι k) false=listed.getD k false)→∀ k,k ∈ Region.ready .any ops listed→nth ι k ∈ Region.ready .any (permOps π ι ops) listed':=by
  intro listed listed' hs hs' hl k hk
  rw [mem_ready] at hk ⊢
  obtain ⟨h0,o,ho,he⟩:=hk
  have hk:=(Array.getElem?_eq_some_iff.mp ho).1
  refine ⟨?_,renOp ι o,perm_get hp ho,fun e he' hb=>?_⟩
  ·rw [sz true false (by rw [hs'];exact hp.lt' k hk),hl k hk,sz false true (by omega)];exact h0
  ·simp only [renOp,List.mem_toArray,List.mem_map] at he'
   obtain ⟨e0,he0,rfl⟩:=he'
   have he0':e0 ∈ o.after:=by simpa using he0
   rw [hl e0.on (hp.on k o e0 ho he0')]
   exact he e0 he0' hb
 have rd':∀ (listed listed':Array Bool),listed.size=ops.size→listed'.size=ops.size→(∀ k,k < ops.size→listed'.getD (nth ι k) false=listed.getD k false)→Region.ready .any ops listed=[]→Region.ready .any (permOps π ι ops) listed'=[]:=by
  intro listed listed' hs hs' hl h
  rw [List.eq_nil_iff_forall_not_mem] at h ⊢
  intro j hj
  rw [mem_ready] at hj
  obtain ⟨h0,o',ho',he⟩:=hj
  have hj:j < ops.size:=by have:=(Array.getElem?_eq_some_iff.mp ho').1;rwa [perm_size] at this
  have hπ:=hp.lt j hj
  have ho:ops[nth π j]?=some ops[nth π j]:=by simp [hπ]
  have hg:=perm_get hp ho
  rw [hp.l j hj,ho'] at hg
  cases hg
  refine h (nth π j) ?_
  rw [mem_ready]
  have hlj:=hl _ hπ
  rw [hp.l j hj] at hlj
  refine ⟨?_,_,ho,fun e he0 hb=>?_⟩
  ·rw [sz true false (by omega),← hlj,sz false true (by omega)];exact h0
  ·have:=he { e with on:=nth ι e.on } (by
    simp only [renOp,List.mem_toArray,List.mem_map]
    exact ⟨e,by simpa using he0,rfl⟩) hb
   rw [← hl e.on (hp.on _ _ e ho he0)]
   exact this
 intro fuel
 induction fuel with
 | zero =>
  intro listed listed' a w hs hs' hl h
  refine ⟨?_,h.2⟩
  rw [List.eq_nil_iff_forall_not_mem]
  intro k hk
  have:=rd listed listed' hs hs' hl k hk
  rw [h.1] at this
  cases this
 | succ fuel ih =>
  intro listed listed' a w hs hs' hl h
  refine ⟨fun h0=>h.1 (rd' listed listed' hs hs' hl h0),fun k hk=>?_⟩
  have hr:=rd listed listed' hs hs' hl k hk
  have h1:=h.2 _ hr
  rw [mem_ready] at hk
  obtain ⟨_,o,ho,_⟩:=hk
  have hk:=(Array.getElem?_eq_some_iff.mp ho).1
  have hnext:∀ a1 w1,wpAny P .any (permOps π ι ops) Q fuel (listed'.setIfInBounds (nth ι k) true) a1 w1→wpAny P .any ops Q fuel (listed.setIfInBounds k true) a1 w1:=by
   intro a1 w1 h2
   refine ih _ _ a1 w1 (by simpa using hs) (by simpa using hs') (fun j hj=>?_) h2
   by_cases e:j=k
   ·subst e
    have q1:nth ι j < listed'.size:=by rw [hs'];exact hp.lt' j hj
    have q2:j < listed.size:=by omega
    simp [Array.getD_eq_getD_getElem?,q1,q2]
   ·have hne:nth ι k≠nth ι j:=by
     intro h
     have:=congrArg (nth π) h
     rw [hp.r k hk,hp.r j hj] at this
     exact e this.symm
    have:=hl j hj
    simp only [Array.getD_eq_getD_getElem?] at this ⊢
    rw [Array.getElem?_setIfInBounds_ne hne,Array.getElem?_setIfInBounds_ne (fun h=>e h.symm)]
    exact this
  simp only [wpOp,perm_get hp ho,ho] at h1 ⊢
  rw [ren_wanted hp ho] at h1
  have hd:(renOp ι o).dst=o.dst:=rfl
  split
  ·rename_i hw
   rw [if_pos hw] at h1
   rcases h1 with h1 | ⟨h2,h3⟩
   ·exact .inl (Oper.wp_mono hnext (ren_wp o a w _ h1))
   ·exact .inr ⟨ren_asks o a w h2,h3⟩
  ·rename_i hw
   rw [if_neg hw] at h1
   exact hnext _ _ h1
end
def isStore:Oper→Bool
 | o=>match o.op with | .store ..=>true | _=>false
def lastπ (ops:Array Oper):List Nat:=((List.range ops.size).filter fun k=>!((ops[k]?).map isStore).getD false) ++ ((List.range ops.size).filter fun k=>((ops[k]?).map isStore).getD false)
def idxOf (x:Nat):List Nat→Nat→Nat
 | [],_=>0
 | y :: l,n=>bif Nat.beq x y then n else idxOf x l (n+1)
def lastι (ops:Array Oper):List Nat:=(List.range ops.size).map fun k=>idxOf k (lastπ ops) 0
section
variable {P:Program} {N:Nat} {ds:List Deferred} {g:G} {w:World} {Pr:Nat→Prop} {s s':St} {a:Act} {F:Oracle} {bd:Bd} {ops:Array Oper} {is:List AIns}
theorem region_draw_ok {r:Option Nat} {k:Nat} (hm:P.follows .mixedOrders=true) (hS:Sound P F) (hen:∀ f args σ lo tr r,F f args σ lo tr=some r→entered P (fnOf f)=true) {id:Nat} {keep:List Nat}
  (hnd:∀ o ∈ ops,noDefer o=true) (hc:chkAll P N ops ops.toList is=true) (hd:drawOk ops is=true) (hv:stepAll F bd s is=some s') (hA:InvA N ds g w Pr s a) :
  (Code.region id ops true).wpIn (Wd r) k P (fun e a' w'=>e=.normal∧Behind N ds g w Pr { s' with env:=s'.env.keep keep } a' w') a w :=
 region_any_in hm hnd (by rintro ⟨_,_,h,_⟩;cases h) (draw_any hS hen hc hd hv hA)
def drawLast (P:Program) (N:Nat) (ops:Array Oper) (is:List AIns):Bool :=
 permOk (lastπ ops) (lastι ops) ops && chkAll P N (permOps (lastπ ops) (lastι ops) ops) (permOps (lastπ ops) (lastι ops) ops).toList is && drawOk (permOps (lastπ ops) (lastι ops) ops) is
theorem region_last_ok {r:Option Nat} {k:Nat} (hm:P.follows .mixedOrders=true) (hS:Sound P F) (hen:∀ f args σ lo tr r,F f args σ lo tr=some r→entered P (fnOf f)=true) {id:Nat} {keep:List Nat}
  (hnd:∀ o ∈ ops,noDefer o=true) (hd:drawLast P N ops is=true) (hv:stepAll F bd s is=some s') (hA:InvA N ds g w Pr s a) :
  (Code.region id ops true).wpIn (Wd r) k P (fun e a' w'=>e=.normal∧Behind N ds g w Pr { s' with env:=s'.env.keep keep } a' w') a w:=by
 simp only [drawLast,Bool.and_eq_true] at hd
 have h:=draw_any (keep:=keep) hS hen hd.1.2 hd.2 hv hA
 rw [perm_size] at h
 refine region_any_in hm hnd (by rintro ⟨_,_,h,_⟩;cases h) (wpAny_perm (permOk_is hd.1.1) ops.size _ (Array.replicate ops.size false) a _ Array.size_replicate Array.size_replicate (fun k hk=>?_) h)
 have hk':=(permOk_is hd.1.1).lt' k hk
 simp [Array.getD_eq_getD_getElem?,hk,hk']
end
def backR0:List AIns:=[⟨some 4,.ld .cp none (.t 1),none⟩,⟨some 5,.len 0 (.t 4),none⟩,⟨some 6,.bin .sub (.t 5) (.k (.c (.b (.d (.int .i64 1))))),none⟩,⟨some 3,.mov .cp (.t 6),none⟩]
def backR1:List AIns:=[⟨some 7,.mov .cp (.t 3),none⟩,⟨some 8,.bin .geq (.t 7) (.k (.c (.b (.d (.int .i64 0))))),none⟩]
def backR2:List AIns:=[⟨some 9,.mov .cp (.t 3),none⟩,⟨some 10,.bin .sub (.t 9) (.k (.c (.b (.d (.int .i64 1))))),none⟩,⟨some 3,.mov .cp (.t 10),none⟩]
def backR3 (k:Nat) (agg:Bool):List AIns:=[⟨some 12,.mov .cp (.t 3),none⟩,⟨some 13,.ld .cp none (.t 1),none⟩,⟨some 14,.mov .cp (.t 3),none⟩,⟨some 15,.ia k (.t 13) (.t 14),none⟩,⟨some 16,.ld .cp (bif agg then some k else none) (.t 15),none⟩]
def isTmp (n:Nat):Operand→Bool
 | .tmp t=>Nat.beq t n
 | _=>false
def isYield (o:Oper):Bool:=o.dst == some 17 && o.guard.isNone && (match o.op with
 | .call c=>(match c.callee with | .value x=>isTmp 11 x | _=>false) && (match c.args.toList with | [x,y]=>isTmp 12 x && isTmp 16 y | _=>false)
 | _=>false)
def isMv (o:Oper):Bool:=o.dst == some 11 && o.guard.isNone && (match o.op with
 | .move x=>isTmp 0 x
 | _=>false)
def isNot (o:Oper):Bool:=o.dst == some 18 && o.guard.isNone && (match o.op with
 | .unOp .not _ x=>isTmp 17 x
 | _=>false)
def isBack (P:Program) (f k:Nat) (agg:Bool):Bool:=match P.funcs[f]? with
 | some fn=>fn.ntmps == 19 && fn.results.size == 0 && (match fn.body with
  | some (.seq (.region _ ops0 false) (.block b0 (.loop (.seq (.seq (.region _ ops1 false) (.cond c1 .skip (.exit b1))) (.seq (.block _ (.seq (.region _ ops3 false) (.cond c3 .ret .skip))) (.region _ ops2 false)))))) =>
   b0 == b1 && isTmp 8 c1 && isTmp 18 c3 && ops0.toList.all noDefer && ops1.toList.all noDefer && ops2.toList.all noDefer && ops3.toList.all noDefer &&
   (ops0.size == 4 && (ops0.toList.all fun o=>o.dst != some 0) && chkAll P 19 ops0 ops0.toList backR0) && (ops1.size == 2 && (ops1.toList.all fun o=>o.dst != some 0) && chkAll P 19 ops1 ops1.toList backR1) && (ops2.size == 3 && (ops2.toList.all fun o=>o.dst != some 0) && chkAll P 19 ops2 ops2.toList backR2) &&
   (ops3.size == 8 && ((ops3.toList.drop 1).take 5 |>.all fun o=>o.dst != some 0 && o.dst != some 11) && chkAll P 19 ops3 ((ops3.toList.drop 1).take 5) (backR3 k agg) && (match ops3[0]?,ops3[6]?,ops3[7]? with | some o0,some o6,some o7=>isMv o0 && isYield o6 && isNot o7 | _,_,_=>false))
  | _=>false)
 | none=>false
section
variable {P:Program} {N:Nat} {ds:List Deferred} {g g':G} {w w':World} {Pr:Nat→Prop} {s s':St} {a a':Act} {F:Oracle} {bd:Bd}
theorem put_ext {b:Nat} {o o':Obj} (hk:g.kind b=.free) (hb:w.heap[b]?=some o) (ho:o.isCells=false):Ext g w g (w.putObj b o') where
 st x v hx:=by
  obtain ⟨h1,h2,h3⟩:=hx
  have hne:x.block≠b:=by
   intro e
   rw [e,hk] at h3
   rcases h3 with h3 | ⟨n,h3,_⟩<;>cases h3
  refine ⟨h1,?_,h3⟩
  simp only [World.cell?,World.putObj_heap_other hne]
  exact h2
 loc l x h:=h
 size:=by simp [World.putObj]
 shape c arr ty fz h:=by
  have hne:c≠b:=by rintro rfl;rw [hb] at h;cases h;cases ho
  exact ⟨arr,by rw [World.putObj_heap_other hne];exact h,rfl⟩
 os:=rfl
 tape:=rfl
 output:=rfl
theorem put_inv {σ:List Ob} (hI:Inv g w Pr σ) {b:Nat} {o o':Obj} (hk:g.kind b=.free) (hb:w.heap[b]?=some o) (ho:o.isCells=false):Inv g (w.putObj b o') Pr σ where
 len:=hI.len
 ob l x hx:=by
  refine RepOb.frame (put_ext hk hb ho) (fun i=>Keep.refl _ _) (fun c hc=>?_) (hI.ob l x hx)
  have hne:c≠b:=by rintro rfl;rw [hk] at hc;cases hc
  exact ⟨World.putObj_heap_other hne,hc⟩
 lt c hc:=by simpa [World.putObj] using hI.lt c hc
 pr c hc:=by
  obtain ⟨h1,h2,h3⟩:=hI.pr c hc
  exact ⟨by simpa [World.putObj] using h1,h2,h3⟩
 gl:=hI.gl.mono (put_ext hk hb ho).st
theorem put_otherB (a:Act) (d:Option Tmp) (v:Value) (t:Nat) (h:d≠some t):(a.put d v).tmps.getD t undef=a.tmps.getD t undef:=by
 cases d with
 | none=>rfl
 | some x =>
  have hne:x≠t:=fun e=>h (by rw [e])
  simp only [Act.put,Array.getD_eq_getD_getElem?]
  rw [Array.getElem?_setIfInBounds_ne hne]
theorem all_okIn (hS:Sound P F) (hen:∀ f args σ lo tr r,F f args σ lo tr=some r→entered P (fnOf f)=true) {r:Option Nat} {n:Nat} {ops:Array Oper} {Q:Exit→Act→World→Prop} {rest:List Nat} (hq:¬ LetsOut Q) :
  ∀ (os:List Oper) (is:List AIns) (k:Nat) (s s':St) (g:G) (a:Act) (w:World),(∀ o ∈ os,noDefer o=true)→chkAll P N ops os is=true→(∀ j,j < os.length→os[j]?=ops[k+j]?)→stepAll F bd s is=some s'→InvA N ds g w Pr s a →
   (∀ a' w',Behind N ds g w Pr s' a' w'→(∀ t,(∀ o ∈ os,o.dst≠some t)→a'.tmps.getD t undef=a.tmps.getD t undef)→wpOpsIn (Wd r) n P ops Q rest a' w')→wpOpsIn (Wd r) n P ops Q (List.range' k os.length ++ rest) a w
 | [],is,k,s,s',g,a,w,hnd,hc,hk,hv,hA,hQ=>by
  cases is with
  | nil =>
   simp only [stepAll,Option.some.injEq] at hv
   subst hv
   exact hQ _ _ (Behind.refl hA) (fun _ _=>rfl)
  | cons i is=>simp [chkAll] at hc
 | o :: os,is,k,s,s',g,a,w,hnd,hc,hk,hv,hA,hQ=>by
  cases is with
  | nil=>simp [chkAll] at hc
  | cons i is =>
   simp only [chkAll,Bool.and_eq_true] at hc
   simp only [stepAll] at hv
   split at hv
   case h_2=>cases hv
   rename_i s1 hs1
   have ho:ops[k]?=some o:=by have:=hk 0 (by simp);simpa using this.symm
   have hins:=ins_okP hS hen hc.1 hs1 hA Q
   have hrest:∀ a1 w1,(Behind N ds g w Pr s1 a1 w1∧∃ u,a1=a.put o.dst u)→wpOpsIn (Wd r) n P ops Q (List.range' (k+1) os.length ++ rest) a1 w1:=by
    rintro a1 w1 ⟨⟨g1,e1,e2,e3⟩,u,hu⟩
    refine all_okIn hS hen hq os is (k+1) s1 s' g1 a1 w1 (fun o ho=>hnd o (List.mem_cons_of_mem _ ho)) hc.2 (fun j hj=>?_) hv e3 (fun a2 w2 h2 h3=>hQ _ _ (Behind.trans e1 e2 h2) (fun t ht=>?_))
    ·have:=hk (j+1) (by simpa using hj)
     simpa [Nat.add_assoc,Nat.add_comm 1 j] using this
    ·rw [h3 t (fun o ho=>ht o (List.mem_cons_of_mem _ ho)),hu]
     exact put_otherB _ _ _ _ (ht o List.mem_cons_self)
   rw [List.length_cons,List.range'_succ,List.cons_append,wpOpsIn_cons]
   simp only [wpOpIn,ho]
   split at hins
   ·rename_i hw;rw [if_pos hw];exact Oper.wpIn_mono hrest (oper_in (hnd o List.mem_cons_self) hins)
   ·rename_i hw;rw [if_neg hw];exact ⟨fun _ _=>trivial,hrest _ _ ⟨hins,undef,rfl⟩⟩
theorem region_okIn (hS:Sound P F) (hen:∀ f args σ lo tr r,F f args σ lo tr=some r→entered P (fnOf f)=true) {r:Option Nat} {n id:Nat} {ops:Array Oper} {is:List AIns} {Q:Exit→Act→World→Prop} (hq:¬ LetsOut Q)
  (hnd:ops.toList.all noDefer=true) (h0:(ops.toList.all fun o=>o.dst != some 0)=true) (hc:chkAll P N ops ops.toList is=true) (hv:stepAll F bd s is=some s') (hA:InvA N ds g w Pr s a)
  (hQ:∀ a' w',Behind N ds g w Pr s' a' w'→a'.tmps.getD 0 undef=a.tmps.getD 0 undef→Q .normal a' w'):(Code.region id ops false).wpIn (Wd r) n P Q a w:=by
 refine wpIn_region ?_
 have:=all_okIn (rest:=[]) (k:=0) hS hen (r:=r) (n:=n) hq ops.toList is s s' g a w (List.all_eq_true.mp hnd) hc (fun j _=>by simp) hv hA (fun a' w' h1 h2=>hQ a' w' h1 (h2 0 (fun o ho=>by simpa using List.all_eq_true.mp h0 o ho)))
 rw [range_eq]
 simpa using this
abbrev itE (rows:List (List D)) (i:Int):Env:=[(0,.c (.b .any)),(1,.c (.b (.rop [.sl rows] 0))),(3,.c (.b (.d (.int .i64 i))))]
theorem itE_other {rows:List (List D)} {i:Int} {t:Nat} (h0:¬ t=0) (h1:¬ t=1) (h3:¬ t=3):(itE rows i).get t=.c (.b .any):=by
 rw [env_get_cons,if_neg (fun e=>h0 e.symm),env_get_cons,if_neg (fun e=>h1 e.symm),env_get_cons,if_neg (fun e=>h3 e.symm)];rfl
theorem r0_run (rows:List (List D)) (σ:List Ob):∃ s',stepAll F bd ⟨[(0,.c (.b .any)),(1,.c (.b (.rop [.sl rows] 0)))],σ⟩ backR0=some s'∧s'.σ=σ∧∀ t,(itE rows (IntKind.i64.wrap ((rows.length:Int) - 1))).get t=s'.env.get t∨(itE rows (IntKind.i64.wrap ((rows.length:Int) - 1))).get t=.c (.b .any):=by
 refine ⟨_,rfl,rfl,fun t=>?_⟩
 by_cases h0:t=0
 ·subst h0;exact .inr rfl
 by_cases h1:t=1
 ·subst h1;exact .inl rfl
 by_cases h3:t=3
 ·subst h3;exact .inl rfl
 ·exact .inr (itE_other h0 h1 h3)
theorem r1_run (rows:List (List D)) (i:Int) (σ:List Ob):∃ s',stepAll F bd ⟨itE rows i,σ⟩ backR1=some s'∧s'.σ=σ∧s'.env.get 8=.c (.b (.d (.bool (decide (i≥0)))))∧∀ t,(itE rows i).get t=s'.env.get t∨(itE rows i).get t=.c (.b .any):=by
 refine ⟨_,rfl,rfl,rfl,fun t=>?_⟩
 by_cases h0:t=0
 ·subst h0;exact .inr rfl
 by_cases h1:t=1
 ·subst h1;exact .inl rfl
 by_cases h3:t=3
 ·subst h3;exact .inl rfl
 ·exact .inr (itE_other h0 h1 h3)
theorem r2_run (rows:List (List D)) (i:Int) (σ:List Ob):∃ s',stepAll F bd ⟨itE rows i,σ⟩ backR2=some s'∧s'.σ=σ∧∀ t,(itE rows (IntKind.i64.wrap (i - 1))).get t=s'.env.get t∨(itE rows (IntKind.i64.wrap (i - 1))).get t=.c (.b .any):=by
 refine ⟨_,rfl,rfl,fun t=>?_⟩
 by_cases h0:t=0
 ·subst h0;exact .inr rfl
 by_cases h1:t=1
 ·subst h1;exact .inl rfl
 by_cases h3:t=3
 ·subst h3;exact .inl rfl
 ·exact .inr (itE_other h0 h1 h3)
theorem r3_run {rows:List (List D)} {i kk:Nat} {agg:Bool} {row:List D} (h:rows[i]?=some row) (hk:row.length=kk) (hag:agg=false→kk=1) (σ:List Ob):∃ s',stepAll F bd ⟨(11,.c (.b .any)) :: itE rows (i:Int),σ⟩ (backR3 kk agg)=some s'∧s'.σ=σ∧s'.env.get 12=.c (.b (.d (.int .i64 (i:Int))))∧s'.env.get 16=rowV agg row∧∀ t,(itE rows (i:Int)).get t=s'.env.get t∨(itE rows (i:Int)).get t=.c (.b .any):=by
 subst hk
 have key:∃ v,v=rowV agg row∧stepAll F bd ⟨(11,.c (.b .any)) :: itE rows (i:Int),σ⟩ (backR3 row.length agg)=some ⟨(16,v) :: (15,.c (.b (.rop row 0))) :: (14,.c (.b (.d (.int .i64 (i:Int))))) :: (13,.c (.b (.d (.sl rows)))) :: (12,.c (.b (.d (.int .i64 (i:Int))))) :: (11,.c (.b .any)) :: itE rows (i:Int),σ⟩:=by
  refine ⟨_,rfl,?_⟩
  cases agg with
  | false =>
   obtain ⟨d,rfl⟩:∃ d,row=[d]:=List.length_eq_one_iff.mp (hag rfl)
   simp [backR3,stepAll,stepIns,stepOp,St.rd,St.raw,St.set,V.down,C.down,env_get_cons,intOf,h,rowV]
  | true =>
   simp [backR3,stepAll,stepIns,stepOp,St.rd,St.raw,St.set,V.down,C.down,env_get_cons,intOf,h,rowV]
 obtain ⟨v,rfl,hrun⟩:=key
 refine ⟨_,hrun,rfl,rfl,rfl,fun t=>?_⟩
 by_cases h0:t=0
 ·subst h0;exact .inr rfl
 by_cases h1:t=1
 ·subst h1;exact .inl rfl
 by_cases h3:t=3
 ·subst h3;exact .inl rfl
 ·exact .inr (itE_other h0 h1 h3)
theorem InvA.sub {env2:Env} (hA:InvA N ds g w Pr s a) (h:∀ t,env2.get t=s.env.get t∨env2.get t=.c (.b .any)):InvA N ds g w Pr ⟨env2,s.σ⟩ a:=by
 refine ⟨hA.inv,fun t=>?_,hA.size,hA.defers⟩
 rcases h t with h | h
 ·show RepV g w Pr (.tmp t) (env2.get t) _
  rw [h];exact hA.env t
 ·show RepV g w Pr (.tmp t) (env2.get t) _
  rw [h];trivial
structure Rounds (P:Program) (m l:Nat) (rows:List (List D)) (agg:Bool) (Pi:Nat→Prop) (τ:Nat→List Ob) (pv:Value) (Good:Nat→G→World→Prop):Prop where
 inv:∀ j g W,Good j g W→Inv g W Pi (τ j)
 on:∀ j g W g' W',Good j g W→Ext g W g' W'→Fr Pi g W g' W'→Inv g' W' Pi (τ j)→Good j g' W'
 var:∀ j g W,Good j g W→RepB g W (.rop [.sl rows] 0) pv
 round:∀ j g W iv ev row,rows.reverse[j]?=some row→Good j g W→RepV g W Pi (.tmp 12) (.c (.b (.d (.int .i64 ((rows.length - 1 - j:Nat):Int))))) iv→RepV g W Pi (.tmp 16) (rowV agg row) ev →
  YieldAt (Wd none) m P l #[iv,ev] W fun e W'=>e=.returned (.bool true)∧∃ g',Good (j+1) g' W'∧Ext g W g' W'
theorem wrap_small {i:Int} (h1 : -1≤i) (h2:i≤140737488355328):IntKind.i64.wrap i=i:=by
 simp [IntKind.wrap,IntKind.signed,IntKind.bits];omega
theorem isTmp_eq {n:Nat} {x:Operand} (h:isTmp n x=true):x=.tmp n:=by
 cases x with
 | tmp t=>simp only [isTmp] at h;rw [Nat.eq_of_beq_eq_true h]
 | _=>simp [isTmp] at h
theorem back_calls (hS:Sound P F) (hen:∀ f args σ lo tr r,F f args σ lo tr=some r→entered P (fnOf f)=true) {f kk:Nat} {agg:Bool} (hb:isBack P f kk agg=true) {rows:List (List D)} (hrows:∀ r ∈ rows,r.length=kk) (hag:agg=false→kk=1) (hlen:rows.length≤140737488355328)
  {m l:Nat} {Pi:Nat→Prop} {τ:Nat→List Ob} {pv:Value} {Good:Nat→G→World→Prop} (hR:Rounds P m l rows agg Pi τ pv Good) {g:G} {W:World} (h0:Good 0 g W) :
  CallsIn (Wd none) (m+1) P f #[.func (.yield l) #[] #[],pv] W fun e W'=>(∃ v,e=.returned v)∧∃ g',Good rows.length g' W':=by
 unfold isBack at hb
 split at hb
 case h_2=>cases hb
 rename_i fn hfn
 simp only [Bool.and_eq_true,beq_iff_eq] at hb
 obtain ⟨⟨hnt,hres⟩,hb⟩:=hb
 split at hb
 case h_2=>cases hb
 rename_i i0 ops0 b0 i1 ops1 c1 b1 i3b i3 ops3 c3 i2 ops2 hbody
 simp only [Bool.and_eq_true,beq_iff_eq] at hb
 obtain ⟨⟨⟨⟨⟨⟨⟨⟨⟨⟨rfl,hc1⟩,hc3⟩,n0⟩,n1⟩,n2⟩,n3⟩,⟨⟨z0,d0⟩,k0⟩⟩,⟨⟨z1,d1⟩,k1⟩⟩,⟨⟨z2,d2⟩,k2⟩⟩,⟨⟨⟨z3,d3⟩,k3⟩,hy⟩⟩:=hb
 have hc1:=isTmp_eq hc1
 have hc3:=isTmp_eq hc3
 subst hc1
 subst hc3
 have hr0:fn.results = #[]:=Array.size_eq_zero_iff.mp hres
 let R:Ending→World→Prop:=fun e W'=>(∃ v,e=.returned v)∧∃ g',Good rows.length g' W'
 refine callsIn_of_wp hfn hbody trivial ?_
 have hlo:∀ a w,¬ bodyPost P fn R .outgrown a w:=by
  rintro a w ⟨⟨v,h⟩,_⟩
  cases h
 have hsz:(#[Value.func (.yield l) #[] #[],pv]:Array Value).size=2:=rfl
 rw [hsz]
 obtain ⟨A,hA⟩:∃ A:Act,A={ tmps:=#[.func (.yield l) #[] #[],pv] ++ Array.replicate (fn.ntmps - 2) undef,defers:=[] }:=⟨_,rfl⟩
 rw [← hA]
 have y0:A.tmps.getD 0 undef=.func (.yield l) #[] #[]:=by
  rw [hA,Array.getD_eq_getD_getElem?,Array.getElem?_append_left (by simp)];rfl
 have y1:A.tmps.getD 1 undef=pv:=by
  rw [hA,Array.getD_eq_getD_getElem?,Array.getElem?_append_left (by simp)];rfl
 have hA0:InvA 19 [] g W Pi ⟨[(0,.c (.b .any)),(1,.c (.b (.rop [.sl rows] 0)))],τ 0⟩ A:=by
  refine ⟨hR.inv 0 g W h0,fun t=>?_,by rw [hA];simp [hnt],by rw [hA]⟩
  rw [env_get_cons]
  split
  ·trivial
  ·rw [env_get_cons]
   split
   ·rename_i h;subst h
    rw [y1];exact hR.var 0 g W h0
   ·trivial
 let L:Nat→Act→World→Prop:=fun j a W=>∃ g,Good j g W∧InvA 19 [] g W Pi ⟨itE rows ((rows.length:Int) - 1 - j),τ j⟩ a∧a.tmps.getD 0 undef=.func (.yield l) #[] #[]
 have rounds:∀ (n j:Nat) (a:Act) (W:World),n+j=rows.length→L j a W→Code.roundsIn (Wd none) (m+1) P (((Code.region i1 ops1 false).seq (Code.cond (Operand.tmp 8) Code.skip (Code.exit b0))).seq ((Code.block i3b ((Code.region i3 ops3 false).seq (Code.cond (Operand.tmp 18) Code.ret Code.skip))).seq (Code.region i2 ops2 false))) (Exit.inBlock b0 (bodyPost P fn R)) (n+1) a W:=by
  intro n
  induction n with
  | zero =>
   rintro j a W hj ⟨g,hG,hI,hY⟩
   have hj':j=rows.length:=by omega
   subst hj'
   rw [roundsIn_succ]
   obtain ⟨s',q1,q2,q3,q4⟩:=r1_run (F:=F) (bd:=⟨0,0⟩) rows ((rows.length:Int) - 1 - rows.length) (τ rows.length)
   refine wpIn_seq (wpIn_seq (region_okIn hS hen ?_ n1 d1 k1 q1 hI fun a' W' hB hY'=>?_))
   ·rintro ⟨a,w,h⟩;exact hlo a w h
   ·obtain ⟨g',e1,e2,e3⟩:=hB
    have h8:=e3.env 8
    rw [q3] at h8
    have h8':a'.eval (.tmp 8)=.bool false:=(rep_bool h8).trans (congrArg Value.bool (decide_eq_false (by omega)))
    refine wpIn_cond_false h8' (wpIn_exit ?_)
    have hG':=hR.on _ _ _ _ _ hG e1 e2 (q2 ▸ e3.inv)
    simp only [Exit.then,Exit.inBlock,if_true]
    exact ⟨e3.defers,_,results_none hr0 _ _ _,⟨_,rfl⟩,g',hG'⟩
  | succ n ih =>
   rintro j a W hj ⟨g,hG,hI,hY⟩
   rw [roundsIn_succ]
   have hi:(rows.length:Int) - 1 - j=((rows.length - 1 - j:Nat):Int):=by omega
   rw [hi] at hI
   obtain ⟨s',q1,q2,q3,q4⟩:=r1_run (F:=F) (bd:=⟨0,0⟩) rows ((rows.length - 1 - j:Nat):Int) (τ j)
   refine wpIn_seq (wpIn_seq (region_okIn hS hen ?_ n1 d1 k1 q1 hI fun a1 W1 hB hY1=>?_))
   ·rintro ⟨a,w,h⟩;exact hlo a w h
   obtain ⟨g1,e1,e2,e3⟩:=hB
   have h8:=e3.env 8
   rw [q3] at h8
   have h8':a1.eval (.tmp 8)=.bool true:=(rep_bool h8).trans (congrArg Value.bool (decide_eq_true (by omega)))
   refine wpIn_cond_true h8' (wpIn_skip ?_)
   have hG1:=hR.on _ _ _ _ _ hG e1 e2 (q2 ▸ e3.inv)
   have hI1:InvA 19 [] g1 W1 Pi ⟨itE rows ((rows.length - 1 - j:Nat):Int),τ j⟩ a1:=by
    have:=e3.sub q4
    rwa [q2] at this
   simp only [Exit.then]
   obtain ⟨row,hrow⟩:∃ row,rows[rows.length - 1 - j]?=some row:=⟨_,List.getElem?_eq_getElem (by omega)⟩
   have hrev:rows.reverse[j]?=some row:=by
    rw [List.getElem?_reverse (by omega)]
    exact hrow
   have hrl:row.length=kk:=hrows row (List.mem_of_getElem? hrow)
   obtain ⟨s3,p1,p2,p3,p4,p5⟩:=r3_run (F:=F) (bd:=⟨0,0⟩) hrow hrl hag (τ j)
   split at hy
   case h_2=>cases hy
   rename_i o0 o6 o7 ho0 ho6 ho7
   simp only [Bool.and_eq_true] at hy
   obtain ⟨⟨m0,m6⟩,m7⟩:=hy
   simp only [isMv,Bool.and_eq_true,beq_iff_eq,Option.isNone_iff_eq_none] at m0
   obtain ⟨⟨f1,f2⟩,f3⟩:=m0
   split at f3
   case h_2=>cases f3
   rename_i x0 hop0
   have hx0:=isTmp_eq f3
   subst hx0
   simp only [isYield,Bool.and_eq_true,beq_iff_eq,Option.isNone_iff_eq_none] at m6
   obtain ⟨⟨u1,u2⟩,u3⟩:=m6
   split at u3
   case h_2=>cases u3
   rename_i c6 hop6
   simp only [Bool.and_eq_true] at u3
   obtain ⟨u3,u4⟩:=u3
   split at u3
   case h_2=>cases u3
   rename_i x6 hc6
   have hx6:=isTmp_eq u3
   subst hx6
   split at u4
   case h_2=>cases u4
   rename_i xa xb hargs
   simp only [Bool.and_eq_true] at u4
   have hxa:=isTmp_eq u4.1
   have hxb:=isTmp_eq u4.2
   subst hxa
   subst hxb
   simp only [isNot,Bool.and_eq_true,beq_iff_eq,Option.isNone_iff_eq_none] at m7
   obtain ⟨⟨v1,v2⟩,v3⟩:=m7
   split at v3
   case h_2=>cases v3
   rename_i t7 x7 hop7
   have hx7:=isTmp_eq v3
   subst hx7
   have hw:∀ (o:Oper) (a:Act),o.guard=none→Region.wanted o (yielded ops3 a.tmps)=true:=fun o a h=>by simp [Region.wanted,h]
   refine wpIn_seq (wpIn_block (wpIn_seq (wpIn_region ?_)))
   have hrange:List.range ops3.size=0 :: (List.range' 1 ((ops3.toList.drop 1).take 5).length ++ [6,7]):=by
    have:((ops3.toList.drop 1).take 5).length=5:=by simp [z3]
    rw [z3,this];rfl
   rw [hrange,wpOpsIn_cons]
   simp only [wpOpIn,ho0]
   rw [if_pos (hw o0 a1 f2)]
   refine ⟨fun _ _=>trivial,?_⟩
   have hrun0:(o0.semAt (Wd none).round a1.eval).run P W1=.ok (.value (a1.eval (.tmp 0))) W1:=by
    show (execOp a1.eval o0).run P W1=_
    simp only [execOp,hop0];rfl
   rw [hrun0]
   show wpOpsIn (Wd none) (m+1) P ops3 _ _ (a1.put o0.dst _) W1
   rw [f1]
   have hI2:InvA 19 [] g1 W1 Pi ⟨(11,.c (.b .any)) :: itE rows ((rows.length - 1 - j:Nat):Int),τ j⟩ (a1.put (some 11) (a1.eval (.tmp 0))) :=
    ⟨hI1.inv,set_env (d:=some 11) (v:=.c (.b .any)) (u:=a1.eval (.tmp 0)) (s:=⟨itE rows ((rows.length - 1 - j:Nat):Int),τ j⟩) hI1.env (fun x hx=>by obtain rfl:11=x:=Option.some.inj hx;exact ⟨by rw [hI1.size];decide,trivial⟩),by rw [put_size];exact hI1.size,by rw [put_defers];exact hI1.defers⟩
   have hlq:¬ LetsOut (Exit.then ((Code.cond (Operand.tmp 18) Code.ret Code.skip).wpIn (Wd none) (m+1) P (Exit.inBlock i3b (Exit.then ((Code.region i2 ops2 false).wpIn (Wd none) (m+1) P (Exit.then (Code.roundsIn (Wd none) (m+1) P (((Code.region i1 ops1 false).seq (Code.cond (Operand.tmp 8) Code.skip (Code.exit b0))).seq ((Code.block i3b ((Code.region i3 ops3 false).seq (Code.cond (Operand.tmp 18) Code.ret Code.skip))).seq (Code.region i2 ops2 false))) (Exit.inBlock b0 (bodyPost P fn R)) (n+1)) (Exit.inBlock b0 (bodyPost P fn R)))) (Exit.then (Code.roundsIn (Wd none) (m+1) P (((Code.region i1 ops1 false).seq (Code.cond (Operand.tmp 8) Code.skip (Code.exit b0))).seq ((Code.block i3b ((Code.region i3 ops3 false).seq (Code.cond (Operand.tmp 18) Code.ret Code.skip))).seq (Code.region i2 ops2 false))) (Exit.inBlock b0 (bodyPost P fn R)) (n+1)) (Exit.inBlock b0 (bodyPost P fn R)))))) (Exit.inBlock i3b (Exit.then ((Code.region i2 ops2 false).wpIn (Wd none) (m+1) P (Exit.then (Code.roundsIn (Wd none) (m+1) P (((Code.region i1 ops1 false).seq (Code.cond (Operand.tmp 8) Code.skip (Code.exit b0))).seq ((Code.block i3b ((Code.region i3 ops3 false).seq (Code.cond (Operand.tmp 18) Code.ret Code.skip))).seq (Code.region i2 ops2 false))) (Exit.inBlock b0 (bodyPost P fn R)) (n+1)) (Exit.inBlock b0 (bodyPost P fn R)))) (Exit.then (Code.roundsIn (Wd none) (m+1) P (((Code.region i1 ops1 false).seq (Code.cond (Operand.tmp 8) Code.skip (Code.exit b0))).seq ((Code.block i3b ((Code.region i3 ops3 false).seq (Code.cond (Operand.tmp 18) Code.ret Code.skip))).seq (Code.region i2 ops2 false))) (Exit.inBlock b0 (bodyPost P fn R)) (n+1)) (Exit.inBlock b0 (bodyPost P fn R)))))):=by
    rintro ⟨a,w,h⟩;exact hlo a w h
   refine all_okIn hS hen hlq _ (backR3 kk agg) 1 _ s3 g1 _ W1 (fun o ho=>List.all_eq_true.mp n3 o (List.mem_of_mem_drop (List.mem_of_mem_take ho))) k3 (fun j hj=>?_) p1 hI2 (fun a2 W2 hB2 hY2=>?_)
   ·rw [List.getElem?_take,if_pos (by simp [z3] at hj;omega),List.getElem?_drop];simp
   obtain ⟨g2,e4,e5,e6⟩:=hB2
   have hG2:=hR.on _ _ _ _ _ hG1 e4 e5 (p2 ▸ e6.inv)
   have hk:∀ t,t=0∨t=11→a2.tmps.getD t undef=(a1.put (some 11) (a1.eval (.tmp 0))).tmps.getD t undef:=fun t ht=>hY2 t (fun o ho=>by
    have:=List.all_eq_true.mp d3 o ho
    simp only [Bool.and_eq_true,bne_iff_ne] at this
    rcases ht with rfl | rfl
    ·exact this.1
    ·exact this.2)
   have hY1':a1.eval (.tmp 0)=.func (.yield l) #[] #[]:=hY1.trans hY
   have y11:a2.eval (.tmp 11)=.func (.yield l) #[] #[]:=by
    show a2.tmps.getD 11 undef=_
    rw [hk 11 (.inr rfl),put_get _ _ _ (by rw [hI1.size];omega),if_pos rfl];exact hY1'
   have y00:a2.tmps.getD 0 undef=.func (.yield l) #[] #[]:=by
    rw [hk 0 (.inl rfl),put_get _ _ _ (by rw [hI1.size];omega),if_neg (by omega)];exact hY1'
   have v12:=e6.env 12
   have v16:=e6.env 16
   rw [p3] at v12
   rw [p4] at v16
   have hG2':=hG2
   obtain ⟨fn',tm',as',bd',z4,z5⟩:=hR.round j g2 W2 (a2.eval (.tmp 12)) (a2.eval (.tmp 16)) row hrev hG2 v12 (RepV.any_pr (Pr:=Pi) (r:=.tmp 16) v16 (by
    cases agg with
    | true=>simp [rowV,V.down,C.down]
    | false =>
     obtain ⟨d,rfl⟩:∃ d,row=[d]:=List.length_eq_one_iff.mp (hrl.trans (hag rfl))
     rfl))
   rw [wpOpsIn_cons]
   simp only [wpOpIn,ho6]
   rw [if_pos (hw o6 a2 u2)]
   refine ⟨fun _ _=>trivial,?_⟩
   have hrun6:(o6.semAt (Wd none).round a2.eval).run P W2=.ok (.round l fn' tm' as' bd') W2:=by
    show (execOp a2.eval o6).run P W2=_
    have hca:c6.args.map a2.eval = #[a2.eval (.tmp 12),a2.eval (.tmp 16)]:=by
     have:c6.args = #[.tmp 12,.tmp 16]:=by apply Array.ext';simpa using hargs
     rw [this];simp
    simp only [execOp,hop6,resolve,hc6,y11,hca,Deferred.ofValue,Sem.run_bind,Sem.run_pure,Result.andThen,invoke,callFunc]
    simpa using z4
   rw [hrun6]
   show ((Wd none).depth.isSome=true→1≤m+1)∧RoundIn (Wd none) m P l fn' tm' as' bd' W2 _
   refine ⟨(fun h=>by cases h),RoundIn.mono z5 ?_⟩
   rintro e W3 ⟨rfl,g3,hG3,e7⟩
   show wpOpsIn (Wd none) (m+1) P ops3 _ [7] (a2.put o6.dst (.bool true)) W3
   rw [u1,wpOpsIn_cons]
   simp only [wpOpIn,ho7]
   rw [if_pos (hw o7 _ v2)]
   refine ⟨fun _ _=>trivial,?_⟩
   have h17:(a2.put (some 17) (.bool true)).eval (.tmp 17)=.bool true:=by
    show (a2.put (some 17) (.bool true)).tmps.getD 17 undef=_
    rw [put_get _ _ _ (by rw [e6.size];omega),if_pos rfl]
   have hrun7:(o7.semAt (Wd none).round (a2.put (some 17) (.bool true)).eval).run P W3=.ok (.value (.bool false)) W3:=by
    show (execOp (a2.put (some 17) (.bool true)).eval o7).run P W3=_
    simp only [execOp,hop7,h17]
    rfl
   rw [hrun7]
   rw [Oper.uponIn_value,v1]
   obtain ⟨A4,hA4⟩:∃ A4:Act,A4=(a2.put (some 17) (.bool true)).put (some 18) (.bool false):=⟨_,rfl⟩
   rw [← hA4]
   have hsz4:A4.tmps.size=19:=by rw [hA4,put_size,put_size];exact e6.size
   have h18:A4.eval (.tmp 18)=.bool false:=by
    show A4.tmps.getD 18 undef=_
    rw [hA4,put_get _ _ _ (by rw [put_size,e6.size];omega),if_pos rfl]
   have hko:∀ t,t≠17→t≠18→A4.tmps.getD t undef=a2.tmps.getD t undef:=fun t h7 h8=>by
    rw [hA4,put_otherB _ _ _ _ (fun h=>h8 (by cases h;rfl)),put_otherB _ _ _ _ (fun h=>h7 (by cases h;rfl))]
   have hI4:InvA 19 [] g3 W3 Pi ⟨itE rows ((rows.length - 1 - j:Nat):Int),τ (j+1)⟩ A4:=by
    refine ⟨hR.inv _ _ _ hG3,fun t=>?_,hsz4,by rw [hA4,put_defers,put_defers];exact e6.defers⟩
    have h5:=e6.sub p5
    have ht:=h5.env t
    by_cases t0:t=0
    ·subst t0;trivial
    by_cases t1:t=1
    ·subst t1
     rw [hko 1 (by omega) (by omega)]
     exact RepB.ext (x:=.rop [.sl rows] 0) e7 ht
    by_cases t3:t=3
    ·subst t3
     rw [hko 3 (by omega) (by omega)]
     exact RepB.ext (x:=.d (.int .i64 ((rows.length - 1 - j:Nat):Int))) e7 ht
    ·show RepV g3 W3 Pi (.tmp t) ((itE rows ((rows.length - 1 - j:Nat):Int)).get t) _
     rw [itE_other t0 t1 t3];trivial
   show (Code.cond (Operand.tmp 18) Code.ret Code.skip).wpIn (Wd none) (m+1) P _ A4 W3
   refine wpIn_cond_false h18 (wpIn_skip ?_)
   obtain ⟨s5,r1,r2,r3⟩:=r2_run (F:=F) (bd:=⟨0,0⟩) rows ((rows.length - 1 - j:Nat):Int) (τ (j+1))
   refine region_okIn hS hen ?_ n2 d2 k2 r1 hI4 fun a5 W5 hB5 hY5=>?_
   ·rintro ⟨a,w,h⟩;exact hlo a w h
   obtain ⟨g5,e8,e9,e10⟩:=hB5
   refine ih (j+1) a5 W5 (by omega) ⟨g5,hR.on _ _ _ _ _ hG3 e8 e9 (r2 ▸ e10.inv),?_,?_⟩
   ·have:=e10.sub r3
    rw [r2,wrap_small (by omega) (by omega)] at this
    have hi2:(rows.length:Int) - 1 - ((j+1:Nat):Int)=((rows.length - 1 - j:Nat):Int) - 1:=by omega
    rw [hi2]
    exact this
   ·rw [hY5,hko 0 (by omega) (by omega)];exact y00
 obtain ⟨s',q1,q2,q4⟩:=r0_run (F:=F) (bd:=⟨0,0⟩) rows (τ 0)
 refine wpIn_seq (region_okIn hS hen ?_ n0 d0 k0 q1 hA0 fun a1 W1 hB hY=>?_)
 ·rintro ⟨a,w,h⟩;exact hlo a w h
 obtain ⟨g1,e1,e2,e3⟩:=hB
 refine wpIn_block (wpIn_loop_rounds (rows.length+1) (rounds rows.length 0 a1 W1 (by omega) ⟨g1,hR.on _ _ _ _ _ h0 e1 e2 (q2 ▸ e3.inv),?_,hY.trans y0⟩))
 have:=e3.sub q4
 rw [q2,wrap_small (by omega) (by omega)] at this
 have hi2:(rows.length:Int) - 1 - ((0:Nat):Int)=(rows.length:Int) - 1:=by omega
 rw [hi2]
 exact this
end
section
variable {P:Program} {N:Nat} {ds:List Deferred} {g g':G} {w w':World} {Pr:Nat→Prop} {s s':St} {a a':Act} {F:Oracle} {bd:Bd}
def Marks (g:G) (Pr:Nat→Prop) (w:World) (ds:List Deferred):Prop :=
 (ds.map (·.target)).Nodup∧∀ d ∈ ds,∃ b,d={ target:=.collected b,args:=#[] }∧Pr b∧g.kind b=.free∧w.heap[b]?=some (.deferred (some []))
theorem Marks.fr {ds:List Deferred} (h:Marks g Pr w ds) (hf:Fr Pr g w g' w'):Marks g' Pr w' ds :=
 ⟨h.1,fun d hd=>let ⟨b,h1,h2,h3,h4⟩:=h.2 d hd;⟨b,h1,h2,(hf b h2).2.1.trans h3,(hf b h2).1.trans h4⟩⟩
theorem Marks.nil:Marks g Pr w []:=⟨by simp,by simp⟩
def Rcd (r:Option Nat) (Pr:Nat→Prop) (w:World):Prop:=∀ l,r=some l→Pr l∧∃ c,w.heap[l]?=some (.loop c)
theorem Rcd.fr {r:Option Nat} (h:Rcd r Pr w) (hf:Fr Pr g w g' w'):Rcd r Pr w':=fun l hl=>let ⟨h1,c,h2⟩:=h l hl;⟨h1,c,(hf l h1).1.trans h2⟩
theorem Rcd.none:Rcd none Pr w:=fun l h=>by cases h
def BehindX (N:Nat) (r:Option Nat) (ds:List Deferred) (g:G) (w:World) (Pr:Nat→Prop) (s':St) (a':Act) (w':World):Prop :=
 ∃ (Pr':Nat→Prop) (ds':List Deferred) (g':G),(∀ b,Pr b→Pr' b)∧Marks g' Pr' w' ds'∧(r≠none→ds'=ds∧Pr'=Pr)∧(∀ d ∈ ds',d ∈ ds∨∃ b,d.target=.collected b∧w.heap.size≤b)∧Ext g w g' w'∧Fr Pr g w g' w'∧InvA N ds' g' w' Pr' s' a'
theorem BehindX.of {r:Option Nat} (hm:Marks g Pr w ds) (h:Behind N ds g w Pr s' a' w'):BehindX N r ds g w Pr s' a' w':=by
 obtain ⟨g',x1,x2,x3⟩:=h
 exact ⟨Pr,ds,g',fun _ h=>h,hm.fr x2,fun _=>⟨rfl,rfl⟩,fun d hd=>.inl hd,x1,x2,x3⟩
def After (N:Nat) (r:Option Nat) (ds:List Deferred) (g:G) (w:World) (Pr:Nat→Prop) (e:AExit) (s':St):Exit→Act→World→Prop:=fun e' a' w'=>e'=e.out∧BehindX N r ds g w Pr s' a' w'
theorem rowV_down {agg:Bool} {row:List D}:(rowV agg row).down=rowV agg row:=by
 cases agg with
 | true=>simp [rowV,V.down,C.down]
 | false=>unfold rowV;simp only [cond_false];split<;>rfl
theorem downE_get:∀ (e:Env) (t:Nat),(downE e).get t=(e.get t).down
 | [],t=>rfl
 | (x,v) :: e,t=>by
  simp only [downE]
  rw [env_get_cons,env_get_cons]
  split
  ·rfl
  ·exact downE_get e t
theorem backR_steps {E:ACode→St→Option (AExit × St)} {ti tx:Nat} {agg:Bool} {asg body:ACode} {env:Env}:∀ (rows:List (List D)) (σ σ':List Ob),backR E ti tx agg asg body env rows σ=some σ' →
  ∃ τ:Nat→List Ob,τ 0=σ∧τ rows.length=σ'∧∀ j row,rows[j]?=some row→∃ s1 s2,E asg ⟨(tx,rowV agg row) :: (ti,.c (.b (.d (.int .i64 ((rows.length - 1 - j:Nat):Int))))) :: env,τ j⟩=some (.normal,s1)∧E body s1=some (.normal,s2)∧s2.σ=τ (j+1)
 | [],σ,σ',h=>by
  simp only [backR,Option.some.injEq] at h
  subst h
  exact ⟨fun _=>σ,rfl,rfl,fun j row hj=>by simp at hj⟩
 | row :: rest,σ,σ',h=>by
  simp only [backR] at h
  split at h
  case h_2=>cases h
  rename_i s1 h1
  split at h
  case h_2=>cases h
  rename_i s2 h2
  obtain ⟨τ,t0,t1,t2⟩:=backR_steps rest s2.σ σ' h
  refine ⟨fun j=>match j with | 0=>σ | j+1=>τ j,rfl,t1,fun j row' hj=>?_⟩
  cases j with
  | zero =>
   simp only [List.getElem?_cons_zero,Option.some.injEq] at hj
   subst hj
   refine ⟨s1,s2,?_,h2,t0.symm⟩
   have:(row :: rest).length - 1 - 0=rest.length:=by simp
   rw [this];exact h1
  | succ j =>
   obtain ⟨q1,q2,k1,k2,k3⟩:=t2 j row' (by simpa using hj)
   refine ⟨q1,q2,?_,k2,k3⟩
   have:(row :: rest).length - 1 - (j+1)=rest.length - 1 - j:=by simp;omega
   rw [this];exact k1
abbrev RunsR (P:Program) (N:Nat) (F:Oracle) (bd:Bd) (n:Nat) (x:ACode) (c:Code):Prop :=
 ∀ (s:St) (e:AExit) (s':St) (g:G) (a:Act) (w:World) (ds:List Deferred) (Pr:Nat→Prop) (r:Option Nat) (k:Nat),ev F bd n x s=some (e,s')→InvA N ds g w Pr s a→Marks g Pr w ds→Rcd r Pr w→c.wpIn (Wd r) k P (After N r ds g w Pr e s') a w
theorem rng_calls (hS:Sound P F) (hen:∀ f args σ lo tr r,F f args σ lo tr=some r→entered P (fnOf f)=true) {n m:Nat} {asg body:ACode} {cA cB:Code} (ihA:RunsR P N F bd n asg cA) (ihB:RunsR P N F bd n body cB)
  {f kk ti tx:Nat} {agg:Bool} (hb:isBack P f kk agg=true) (htx:tx≠ti) (hti:ti < N) (htxN:tx < N) {rows:List (List D)} (hrows:∀ r ∈ rows,r.length=kk) (hag:agg=false→kk=1) (hlen:rows.length≤140737488355328)
  {g1:G} {W1:World} {l D0:Nat} {fn:FuncId} {env:Env} {tmps:Array Value} {rec:LoopState→Loop} (hrec:rec=fun st=>{ state:=st,pending:=none,fn,tmps:=tmps,params:=#[ti,tx],assign:=cA,body:=cB,defers:=D0 }) {τ:Nat→List Ob}
  (hI:Inv g1 W1 (Mine g1 W1) (τ 0)) (hE:∀ t,RepV g1 W1 (Mine g1 W1) (.tmp t) ((downE env).get t) (tmps.getD t undef)) (hsz:tmps.size=N) (hl:W1.heap[l]?=some (.loop (rec .ready))) (hkl:g1.kind l=.free) (hpl:Mine g1 W1 l)
  (hst:∀ j row,rows.reverse[j]?=some row→∃ s1 s2,ev F bd n asg ⟨(tx,rowV agg row) :: (ti,.c (.b (.d (.int .i64 ((rows.length - 1 - j:Nat):Int))))) :: downE env,τ j⟩=some (.normal,s1)∧ev F bd n body s1=some (.normal,s2)∧s2.σ=τ (j+1))
  {pv:Value} (hpv:RepB g1 W1 (.rop [.sl rows] 0) pv) :
  CallsIn (Wd none) (m+1) P f #[.func (.yield l) #[] #[],pv] W1 fun e W'=>(∃ v,e=.returned v)∧∃ g',Ext g1 W1 g' W'∧Fr (fun b=>Mine g1 W1 b∧b≠l) g1 W1 g' W'∧Inv g' W' (Mine g1 W1) (τ rows.length)∧g'.kind l=.free∧W'.heap[l]?=some (.loop (rec .ready)):=by
 refine back_calls (Good:=fun j g W=>Ext g1 W1 g W∧Fr (fun b=>Mine g1 W1 b∧b≠l) g1 W1 g W∧Inv g W (Mine g1 W1) (τ j)∧g.kind l=.free∧W.heap[l]?=some (.loop (rec .ready))) hS hen hb hrows hag hlen (τ:=τ) (Pi:=Mine g1 W1) ?_ ⟨.refl _ _,.refl _ _ _,hI,hkl,hl⟩
 refine ⟨fun j g W h=>h.2.2.1,fun j g W g' W' h e f i=>⟨h.1.trans e,h.2.1.trans (fun b hb=>f b hb.1),i,(f l hpl).2.1.trans h.2.2.2.1,(f l hpl).1.trans h.2.2.2.2⟩,fun j g W h=>RepB.ext h.1 hpv,?_⟩
 rintro j g W iv ev' row hrow ⟨x1,x2,x3,x4,x5⟩ hiv hev
 obtain ⟨s1,s2,y1,y2,y3⟩:=hst j row hrow
 have hy:=run_yield (P:=P) (args:=#[iv,ev']) x5 (by rw [hrec];rfl)
 rw [hrec] at hy
 refine ⟨fn,_,cA,cB,hy,roundIn_of_wpIn trivial ?_⟩
 clear hy
 rw [wd_in]
 obtain ⟨A0,hA0⟩:∃ A0:Act,A0=(({ tmps:=tmps,defers:=[] }:Act).put (some ti) iv).put (some tx) ev':=⟨_,rfl⟩
 have hA1:({ tmps:=((#[ti,tx]:Array Tmp).zip #[iv,ev']).foldl (fun t (p,v)=>t.setIfInBounds p v) tmps,defers:=[] }:Act)=A0:=by rw [hA0];simp [Act.put]
 show cA.wpIn (Wd (some l)) m P _ { tmps:=((#[ti,tx]:Array Tmp).zip #[iv,ev']).foldl (fun t (p,v)=>t.setIfInBounds p v) tmps,defers:=[] } W
 rw [hA1]
 have hIA:InvA N [] g W (Mine g1 W1) ⟨(tx,rowV agg row) :: (ti,.c (.b (.d (.int .i64 ((rows.length - 1 - j:Nat):Int))))) :: downE env,τ j⟩ A0:=by
  rw [hA0]
  refine ⟨x3,?_,by rw [put_size,put_size];exact hsz,by rw [put_defers,put_defers]⟩
  refine set_env (d:=some tx) (v:=rowV agg row) (u:=ev') (s:=⟨(ti,.c (.b (.d (.int .i64 ((rows.length - 1 - j:Nat):Int))))) :: downE env,τ j⟩) ?_ (fun x hx=>?_)
  ·refine set_env (d:=some ti) (v:=.c (.b (.d (.int .i64 ((rows.length - 1 - j:Nat):Int))))) (u:=iv) (s:=⟨downE env,τ j⟩) (fun t=>?_) (fun x hx=>?_)
   ·have:=hE t
    show RepV g W _ (.tmp t) ((downE env).get t) (tmps.getD t undef)
    rw [downE_get] at this ⊢
    exact RepV.any_pr (Pr:=Mine g1 W1) (r:=.tmp t) (RepV.ext_down x1 (r:=.tmp t) (by rw [down_down];exact this) (down_down _)) (down_down _)
   ·obtain rfl:ti=x:=Option.some.inj hx
    exact ⟨by show ti < tmps.size;omega,RepV.any_pr hiv rfl⟩
  ·obtain rfl:tx=x:=Option.some.inj hx
   exact ⟨by rw [put_size];show tx < tmps.size;omega,RepV.any_pr hev rowV_down⟩
 refine wpIn_mono (ihA _ _ _ g A0 W [] (Mine g1 W1) (some l) m y1 hIA Marks.nil (fun l' hl'=>by cases hl';exact ⟨hpl,_,x5⟩)) ?_
 rintro e' a' w' ⟨rfl,Pr1,ds1,g2,z1,z2,z3,z4,z5,z6,z7⟩
 obtain ⟨rfl,rfl⟩:=z3 (by simp)
 have hl2:w'.heap[l]?=some (.loop (rec .ready)):=(z6 l hpl).1.trans x5
 have hk2:g2.kind l=.free:=(z6 l hpl).2.1.trans x4
 have hlt2:l < w'.heap.size:=(Array.getElem?_eq_some_iff.1 hl2).1
 have e3:Ext g2 w' g2 (w'.putObj l (.loop { rec .ready with state:=.busy })):=put_ext hk2 hl2 rfl
 have hl3:(w'.putObj l (.loop { rec .ready with state:=.busy })).heap[l]?=some (.loop { rec .ready with state:=.busy }):=World.putObj_heap_same hlt2
 have hI3:InvA N [] g2 (w'.putObj l (.loop { rec .ready with state:=.busy })) (Mine g1 W1) s1 a':=⟨put_inv z7.inv hk2 hl2 rfl,z7.env.ext e3 (fun _ _=>Keep.refl _ _),z7.size,z7.defers⟩
 refine ⟨_,run_beginRound hl2 (by rw [hrec]),?_⟩
 refine wpIn_mono (ihB _ _ _ g2 a' _ [] (Mine g1 W1) (some l) m y2 hI3 Marks.nil (fun l' hl'=>by cases hl';exact ⟨hpl,_,hl3⟩)) ?_
 rintro e' a3 w3 ⟨rfl,Pr1,ds1,g3,u1,u2,u3,u4,u5,u6,u7⟩
 obtain ⟨rfl,rfl⟩:=u3 (by simp)
 have hl4:w3.heap[l]?=some (.loop { rec .ready with state:=.busy }):=(u6 l hpl).1.trans hl3
 have hk4:g3.kind l=.free:=(u6 l hpl).2.1.trans hk2
 have hlt4:l < w3.heap.size:=(Array.getElem?_eq_some_iff.1 hl4).1
 have e5:Ext g3 w3 g3 (w3.putObj l (.loop (rec .ready))):=put_ext hk4 hl4 rfl
 have hfin:(Instr.endRound l none).run P w3=.ok (.bool true) (w3.putObj l (.loop (rec .ready))):=by
  have:=run_endRound (P:=P) none hl4
  rw [hrec] at this ⊢
  exact this
 have hx:Ext g W g3 (w3.putObj l (.loop (rec .ready))):=((z5.trans e3).trans u5).trans e5
 refine ⟨_,_,hfin,rfl,g3,?_,?_⟩
 ·refine ⟨x1.trans hx,x2.trans (fun b hb=>?_),?_,hk4,?_⟩
  ·have c1:=z6 b hb.1
   have c2:=u6 b hb.1
   refine ⟨?_,c2.2.1.trans c1.2.1,c2.2.2.trans c1.2.2⟩
   exact (World.putObj_heap_other hb.2).trans (c2.1.trans ((World.putObj_heap_other hb.2).trans c1.1))
  ·rw [← y3]
   exact put_inv u7.inv hk4 hl4 rfl
  ·exact World.putObj_heap_same hlt4
 ·exact hx
theorem rng_mid (hS:Sound P F) (hen:∀ f args σ lo tr r,F f args σ lo tr=some r→entered P (fnOf f)=true) {n m k:Nat} {r:Option Nat} {asg body:ACode} {cA cB:Code} (ihA:RunsR P N F bd n asg cA) (ihB:RunsR P N F bd n body cB)
  {f kk ti tx:Nat} {agg:Bool} (hb:isBack P f kk agg=true) (htx:tx≠ti) (hti:ti < N) (htxN:tx < N) {q:Nat} {rows:List (List D)} (hq:getCells s.σ q=some [.b (.d (.sl rows))]) (hrows:∀ r ∈ rows,r.length=kk) (hag:agg=false→kk=1) (hlen:rows.length≤140737488355328)
  {σ':List Ob} (hrun:backR (ev F bd n) ti tx agg asg body (downE s.env) rows.reverse (s.σ.set q .dead)=some σ')
  {g1:G} {W1:World} {Pr1:Nat→Prop} (hA:InvA N ds g1 W1 Pr1 s a) {l D0:Nat} {fn:FuncId} {rec:LoopState→Loop} (hrec:rec=fun st=>{ state:=st,pending:=none,fn,tmps:=a.tmps,params:=#[ti,tx],assign:=cA,body:=cB,defers:=D0 })
  (hl:W1.heap[l]?=some (.loop (rec .ready))) (hkl:g1.kind l=.free) (hpl:Pr1 l) {pv:Value} (hpv:RepB g1 W1 (.ptr q 0) pv) {a':Act} {Q:Exit→Act→World→Prop}
  (hfin:∀ g' W',Ext g1 W1 g' W'→Fr (fun b=>Pr1 b∧b≠l) g1 W1 g' W'→Inv g' W' Pr1 σ'→EnvOk g' W' Pr1 s.env a→Q .normal a' W') :
  CallsIn (Wd r) m P f #[.func (.yield l) #[] #[],pv] W1 (rangePost (Wd r) k P l Q a'):=by
 obtain ⟨τ,t0,t1,t2⟩:=backR_steps _ _ _ hrun
 rw [List.length_reverse] at t1
 rw [List.length_reverse] at t2
 have hI2:Inv (g1.frz fun l=>[q].contains l) W1 Pr1 (s.σ.set q .dead):=frz_inv hA.inv (L:=[q])
 have hF2:Fr Pr1 g1 W1 (g1.frz fun l=>[q].contains l) W1:=Fr.frz _ (fun b hb=>(hA.inv.pr b hb).2.1)
 have hE2:Ext g1 W1 (g1.frz fun l=>[q].contains l) W1:=Ext.frz _
 have hpv2:RepB (g1.frz fun l=>[q].contains l) W1 (.rop [.sl rows] 0) pv:=by
  obtain ⟨b,o,h1,h2⟩:=hpv
  obtain ⟨b',o',arr,ty,h3,h4,h5,h6,h7⟩:=hA.inv.ob _ _ (getCells_eq hq)
  rw [h1] at h3
  cases h3
  obtain ⟨u,u1,u2,u3⟩:=h7 0 _ rfl
  refine ⟨b,o,fun _=>u,h2,fun j d hj=>?_⟩
  cases j with
  | succ j=>simp at hj
  | zero =>
   simp only [List.getElem?_cons_zero,Option.some.injEq] at hj
   subst hj
   refine ⟨⟨rfl,?_,.inl ?_⟩,RepD.mono (fun _ _ h=>frz_st h) u3⟩
   ·rw [cell_of h5];exact u1
   ·show (g1.frz fun l=>[q].contains l).kind b=_
    rw [frz_kind h4,if_pos (by simp)]
 generalize hg2:(g1.frz fun l=>[q].contains l)=g2 at *
 have hmine:∀ b,Pr1 b→Mine g2 W1 b:=fun b hb=>hI2.pr b hb
 have hk2:g2.kind l=.free:=(hF2 l hpl).2.1.trans hkl
 have:=rng_calls hS hen (m:=0) ihA ihB hb htx hti htxN hrows hag hlen (g1:=g2) (W1:=W1) (l:=l) (env:=s.env) hrec (τ:=τ) (t0 ▸ hI2.mine)
  (fun t=>by rw [downE_get];exact RepV.any_pr (Pr:=Pr1) (r:=.tmp t) (RepV.down (RepV.ext hE2 (fun i=>by rw [← hg2];exact Keep.frz _ _) (hA.env t))) (down_down _)) hA.size hl hk2 (hmine l hpl) t2 hpv2
 refine CallsIn.mono (wd_calls.2 (wd_calls.1 this)) ?_
 rintro e W' ⟨⟨v,rfl⟩,g',x1,x2,x3,x4,x5⟩
 have hend:(Instr.endLoop l).run P W'=.ok none (W'.putObj l (.loop { rec .ready with state:=.exhausted })):=by
  have:=run_endLoop (P:=P) x5 (by rw [hrec];simp)
  rw [hrec] at this ⊢
  exact this
 have e5:Ext g' W' g' (W'.putObj l (.loop { rec .ready with state:=.exhausted })):=put_ext x4 x5 rfl
 have hEx:Ext g1 W1 g' (W'.putObj l (.loop { rec .ready with state:=.exhausted })):=(hE2.trans x1).trans e5
 have hIx:Inv g' (W'.putObj l (.loop { rec .ready with state:=.exhausted })) (Mine g2 W1) σ':=t1 ▸ put_inv x3 x4 x5 rfl
 refine ⟨none,_,hend,hfin g' _ hEx (fun b hb=>?_) (hIx.pr' (fun b _ hb=>hmine b hb) (fun b hb=>hIx.pr b (hmine b hb))) ?_⟩
 ·have c1:=hF2 b hb.1
  have c2:=x2 b ⟨hmine b hb.1,hb.2⟩
  exact ⟨(World.putObj_heap_other hb.2).trans (c2.1.trans c1.1),c2.2.1.trans c1.2.1,c2.2.2.trans c1.2.2⟩
 ·refine hA.env.ext hEx (fun t i b m' h1 h2=>?_)
  have hkb:g2.kind b=g1.kind b:=by rw [← hg2];exact frz_kind' (fun l=>by rw [h2];simp)
  have hob:g2.own b=g1.own b:=by rw [← hg2];rfl
  have hm:Mine g2 W1 b:=⟨hA.inv.lt b (by rw [h2];simp),fun l=>by rw [hkb,h2];simp,fun l i=>by rw [hob,h1];simp⟩
  have hne:b≠l:=by rintro rfl;rw [hkl] at h2;cases h2
  have c2:=x2 b ⟨hm,hne⟩
  exact ⟨by rw [c2.2.2,hob];exact h1,by rw [c2.2.1,hkb];exact h2⟩
theorem rng_ok (hS:Sound P F) (hen:∀ f args σ lo tr r,F f args σ lo tr=some r→entered P (fnOf f)=true) {n k:Nat} {r:Option Nat} {asg body:ACode} {cA cB:Code} (ihA:RunsR P N F bd n asg cA) (ihB:RunsR P N F bd n body cB)
  {f f' kk ti tx:Nat} {agg:Bool} (hb:isBack P (fnOf f) kk agg=true) (hent:entered P (fnOf f)=true) (htx:tx≠ti) (hti:ti < N) (htxN:tx < N) {gop:Operand} {x:Opd} (hg:chkOpd gop x=true)
  {q:Nat} {rows:List (List D)} (hrd:s.rd x=.c (.fn f' [] [.ptr q 0])) (hff:fnOf f'=fnOf f) (hq:getCells s.σ q=some [.b (.d (.sl rows))]) (hrows:∀ r ∈ rows,r.length=kk) (hag:agg=false→kk=1) (hlen:rows.length≤140737488355328)
  {σ':List Ob} (hrun:backR (ev F bd n) ti tx agg asg body (downE s.env) rows.reverse (s.σ.set q .dead)=some σ')
  (hA:InvA N ds g w Pr s a) (hM:Marks g Pr w ds) (hR:Rcd r Pr w) :
  (Code.rangeFunc gop #[ti,tx] cA cB).wpIn (Wd r) k P (After N r ds g w Pr .normal ⟨s.env,σ'⟩) a w:=by
 have h0:=opd_rd hA.env hg (.tmp 0)
 rw [hrd] at h0
 obtain ⟨us,ws,q1,q2,q3,q4,q5⟩:=h0
 obtain ⟨pv,w1,w2,w3⟩:=q5 0 (.ptr q 0) rfl
 have hus:us = #[]:=Array.size_eq_zero_iff.mp q2
 have hws:ws = #[pv]:=by
  refine Array.ext (by simpa using q3) (fun i h1 h2=>?_)
  have:i=0:=by simp at h2;exact h2
  subst this
  rw [Array.getElem?_eq_getElem h1] at w1
  simpa using w1
 subst hus
 subst hws
 rw [hff] at q1
 refine wpIn_rangeFunc ?_
 intro fn _
 cases r with
 | none =>
  obtain ⟨rec,hrec⟩:∃ rec:LoopState→Loop,rec=fun st=>{ state:=st,pending:=none,fn,tmps:=a.tmps,params:=#[ti,tx],assign:=cA,body:=cB,defers:=w.heap.size }:=⟨_,rfl⟩
  have hA2:=lone hA (.deferred (some []))
  have hA3:=lone hA2 (.loop (rec .ready))
  have hE:=(lone_ext hA.inv (.deferred (some []))).trans (lone_ext hA2.inv (.loop (rec .ready)))
  have hFr:Fr Pr g w _ _:=(lone_fr hA.inv (.deferred (some []))).trans (fun b hb=>lone_fr hA2.inv (.loop (rec .ready)) b (.inl hb))
  have hkl:((g.noOwn w.heap.size).noOwn (w.alloc (.deferred (some []))).heap.size).kind (w.alloc (.deferred (some []))).heap.size=.free:=by
   have:=lone_kind (s:=s) hA2.inv
   exact this
  have hkD:((g.noOwn w.heap.size).noOwn (w.alloc (.deferred (some []))).heap.size).kind w.heap.size=.free:=by
   have:=lone_kind (s:=s) hA.inv
   exact this
  have hsz:(w.alloc (.deferred (some []))).heap.size=w.heap.size+1:=World.size_alloc _ _
  have hD:((w.alloc (.deferred (some []))).alloc (.loop (rec .ready))).heap[w.heap.size]?=some (.deferred (some [])):=(alloc_get _ (by omega)).trans (World.alloc_heap_new w _)
  have hent':(Instr.enterLoop fn a.tmps #[ti,tx] cA cB none).run P w=.ok ((w.alloc (.deferred (some []))).heap.size,[{ target:=.collected w.heap.size,args:=#[] }]) ((w.alloc (.deferred (some []))).alloc (.loop (rec .ready))):=by
   rw [hsz,hrec];exact run_enterLoop_outer _ _ _ _ _
  generalize hl:(w.alloc (.deferred (some []))).heap.size=l at *
  generalize hW1:(w.alloc (.deferred (some []))).alloc (.loop (rec .ready))=W1 at *
  have hlr:W1.heap[l]?=some (.loop (rec .ready)):=by rw [← hW1,← hl];exact World.alloc_heap_new _ _
  generalize hg1:(g.noOwn w.heap.size).noOwn l=g1 at *
  refine ⟨l,[{ target:=.collected w.heap.size,args:=#[] }],W1,{ target:=.fn (.func (fnOf f)) #[pv],args:=#[.func (.yield l) #[] #[]] },W1,fnOf f,#[.func (.yield l) #[] #[],pv],W1,hent',?_,fun _ _=>trivial,?_,(fun h=>by cases h),?_⟩
  ·simp only [resolve,q1,Deferred.ofValue]
   simp [Act.eval,Sem.run_pure]
  ·simp only [invoke]
   rw [run_callFunc hent];rfl
  ·refine rng_mid hS hen ihA ihB hb htx hti htxN hq hrows hag hlen hrun hA3 hrec hlr hkl (.inr rfl) (RepB.ext hE w3) (fun g' W' e f1 i en=>⟨rfl,?_⟩)
   have hlt:∀ b,Pr b→b≠l:=fun b hb=>by have:=(hA.inv.pr b hb).1;omega
   have hF:Fr Pr g w g' W':=hFr.trans (fun b hb=>f1 b ⟨.inl (.inl hb),hlt b hb⟩)
   have hM':=hM.fr hF
   have hDx:=f1 w.heap.size ⟨.inl (.inr rfl),by omega⟩
   refine ⟨fun b=>Pr b∨b=w.heap.size,{ target:=.collected w.heap.size,args:=#[] } :: ds,g',fun b hb=>.inl hb,⟨?_,?_⟩,(fun h=>absurd rfl h),?_,hE.trans e,hF,?_⟩
   ·simp only [List.map_cons,List.nodup_cons,List.mem_map,not_exists,not_and]
    refine ⟨fun d hd ht=>?_,hM.1⟩
    obtain ⟨b,rfl,hb,_⟩:=hM.2 d hd
    simp only [Target.collected.injEq] at ht
    have:=(hA.inv.pr b hb).1
    omega
   ·intro d hd
    rcases List.mem_cons.mp hd with rfl | hd
    ·exact ⟨w.heap.size,rfl,.inr rfl,hDx.2.1.trans hkD,hDx.1.trans hD⟩
    ·obtain ⟨b,h1,h2,h3,h4⟩:=hM'.2 d hd
     exact ⟨b,h1,.inl h2,h3,h4⟩
   ·intro d hd
    rcases List.mem_cons.mp hd with rfl | hd
    ·exact .inr ⟨w.heap.size,rfl,Nat.le_refl _⟩
    ·exact .inl hd
   ·exact ⟨i.pr' (fun b _ hb=>.inl hb) (fun b hb=>i.pr b (.inl hb)),EnvOk.pw (fun b _ hb=>.inl hb) en,hA.size,by show _ ++ a.defers=_;rw [hA.defers];rfl⟩
 | some l0 =>
  obtain ⟨hp0,r0,hr0⟩:=hR l0 rfl
  obtain ⟨rec,hrec⟩:∃ rec:LoopState→Loop,rec=fun st=>{ state:=st,pending:=none,fn,tmps:=a.tmps,params:=#[ti,tx],assign:=cA,body:=cB,defers:=r0.defers }:=⟨_,rfl⟩
  have hA3:=lone hA (.loop (rec .ready))
  have hE:=lone_ext hA.inv (.loop (rec .ready))
  have hFr:=lone_fr hA.inv (.loop (rec .ready))
  have hkl:(g.noOwn w.heap.size).kind w.heap.size=.free:=by
   have:=lone_kind (s:=s) hA.inv
   exact this
  have hlr:(w.alloc (.loop (rec .ready))).heap[w.heap.size]?=some (.loop (rec .ready)):=World.alloc_heap_new _ _
  have hent':(Instr.enterLoop fn a.tmps #[ti,tx] cA cB (some l0)).run P w=.ok (w.heap.size,[]) (w.alloc (.loop (rec .ready))):=by
   rw [hrec];exact run_enterLoop_inner hr0 _ _ _ _ _
  generalize hW1:w.alloc (.loop (rec .ready))=W1 at *
  refine ⟨w.heap.size,[],W1,{ target:=.fn (.func (fnOf f)) #[pv],args:=#[.func (.yield w.heap.size) #[] #[]] },W1,fnOf f,#[.func (.yield w.heap.size) #[] #[],pv],W1,hent',?_,fun _ _=>trivial,?_,(fun h=>by cases h),?_⟩
  ·simp only [resolve,q1,Deferred.ofValue]
   simp [Act.eval,Sem.run_pure]
  ·simp only [invoke]
   rw [run_callFunc hent];rfl
  ·refine rng_mid hS hen ihA ihB hb htx hti htxN hq hrows hag hlen hrun hA3 hrec hlr hkl (.inr rfl) (RepB.ext hE w3) (fun g' W' e f1 i en=>⟨rfl,?_⟩)
   have hlt:∀ b,Pr b→b≠w.heap.size:=fun b hb=>by have:=(hA.inv.pr b hb).1;omega
   have hF:Fr Pr g w g' W':=hFr.trans (fun b hb=>f1 b ⟨.inl hb,hlt b hb⟩)
   exact ⟨Pr,ds,g',fun b hb=>hb,hM.fr hF,fun _=>⟨rfl,rfl⟩,fun d hd=>.inl hd,hE.trans e,hF,⟨i.pr' (fun b _ hb=>.inl hb) (fun b hb=>i.pr b (.inl hb)),EnvOk.pw (fun b _ hb=>.inl hb) en,hA.size,by show [] ++ a.defers=_;rw [hA.defers];rfl⟩⟩
end
end Go.Proofs.YteeofkbhopioiaaGreatDoor.Am
