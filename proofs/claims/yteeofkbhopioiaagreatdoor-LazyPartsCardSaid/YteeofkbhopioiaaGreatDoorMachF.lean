/- Lemmas that the rows' proofs rest on; each states its own conditions. -/
import Derived.Test.YteeofkbhopioiaaGreatDoorMachE
import Derived.Laws.Strings
import Derived.WalkKit
import Derived.ProofKit
import Derived.OpenShut
import Derived.ShutString
import Derived.ChangeOld
import Derived.Below
import Derived.Carry
import Derived.SizedLaws
set_option linter.unusedSimpArgs false
set_option linter.unusedVariables false
set_option linter.unusedSectionVars false
namespace Go.Proofs.YteeofkbhopioiaaGreatDoor.Am
open Go Go.RowKit
def g0 (w:World):G:=⟨[],fun b=>if b < w.heap.size then .frozen else .free,fun _=>none⟩
theorem inv0 (w:World) (hg:GlobOk ((g0 w).st w)):Inv (g0 w) w (Old w) [] where
 len:=rfl
 ob l o h:=by simp at h
 lt b h:=by
  simp only [g0] at h
  split at h
  ·assumption
  ·exact absurd rfl h
 pr b h:=by
  refine ⟨h,fun l hl=>?_,fun l i hl=>(by cases hl)⟩
  simp only [g0] at hl
  split at hl<;>cases hl
 gl:=hg
theorem walk {P:Program} {F:Oracle} {f:Nat} {args:List V} {vs:Array Value} {w:World} {b:Bool} {σ:List Ob} (hg:GlobOk ((g0 w).st w)) (hS:Sound P F) (h:F f args [] 0 0=some (.c (.b (.d (.bool b))),σ)) (ha:Args (g0 w) w (Old w) args vs) :
  Calls P (fnOf f) vs w fun e w'=>e=.returned (.bool b)∧Below w.heap.size w w':=by
 refine (hS.1 f _ _ _ _ _ _ h (g0 w) w (Old w) vs 0 (inv0 w hg) ha).mono ?_
 rintro e w' ⟨u,g',rfl,x1,x2,x3,x4⟩
 have hu:u=.bool b:=by
  have h:RepD (g'.st w') (.bool b) u:=x4
  cases h;rfl
 subst hu
 exact ⟨rfl,x1.os,x1.tape,x1.output,x1.size,fun k hk=>(x2 k hk).1⟩
def Sub (F F':Oracle):Prop:=∀ f args σ lo tr r,F f args σ lo tr=some r→F' f args σ lo tr=some r
section
variable {F F':Oracle} {bd:Bd}
theorem step_sub (hF:Sub F F') {s:St} {op:AOp} {r:V × St} (h:stepOp F bd s op=some r):stepOp F' bd s op=some r:=by
 cases op with
 | call f args =>
  simp only [stepOp] at h ⊢
  split at h
  ·rename_i hf;rw [hF _ _ _ _ _ _ hf];exact h
  ·cases h
 | callp f args =>
  simp only [stepOp] at h ⊢
  split at h
  ·rename_i hf;rw [hF _ _ _ _ _ _ hf];exact h
  ·cases h
 | callb f args =>
  simp only [stepOp] at h ⊢
  split at h
  ·rename_i hc
   rw [if_pos hc]
   split at h
   ·rename_i hf;rw [hF _ _ _ _ _ _ hf];exact h
   ·cases h
  ·cases h
 | callv x args =>
  simp only [stepOp] at h ⊢
  split at h
  ·split at h
   ·rename_i hf;rw [hF _ _ _ _ _ _ hf];exact h
   ·cases h
  ·cases h
 | mov m x=>cases m<;>exact h
 | ld m n x=>cases m<;>cases n<;>exact h
 | _=>exact h
theorem ins_sub (hF:Sub F F') {s s':St} {i:AIns} (h:stepIns F bd s i=some s'):stepIns F' bd s i=some s':=by
 have go:∀ {s':St},(match stepOp F bd s i.op with | some (v,s')=>some (s'.set i.dst v) | none=>none)=some s'→(match stepOp F' bd s i.op with | some (v,s')=>some (s'.set i.dst v) | none=>none)=some s':=by
  intro s' h
  split at h
  ·rename_i hs;rw [step_sub hF hs];exact h
  ·cases h
 unfold stepIns at h ⊢
 split at h
 ·exact go h
 ·split at h
  ·rename_i t ht
   cases hb:t == _ with
   | true=>rw [hb] at h;exact go h
   | false=>rw [hb] at h;exact h
  ·exact h
  ·cases h
theorem all_sub (hF:Sub F F'):∀ {is:List AIns} {s s':St},stepAll F bd s is=some s'→stepAll F' bd s is=some s'
 | [],_,_,h=>h
 | i :: is,s,s',h=>by
  simp only [stepAll] at h ⊢
  split at h
  ·rename_i hs;rw [ins_sub hF hs];exact all_sub hF h
  ·cases h
theorem backR_sub {E E':ACode→St→Option (AExit × St)} (hE:∀ c s r,E c s=some r→E' c s=some r) {ti tx:Nat} {agg:Bool} {asg body:ACode} {env:Env}:∀ (rows:List (List D)) (σ σ':List Ob),backR E ti tx agg asg body env rows σ=some σ'→backR E' ti tx agg asg body env rows σ=some σ'
 | [],_,_,h=>h
 | row :: rest,σ,σ',h=>by
  simp only [backR] at h ⊢
  split at h
  case h_2=>cases h
  rename_i s1 h1
  split at h
  case h_2=>cases h
  rename_i s2 h2
  rw [hE _ _ _ h1]
  simp only
  rw [hE _ _ _ h2]
  exact backR_sub hE rest _ _ h
theorem ev_sub (hF:Sub F F'):∀ (n:Nat) (c:ACode) (s:St) (r:AExit × St),ev F bd n c s=some r→∀ m,n≤m→ev F' bd m c s=some r
 | 0,_,_,_,h,_,_=>by simp [ev] at h
 | n+1,c,s,r,h,m,hm=>by
  obtain ⟨m,rfl⟩:∃ k,m=k+1:=⟨m - 1,by omega⟩
  have ih:=ev_sub hF n
  have hnm:n≤m:=by omega
  cases c with
  | skip=>exact h
  | region d ops keep =>
   simp only [ev] at h ⊢
   split at h
   ·rename_i hs;rw [all_sub hF hs];exact h
   ·cases h
  | seq a b =>
   simp only [ev] at h ⊢
   cases hx:ev F bd n a s with
   | none=>rw [hx] at h;cases h
   | some q =>
    obtain ⟨e1,s1⟩:=q
    rw [hx] at h
    rw [ih _ _ _ hx m hnm]
    cases e1 with
    | normal=>exact ih _ _ _ h m hnm
    | _=>exact h
  | cond x a b =>
   simp only [ev] at h ⊢
   split at h
   ·rename_i t ht
    cases t
    ·exact ih _ _ _ h m hnm
    ·exact ih _ _ _ h m hnm
   ·cases h
  | block i c =>
   simp only [ev] at h ⊢
   cases hx:ev F bd n c s with
   | none=>rw [hx] at h;cases h
   | some q =>
    obtain ⟨e1,s1⟩:=q
    rw [hx] at h
    rw [ih _ _ _ hx m hnm]
    exact h
  | loop c =>
   simp only [ev] at h ⊢
   cases hx:ev F bd n c s with
   | none=>rw [hx] at h;cases h
   | some q =>
    obtain ⟨e1,s1⟩:=q
    rw [hx] at h
    rw [ih _ _ _ hx m hnm]
    cases e1 with
    | normal=>exact ih _ _ _ h m hnm
    | _=>exact h
  | exit i=>exact h
  | ret=>exact h
  | wrap cut nrm ret exs c =>
   simp only [ev] at h ⊢
   cases hx:ev F bd n c s with
   | none=>rw [hx] at h;cases h
   | some q =>
    obtain ⟨e1,s1⟩:=q
    rw [hx] at h
    rw [ih _ _ _ hx m hnm]
    exact h
  | rng f x ti tx kk agg y z =>
   simp only [ev] at h ⊢
   split at h
   case h_2=>cases h
   rename_i rows σ0 hgo
   try rw [hgo]
   try simp only
   split at h
   case h_2=>cases h
   rename_i σ' hrun
   rw [backR_sub (fun c s r hh=>ih c s r hh m hnm) _ _ _ hrun]
   exact h
theorem core_sub (hF:Sub F F') {n m:Nat} (hnm:n≤m) {kp:Kp} {fn:AFun} {args:List V} {σ:List Ob} {lo tr:Nat} {r:V × List Ob} (h:core F n kp fn args σ lo tr=some r):core F' m kp fn args σ lo tr=some r:=by
 unfold core at h ⊢
 split at h
 case isFalse=>cases h
 rename_i hl
 rw [if_pos hl]
 split at h
 case h_1=>cases h
 rename_i env henv
 have go:∀ (bd:Bd) {k:Option (AExit × St)→Option (V × List Ob)},k none=none→k (ev F bd n fn.body ⟨env,σ⟩)=some r→k (ev F' bd m fn.body ⟨env,σ⟩)=some r:=by
  intro bd k h0 hk
  cases hx:ev F bd n fn.body ⟨env,σ⟩ with
  | none=>rw [hx,h0] at hk;cases hk
  | some q=>rw [ev_sub hF n _ _ _ hx m hnm];rw [hx] at hk;exact hk
 cases kp
 ·exact go _ (k:=fun r=>match r with
   | some (.exit _,_)=>none
   | some (_,s)=>match resOf s σ.length fn.results with
     | some v=>match frzV (fun l=>decide (σ.length≤l)) s.σ v with
      | some v=>if v.closed σ.length then some (v,s.σ.take σ.length) else none
      | none=>none
     | none=>none
   | none=>none) rfl h
 ·exact go _ (k:=fun r=>match r with
   | some (.exit _,_)=>none
   | some (_,s)=>match resOf s σ.length fn.results with
     | some v=>match frzV (fun l=>decide (σ.length≤l)) s.σ v with
      | some v=>if v.closed σ.length then some (v,s.σ.take σ.length) else none
      | none=>none
     | none=>none
   | none=>none) rfl h
 ·exact go _ (k:=fun r=>match r with
   | some (.exit _,_)=>none
   | some (_,s)=>match resOf s s.σ.length fn.results with
     | some v=>some (v,s.σ)
     | none=>none
   | none=>none) rfl h
end
theorem base_sub {F F':Oracle} (hF:Sub F F') {n m:Nat} (hnm:n≤m) {fn:AFun} {args:List V} {σ:List Ob} {lo tr:Nat} {r:V × List Ob} (h:base F n fn args σ lo tr=some r):base F' m fn args σ lo tr=some r:=by
 unfold base at h ⊢
 cases hs:(fn.split && isEmp args) with
 | false=>rw [hs] at h;exact core_sub hF hnm h
 | true =>
  rw [hs] at h
  simp only [cond_true] at h ⊢
  split at h
  ·rename_i h1 h2
   rw [core_sub hF hnm h1,core_sub hF hnm h2]
   exact h
  ·cases h
theorem once_sub {F F':Oracle} (hF:Sub F F') {args:List V} {σ:List Ob} {lo tr:Nat} {r:V × List Ob} (h:onceRun F args σ lo tr=some r):onceRun F' args σ lo tr=some r:=by
 unfold onceRun at h ⊢
 split at h
 case h_2=>cases h
 split at h
 case h_2=>cases h
 split at h
 case h_2=>cases h
 split at h
 case isFalse=>rename_i h1 hd;rw [if_neg hd];exact h
 rename_i hd
 rw [if_pos hd]
 split at h
 case h_2=>cases h
 split at h
 case isFalse=>cases h
 rename_i hl
 rw [if_pos hl]
 split at h
 case h_2=>cases h
 rename_i hf
 rw [hF _ _ _ _ _ _ hf]
 exact h
theorem evf_sub {fns:Nat→Option AFun}:∀ (n m:Nat),n≤m→Sub (evf fns n) (evf fns m)
 | 0,_,_=>by intro f args σ lo tr r h;simp [evf] at h
 | n+1,m,hm=>by
  obtain ⟨m,rfl⟩:∃ k,m=k+1:=⟨m - 1,by omega⟩
  have hF:=evf_sub (fns:=fns) n m (by omega)
  intro f args σ lo tr r h
  simp only [evf] at h ⊢
  split at h
  case h_1=>cases h
  rename_i fn hfn
  cases ho:fn.once with
  | true=>rw [ho] at h;exact once_sub hF h
  | false =>
  rw [ho] at h
  simp only [cond_false] at h ⊢
  cases hb:blindOk fn args with
  | false=>rw [hb] at h;exact base_sub hF (by omega) h
  | true =>
   rw [hb] at h
   simp only [cond_true] at h ⊢
   split at h
   ·rename_i h1;rw [base_sub hF (by omega) h1];exact h
   ·cases h
noncomputable def hide {α:Type} (x:α):α:=(⟨x,rfl⟩:∃ y,y=x).choose
theorem hide_eq {α:Type} (x:α):hide x=x:=(⟨x,rfl⟩:∃ y,y=x).choose_spec
noncomputable def lim {α:Type} (p:Nat→Option α):Option α:=open Classical in if h:∃ a n,p n=some a then some h.choose else none
theorem lim_iff {α:Type} {p:Nat→Option α} (hm:∀ n m a,n≤m→p n=some a→p m=some a) {a:α}:lim p=some a↔∃ n,p n=some a:=by
 unfold lim
 constructor
 ·intro h
  split at h
  ·rename_i h';cases h;exact h'.choose_spec
  ·cases h
 ·rintro ⟨n,hn⟩
  have h':∃ a n,p n=some a:=⟨a,n,hn⟩
  rw [dif_pos h']
  obtain ⟨k,hk⟩:=h'.choose_spec
  have h1:=hm k (max k n) _ (by omega) hk
  have h2:=hm n (max k n) _ (by omega) hn
  rw [h1] at h2
  exact h2
section
variable (fns:Nat→Option AFun) (bd:Bd)
noncomputable def Fn:Oracle:=hide fun f args σ lo tr=>lim fun n=>evf fns n f args σ lo tr
noncomputable def Ev (c:ACode) (s:St):Option (AExit × St):=lim fun n=>ev (evf fns n) bd n c s
variable {fns:Nat→Option AFun} {bd:Bd}
theorem evf_up {n m f:Nat} {args:List V} {σ:List Ob} {lo tr:Nat} {r:V × List Ob} (h:n≤m) (k:evf fns n f args σ lo tr=some r):evf fns m f args σ lo tr=some r:=evf_sub n m h _ _ _ _ _ _ k
theorem ev_up {n m n' m':Nat} {c:ACode} {s:St} {r:AExit × St} (h:n≤n') (h':m≤m') (k:ev (evf fns n) bd m c s=some r):ev (evf fns n') bd m' c s=some r:=ev_sub (evf_sub n n' h) m c s r k m' h'
theorem fn_iff {f:Nat} {args:List V} {σ:List Ob} {lo tr:Nat} {r:V × List Ob}:Fn fns f args σ lo tr=some r↔∃ n,evf fns n f args σ lo tr=some r:=by
 rw [Fn,hide_eq]
 exact lim_iff fun _ _ _ h k=>evf_up h k
theorem Ev_iff {c:ACode} {s:St} {r:AExit × St}:Ev fns bd c s=some r↔∃ n,ev (evf fns n) bd n c s=some r:=lim_iff fun _ _ _ h k=>ev_up h h k
theorem Ev_of {n m:Nat} {c:ACode} {s:St} {r:AExit × St} (h:ev (evf fns n) bd m c s=some r):Ev fns bd c s=some r:=Ev_iff.mpr ⟨max n m,ev_up (by omega) (by omega) h⟩
theorem opt_ext {α:Type} {x y:Option α} (h:∀ a,x=some a↔y=some a):x=y:=by
 cases x with
 | none=>cases y with
  | none=>rfl
  | some b=>exact absurd ((h b).mpr rfl) (by simp)
 | some a=>exact ((h a).mp rfl).symm
theorem fn_sub (n:Nat):Sub (evf fns n) (Fn fns):=fun _ _ _ _ _ _ h=>fn_iff.mpr ⟨n,h⟩
theorem step_fuel {s:St} {op:AOp} {r:V × St} (h:stepOp (Fn fns) bd s op=some r):∃ n,stepOp (evf fns n) bd s op=some r:=by
 cases op with
 | call f args =>
  simp only [stepOp] at h
  split at h
  ·rename_i hf;obtain ⟨n,hn⟩:=fn_iff.mp hf;exact ⟨n,by simp only [stepOp,hn];exact h⟩
  ·cases h
 | callp f args =>
  simp only [stepOp] at h
  split at h
  ·rename_i hf;obtain ⟨n,hn⟩:=fn_iff.mp hf;exact ⟨n,by simp only [stepOp,hn];exact h⟩
  ·cases h
 | callb f args =>
  simp only [stepOp] at h
  split at h
  ·rename_i hc
   split at h
   ·rename_i hf;obtain ⟨n,hn⟩:=fn_iff.mp hf;exact ⟨n,by simp only [stepOp,if_pos hc,hn];exact h⟩
   ·cases h
  ·cases h
 | callv x args =>
  simp only [stepOp] at h
  split at h
  ·rename_i hx
   split at h
   ·rename_i hf;obtain ⟨n,hn⟩:=fn_iff.mp hf;exact ⟨n,by simp only [stepOp,hx,hn];exact h⟩
   ·cases h
  ·cases h
 | mov m x=>exact ⟨0,by cases m<;>exact h⟩
 | ld m n x=>exact ⟨0,by cases m<;>cases n<;>exact h⟩
 | _=>exact ⟨0,h⟩
theorem ins_fuel {s s':St} {i:AIns} (h:stepIns (Fn fns) bd s i=some s'):∃ n,stepIns (evf fns n) bd s i=some s':=by
 have go:∀ {s':St},(match stepOp (Fn fns) bd s i.op with | some (v,s')=>some (s'.set i.dst v) | none=>none)=some s'→∃ n,(match stepOp (evf fns n) bd s i.op with | some (v,s')=>some (s'.set i.dst v) | none=>none)=some s':=by
  intro s' h
  split at h
  ·rename_i hs;obtain ⟨n,hn⟩:=step_fuel hs;exact ⟨n,by rw [hn];exact h⟩
  ·cases h
 unfold stepIns at h ⊢
 split at h
 ·exact go h
 ·split at h
  ·rename_i t ht
   cases hb:t == _ with
   | true=>rw [hb] at h;exact go h
   | false=>rw [hb] at h;exact ⟨0,h⟩
  ·exact ⟨0,h⟩
  ·cases h
theorem all_fuel:∀ {is:List AIns} {s s':St},stepAll (Fn fns) bd s is=some s'→∃ n,stepAll (evf fns n) bd s is=some s'
 | [],_,_,h=>⟨0,h⟩
 | i :: is,s,s',h=>by
  simp only [stepAll] at h
  split at h
  ·rename_i hs
   obtain ⟨n,hn⟩:=ins_fuel hs
   obtain ⟨m,hm⟩:=all_fuel h
   refine ⟨max n m,?_⟩
   simp only [stepAll]
   rw [ins_sub (evf_sub n _ (Nat.le_max_left n m)) hn]
   exact all_sub (evf_sub m _ (Nat.le_max_right n m)) hm
  ·cases h
def andK {β:Type} (r:Option (AExit × St)) (k:AExit→St→Option β):Option β:=match r with
 | some (e,s)=>k e s
 | none=>none
variable {s:St} {β:Type} {k:AExit→St→Option β}
variable (fns bd)
noncomputable def K {β:Type}:ACode→St→(AExit→St→Option β)→Option β:=hide fun c s k=>andK (Ev fns bd c s) k
variable {fns bd}
theorem K_def {c:ACode}:K fns bd c s k=andK (Ev fns bd c s) k:=by rw [K,hide_eq]
theorem andK_some {r:Option (AExit × St)} {b:β}:andK r k=some b↔∃ e s',r=some (e,s')∧k e s'=some b:=by
 cases r with
 | none=>simp [andK]
 | some p =>
  obtain ⟨e,s'⟩:=p
  exact ⟨fun h=>⟨e,s',rfl,h⟩,fun ⟨_,_,h,h'⟩=>by cases h;exact h'⟩
theorem Ev_skip:Ev fns bd .skip s=some (.normal,s):=Ev_of (n:=0) (m:=1) rfl
theorem Ev_exit {i:Nat}:Ev fns bd (.exit i) s=some (.exit i,s):=Ev_of (n:=0) (m:=1) rfl
theorem Ev_ret:Ev fns bd .ret s=some (.ret,s):=Ev_of (n:=0) (m:=1) rfl
theorem Ev_region {d:Bool} {ops:List AIns} {keep:List Nat}:Ev fns bd (.region d ops keep) s=(match stepAll (Fn fns) bd s ops with
  | some s'=>some (.normal,{ s' with env:=s'.env.keep keep })
  | none=>none):=by
 refine opt_ext fun r=>⟨fun h=>?_,fun h=>?_⟩
 ·obtain ⟨n,hn⟩:=Ev_iff.mp h
  cases n with
  | zero=>cases hn
  | succ n =>
   simp only [ev] at hn
   split at hn
   ·rename_i hs;rw [all_sub (fn_sub _) hs];exact hn
   ·cases hn
 ·split at h
  ·rename_i hs
   obtain ⟨n,hn⟩:=all_fuel hs
   exact Ev_of (n:=n) (m:=1) (by simp only [ev,hn];exact h)
  ·cases h
theorem Ev_seq {a b:ACode}:Ev fns bd (.seq a b) s=andK (Ev fns bd a s) (fun e s'=>match e with | .normal=>Ev fns bd b s' | e=>some (e,s')):=by
 refine opt_ext fun r=>⟨fun h=>?_,fun h=>?_⟩
 ·obtain ⟨n,hn⟩:=Ev_iff.mp h
  cases n with
  | zero=>cases hn
  | succ n =>
   simp only [ev] at hn
   cases hx:ev (evf fns (n+1)) bd n a s with
   | none=>rw [hx] at hn;cases hn
   | some p =>
    obtain ⟨e1,s1⟩:=p
    rw [hx] at hn
    rw [Ev_of hx]
    cases e1 with
    | normal=>exact Ev_of hn
    | _=>exact hn
 ·obtain ⟨e1,s1,h1,h2⟩:=andK_some.mp h
  obtain ⟨n,hn⟩:=Ev_iff.mp h1
  cases e1 with
  | normal =>
   obtain ⟨m,hm⟩:=Ev_iff.mp h2
   refine Ev_of (n:=max n m) (m:=max n m+1) ?_
   simp only [ev,ev_up (Nat.le_max_left n m) (Nat.le_max_left n m) hn,ev_up (Nat.le_max_right n m) (Nat.le_max_right n m) hm]
  | exit i=>cases h2;exact Ev_of (n:=n) (m:=n+1) (by simp only [ev,hn])
  | ret=>cases h2;exact Ev_of (n:=n) (m:=n+1) (by simp only [ev,hn])
theorem Ev_cond {x:Opd} {a b:ACode}:Ev fns bd (.cond x a b) s=(match s.rd x with
  | .c (.b (.d (.bool t)))=>bif t then Ev fns bd a s else Ev fns bd b s
  | _=>none):=by
 refine opt_ext fun r=>⟨fun h=>?_,fun h=>?_⟩
 ·obtain ⟨n,hn⟩:=Ev_iff.mp h
  cases n with
  | zero=>cases hn
  | succ n =>
   simp only [ev] at hn
   split at hn
   ·rename_i t ht
    rw [ht]
    cases t with
    | true=>exact Ev_of (c:=a) hn
    | false=>exact Ev_of (c:=b) hn
   ·cases hn
 ·split at h
  ·rename_i t ht
   cases t with
   | true =>
    have h':Ev fns bd a s=some r:=h
    obtain ⟨n,hn⟩:=Ev_iff.mp h'
    exact Ev_of (n:=n) (m:=n+1) (by simp only [ev,ht,cond_true];exact hn)
   | false =>
    have h':Ev fns bd b s=some r:=h
    obtain ⟨n,hn⟩:=Ev_iff.mp h'
    exact Ev_of (n:=n) (m:=n+1) (by simp only [ev,ht,cond_false];exact hn)
  ·cases h
theorem Ev_block {i:Nat} {c:ACode}:Ev fns bd (.block i c) s=andK (Ev fns bd c s) (fun e s'=>match e with | .exit j=>if j=i then some (.normal,s') else some (.exit j,s') | e=>some (e,s')):=by
 refine opt_ext fun r=>⟨fun h=>?_,fun h=>?_⟩
 ·obtain ⟨n,hn⟩:=Ev_iff.mp h
  cases n with
  | zero=>cases hn
  | succ n =>
   simp only [ev] at hn
   cases hx:ev (evf fns (n+1)) bd n c s with
   | none=>rw [hx] at hn;cases hn
   | some p =>
    obtain ⟨e1,s1⟩:=p
    rw [hx] at hn
    rw [Ev_of hx]
    cases e1 with
    | exit j=>exact hn
    | _=>exact hn
 ·obtain ⟨e1,s1,h1,h2⟩:=andK_some.mp h
  obtain ⟨n,hn⟩:=Ev_iff.mp h1
  refine Ev_of (n:=n) (m:=n+1) ?_
  simp only [ev,hn]
  cases e1 with
  | exit j=>exact h2
  | _=>exact h2
theorem Ev_loop {c:ACode}:Ev fns bd (.loop c) s=andK (Ev fns bd c s) (fun e s'=>match e with | .normal=>Ev fns bd (.loop c) s' | e=>some (e,s')):=by
 refine opt_ext fun r=>⟨fun h=>?_,fun h=>?_⟩
 ·obtain ⟨n,hn⟩:=Ev_iff.mp h
  cases n with
  | zero=>cases hn
  | succ n =>
   simp only [ev] at hn
   cases hx:ev (evf fns (n+1)) bd n c s with
   | none=>rw [hx] at hn;cases hn
   | some p =>
    obtain ⟨e1,s1⟩:=p
    rw [hx] at hn
    rw [Ev_of hx]
    cases e1 with
    | normal=>exact Ev_of hn
    | _=>exact hn
 ·obtain ⟨e1,s1,h1,h2⟩:=andK_some.mp h
  obtain ⟨n,hn⟩:=Ev_iff.mp h1
  cases e1 with
  | normal =>
   obtain ⟨m,hm⟩:=Ev_iff.mp h2
   refine Ev_of (n:=max n m) (m:=max n m+1) ?_
   simp only [ev,ev_up (Nat.le_max_left n m) (Nat.le_max_left n m) hn,ev_up (Nat.le_max_right n m) (Nat.le_max_right n m) hm]
  | exit i=>cases h2;exact Ev_of (n:=n) (m:=n+1) (by simp only [ev,hn])
  | ret=>cases h2;exact Ev_of (n:=n) (m:=n+1) (by simp only [ev,hn])
theorem Ev_wrap {cut:Bool} {nrm ret:List Nat} {exs:List (Nat × List Nat)} {c:ACode}:Ev fns bd (.wrap cut nrm ret exs c) s=andK (Ev fns bd c s) (fun e s'=>wrapEnd cut nrm ret exs s.σ.length e s'):=by
 refine opt_ext fun r=>⟨fun h=>?_,fun h=>?_⟩
 ·obtain ⟨n,hn⟩:=Ev_iff.mp h
  cases n with
  | zero=>cases hn
  | succ n =>
   simp only [ev] at hn
   cases hx:ev (evf fns (n+1)) bd n c s with
   | none=>rw [hx] at hn;cases hn
   | some p=>rw [hx] at hn;rw [Ev_of hx];exact hn
 ·obtain ⟨e1,s1,h1,h2⟩:=andK_some.mp h
  obtain ⟨n,hn⟩:=Ev_iff.mp h1
  exact Ev_of (n:=n) (m:=n+1) (by simp only [ev,hn];exact h2)
theorem backR_fuel {ti tx:Nat} {agg:Bool} {asg body:ACode} {env:Env}:∀ (rows:List (List D)) (σ σ':List Ob),backR (Ev fns bd) ti tx agg asg body env rows σ=some σ'→∃ n,backR (ev (evf fns n) bd n) ti tx agg asg body env rows σ=some σ'
 | [],σ,σ',h=>⟨0,h⟩
 | row :: rest,σ,σ',h=>by
  simp only [backR] at h
  split at h
  case h_2=>cases h
  rename_i s1 h1
  split at h
  case h_2=>cases h
  rename_i s2 h2
  obtain ⟨n1,k1⟩:=Ev_iff.mp h1
  obtain ⟨n2,k2⟩:=Ev_iff.mp h2
  obtain ⟨n3,k3⟩:=backR_fuel rest _ _ h
  refine ⟨max n1 (max n2 n3),?_⟩
  simp only [backR]
  rw [ev_up (by omega) (by omega) k1]
  simp only
  rw [ev_up (by omega) (by omega) k2]
  exact backR_sub (fun c s r hh=>ev_up (by omega) (by omega) hh) _ _ _ k3
theorem Ev_rng {f kk ti tx:Nat} {agg:Bool} {x:Opd} {asg body:ACode}:Ev fns bd (.rng f x ti tx kk agg asg body) s=(match rngGo bd f kk agg x s with
  | some (rows,σ)=>match backR (Ev fns bd) ti tx agg asg body (downE s.env) rows σ with
   | some σ'=>some (.normal,⟨s.env,σ'⟩)
   | none=>none
  | none=>none):=by
 refine opt_ext fun r=>⟨fun h=>?_,fun h=>?_⟩
 ·obtain ⟨n,hn⟩:=Ev_iff.mp h
  cases n with
  | zero=>cases hn
  | succ n =>
   simp only [ev] at hn
   split at hn
   case h_2=>cases hn
   rename_i rows σ0 hgo
   try rw [hgo]
   try simp only
   split at hn
   case h_2=>cases hn
   rename_i σ' hrun
   rw [backR_sub (E':=Ev fns bd) (fun c s r hh=>Ev_of hh) _ _ _ hrun]
   exact hn
 ·split at h
  case h_2=>cases h
  rename_i rows σ0 hgo
  split at h
  case h_2=>cases h
  rename_i σ' hrun
  obtain ⟨n,hn⟩:=backR_fuel _ _ _ hrun
  refine Ev_of (n:=n) (m:=n+1) ?_
  simp only [ev]
  try rw [hgo]
  try simp only
  rw [hn]
  exact h
theorem K_skip:K fns bd .skip s k=k .normal s:=by simp only [K_def,Ev_skip,andK]
theorem K_exit {i:Nat}:K fns bd (.exit i) s k=k (.exit i) s:=by simp only [K_def,Ev_exit,andK]
theorem K_ret:K fns bd .ret s k=k .ret s:=by simp only [K_def,Ev_ret,andK]
theorem K_seq {a b:ACode}:K fns bd (.seq a b) s k=K fns bd a s (fun e s'=>match e with | .normal=>K fns bd b s' k | e=>k e s'):=by
 simp only [K_def,Ev_seq]
 cases Ev fns bd a s with
 | none=>rfl
 | some p=>obtain ⟨e,s'⟩:=p;cases e<;>rfl
theorem K_cond {x:Opd} {a b:ACode}:K fns bd (.cond x a b) s k=(match s.rd x with
  | .c (.b (.d (.bool t)))=>if t=true then K fns bd a s k else K fns bd b s k
  | _=>none):=by
 simp only [K_def,Ev_cond]
 split
 ·rename_i t _;cases t<;>rfl
 ·rfl
theorem K_block {i:Nat} {c:ACode}:K fns bd (.block i c) s k=K fns bd c s (fun e s'=>match e with | .exit j=>if j=i then k .normal s' else k (.exit j) s' | e=>k e s'):=by
 simp only [K_def,Ev_block]
 cases Ev fns bd c s with
 | none=>rfl
 | some p =>
  obtain ⟨e,s'⟩:=p
  cases e with
  | exit j=>by_cases h:j=i<;>simp [andK,h]
  | _=>rfl
theorem K_loop {c:ACode}:K fns bd (.loop c) s k=K fns bd c s (fun e s'=>match e with | .normal=>K fns bd (.loop c) s' k | e=>k e s'):=by
 simp only [K_def]
 rw [Ev_loop]
 cases Ev fns bd c s with
 | none=>rfl
 | some p=>obtain ⟨e,s'⟩:=p;cases e<;>rfl
theorem K_wrap {cut:Bool} {nrm ret:List Nat} {exs:List (Nat × List Nat)} {c:ACode}:K fns bd (.wrap cut nrm ret exs c) s k=K fns bd c s (fun e s'=>andK (wrapEnd cut nrm ret exs s.σ.length e s') k):=by
 simp only [K_def,Ev_wrap]
 cases Ev fns bd c s with
 | none=>rfl
 | some p=>rfl
variable (fns bd)
noncomputable def KR {β:Type} (ti tx:Nat) (agg:Bool) (asg body:ACode) (env:Env):List (List D)→List Ob→(List Ob→Option β)→Option β
 | [],σ,k=>k σ
 | row :: rest,σ,k=>K fns bd asg ⟨(tx,rowV agg row) :: (ti,.c (.b (.d (.int .i64 rest.length)))) :: env,σ⟩ fun e s1=>match e with
  | .normal=>K fns bd body s1 fun e s2=>match e with
   | .normal=>KR ti tx agg asg body env rest s2.σ k
   | _=>none
  | _=>none
variable {fns bd}
theorem KR_eq {ti tx:Nat} {agg:Bool} {asg body:ACode} {env:Env} {k:List Ob→Option β}:∀ (rows:List (List D)) (σ:List Ob),KR fns bd ti tx agg asg body env rows σ k=(match backR (Ev fns bd) ti tx agg asg body env rows σ with
  | some σ'=>k σ'
  | none=>none)
 | [],σ=>rfl
 | row :: rest,σ=>by
  simp only [KR,K_def,backR]
  cases Ev fns bd asg ⟨(tx,rowV agg row) :: (ti,.c (.b (.d (.int .i64 rest.length)))) :: env,σ⟩ with
  | none=>rfl
  | some p =>
   obtain ⟨e,s1⟩:=p
   cases e with
   | normal =>
    simp only [andK]
    cases Ev fns bd body s1 with
    | none=>rfl
    | some q =>
     obtain ⟨e,s2⟩:=q
     cases e with
     | normal=>exact KR_eq rest s2.σ
     | _=>rfl
   | _=>rfl
theorem K_rng {f kk ti tx:Nat} {agg:Bool} {x:Opd} {asg body:ACode}:K fns bd (.rng f x ti tx kk agg asg body) s k=(match rngGo bd f kk agg x s with
  | some (rows,σ)=>KR fns bd ti tx agg asg body (downE s.env) rows σ fun σ'=>k .normal ⟨s.env,σ'⟩
  | none=>none):=by
 simp only [K_def,Ev_rng]
 split
 ·rename_i rows σ0 hgo
  rw [KR_eq]
  cases backR (Ev fns bd) ti tx agg asg body (downE s.env) rows σ0 with
  | none=>rfl
  | some p=>rfl
 ·rfl
def KA0 (F:Oracle) (bd:Bd):List AIns→St→(St→Option β)→Option β
 | [],s,k=>k s
 | i :: is,s,k=>match i.guard with
  | none=>match stepOp F bd s i.op with
   | some (v,s')=>KA0 F bd is (s'.set i.dst v) k
   | none=>none
  | some (g,want)=>match s.env.get g with
   | .c (.b (.d (.bool t)))=>if t=want then (match stepOp F bd s i.op with
     | some (v,s')=>KA0 F bd is (s'.set i.dst v) k
     | none=>none) else KA0 F bd is (s.set i.dst (.tup [])) k
   | .tup _=>KA0 F bd is (s.set i.dst (.tup [])) k
   | _=>none
theorem KA0_all {F:Oracle}:∀ {is:List AIns} {s:St} {k:St→Option β},KA0 F bd is s k=(match stepAll F bd s is with | some s'=>k s' | none=>none)
 | [],s,k=>rfl
 | i :: is,s,k=>by
  have step:(match stepOp F bd s i.op with | some (v,s')=>KA0 F bd is (s'.set i.dst v) k | none=>none) =
    (match (match (match stepOp F bd s i.op with | some (v,s')=>some (s'.set i.dst v) | none=>none) with | some s'=>stepAll F bd s' is | none=>none) with | some s'=>k s' | none=>none):=by
   cases stepOp F bd s i.op with
   | none=>rfl
   | some p=>exact KA0_all
  cases hg:i.guard with
  | none=>simp only [KA0,stepAll,stepIns,hg];exact step
  | some p =>
   obtain ⟨g,want⟩:=p
   simp only [KA0,stepAll,stepIns,hg]
   cases s.env.get g with
   | c x =>
    cases x with
    | b y =>
     cases y with
     | d z =>
      cases z with
      | bool t =>
       simp only
       by_cases h:t=want
       ·subst h
        rw [if_pos rfl]
        have e:(t == t)=true:=by simp
        simp only [e,cond_true]
        exact step
       ·rw [if_neg h]
        have e:(t == want)=false:=by simp [h]
        simp only [e,cond_false]
        exact KA0_all
      | _=>rfl
     | _=>rfl
    | _=>rfl
   | tup vs=>simp only;exact KA0_all
   | _=>rfl
noncomputable def KA (F:Oracle) (bd:Bd) {β:Type}:List AIns→St→(St→Option β)→Option β:=hide (KA0 F bd)
theorem KA_nil {F:Oracle} {s:St} {k:St→Option β}:KA F bd [] s k=k s:=by rw [KA,hide_eq];rfl
theorem KA_none {F:Oracle} {d:Option Nat} {op:AOp} {is:List AIns} {s:St} {k:St→Option β}:KA F bd (⟨d,op,none⟩ :: is) s k=(match stepOp F bd s op with
  | some (v,s')=>KA F bd is (s'.set d v) k
  | none=>none):=by rw [KA,hide_eq];rfl
theorem KA_some {F:Oracle} {d:Option Nat} {op:AOp} {g:Nat} {want:Bool} {is:List AIns} {s:St} {k:St→Option β}:KA F bd (⟨d,op,some (g,want)⟩ :: is) s k=(match s.env.get g with
  | .c (.b (.d (.bool t)))=>if t=want then (match stepOp F bd s op with
    | some (v,s')=>KA F bd is (s'.set d v) k
    | none=>none) else KA F bd is (s.set d (.tup [])) k
  | .tup _=>KA F bd is (s.set d (.tup [])) k
  | _=>none):=by rw [KA,hide_eq];rfl
theorem KA_all {F:Oracle} {is:List AIns} {s:St} {k:St→Option β}:KA F bd is s k=(match stepAll F bd s is with | some s'=>k s' | none=>none):=by
 rw [KA,hide_eq];exact KA0_all
theorem K_region {d:Bool} {ops:List AIns} {keep:List Nat}:K fns bd (.region d ops keep) s k=KA (Fn fns) bd ops s (fun s'=>k .normal { s' with env:=s'.env.keep keep }):=by
 simp only [K_def,Ev_region,KA_all]
 cases stepAll (Fn fns) bd s ops with
 | none=>rfl
 | some s'=>rfl
def endOf (kp:Kp) (fn:AFun) (σ:List Ob):AExit→St→Option (V × List Ob):=fun e s=>match e with
 | .exit _=>none
 | _=>match kp with
  | .free=>match resOf s s.σ.length fn.results with
   | some v=>some (v,s.σ)
   | none=>none
  | _=>match resOf s σ.length fn.results with
   | some v=>match frzV (fun l=>decide (σ.length≤l)) s.σ v with
    | some v=>if v.closed σ.length then some (v,s.σ.take σ.length) else none
    | none=>none
   | none=>none
noncomputable def KF (fns:Nat→Option AFun) (kp:Kp) (fn:AFun) (args:List V) (σ:List Ob) (lo tr:Nat):Option (V × List Ob) :=
 if args.length=fn.params then match params 0 args with
  | none=>none
  | some env =>
   K fns (match kp with
    | .pure=>⟨max lo σ.length,max tr σ.length⟩
    | .trim=>⟨lo,max tr σ.length⟩
    | .free=>⟨lo,tr⟩) fn.body ⟨env,σ⟩ (endOf kp fn σ)
 else none
theorem core_end {F:Oracle} {n:Nat} {kp:Kp} {fn:AFun} {args:List V} {σ:List Ob} {lo tr:Nat}:core F n kp fn args σ lo tr=(if args.length=fn.params then match params 0 args with
  | none=>none
  | some env=>andK (ev F (match kp with
    | .pure=>⟨max lo σ.length,max tr σ.length⟩
    | .trim=>⟨lo,max tr σ.length⟩
    | .free=>⟨lo,tr⟩) n fn.body ⟨env,σ⟩) (endOf kp fn σ)
 else none):=by
 unfold core
 by_cases hl:args.length=fn.params
 ·rw [if_pos hl,if_pos hl]
  cases params 0 args with
  | none=>rfl
  | some env =>
   cases kp
   all_goals
    simp only [andK]
    generalize ev F _ n fn.body ⟨env,σ⟩=r
    cases r with
    | none=>rfl
    | some p=>obtain ⟨e,s⟩:=p;cases e<;>rfl
 ·rw [if_neg hl,if_neg hl]
theorem core_sub_lim {n:Nat} {kp:Kp} {fn:AFun} {args:List V} {σ:List Ob} {lo tr:Nat} {r:V × List Ob} (h:core (evf fns n) n kp fn args σ lo tr=some r):KF fns kp fn args σ lo tr=some r:=by
 rw [core_end] at h
 unfold KF
 by_cases hl:args.length=fn.params
 ·rw [if_pos hl] at h ⊢
  cases hp:params 0 args with
  | none=>rw [hp] at h;cases h
  | some env =>
   rw [hp] at h
   obtain ⟨e,s1,h1,h2⟩:=andK_some.mp h
   simp only [K_def]
   exact andK_some.mpr ⟨e,s1,Ev_of h1,h2⟩
 ·rw [if_neg hl] at h;cases h
theorem core_lim {kp:Kp} {fn:AFun} {args:List V} {σ:List Ob} {lo tr:Nat} {r:V × List Ob} (h:KF fns kp fn args σ lo tr=some r):∃ n,core (evf fns n) n kp fn args σ lo tr=some r:=by
 unfold KF at h
 by_cases hl:args.length=fn.params
 ·rw [if_pos hl] at h
  cases hp:params 0 args with
  | none=>rw [hp] at h;cases h
  | some env =>
   rw [hp] at h
   simp only [K_def] at h
   obtain ⟨e,s1,h1,h2⟩:=andK_some.mp h
   obtain ⟨n,hn⟩:=Ev_iff.mp h1
   refine ⟨n,?_⟩
   rw [core_end,if_pos hl,hp]
   exact andK_some.mpr ⟨e,s1,hn,h2⟩
 ·rw [if_neg hl] at h;cases h
theorem base_lim {fn:AFun} {args:List V} {σ:List Ob} {lo tr:Nat} {r:V × List Ob} (hs:(fn.split && isEmp args)=false):KF fns fn.kp fn args σ lo tr=some r↔∃ n,base (evf fns n) n fn args σ lo tr=some r:=by
 simp only [base,hs,cond_false]
 exact ⟨core_lim,fun ⟨n,h⟩=>core_sub_lim h⟩
theorem fn_eq {f:Nat} {fn:AFun} (hf:fns f=some fn) {args:List V} {σ:List Ob} {lo tr:Nat} (hs:(fn.split && isEmp args)=false) (hb:blindOk fn args=false) (ho:fn.once=false:=by rfl):Fn fns f args σ lo tr=KF fns fn.kp fn args σ lo tr:=by
 refine opt_ext fun r=>⟨fun h=>?_,fun h=>?_⟩
 ·obtain ⟨n,hn⟩:=fn_iff.mp h
  cases n with
  | zero=>cases hn
  | succ n =>
   simp only [evf,hf,ho,hb,cond_false] at hn
   exact (base_lim hs).mpr ⟨n,hn⟩
 ·obtain ⟨n,hn⟩:=(base_lim hs).mp h
  exact fn_iff.mpr ⟨n+1,by simp only [evf,hf,ho,hb,cond_false];exact hn⟩
theorem pure_closed {fn:AFun} {args:List V} {v:V} {σ1:List Ob} (h:KF fns .pure fn args [] 0 0=some (v,σ1)):v.closed 0=true:=by
 unfold KF at h
 split at h
 ·split at h
  ·cases h
  ·simp only [K_def] at h
   obtain ⟨e,s,h1,h2⟩:=andK_some.mp h
   unfold endOf at h2
   split at h2
   ·cases h2
   ·simp only at h2
    split at h2
    ·split at h2
     ·split at h2
      ·rename_i hc;cases h2;exact hc
      ·cases h2
     ·cases h2
    ·cases h2
 ·cases h
theorem fn_gen {f:Nat} {fn:AFun} (hf:fns f=some fn) (hk:fn.kp=.pure) {args:List V} (hs:(fn.split && isEmp args)=false) (hc:args.all (V.closed 0)=true) {v:V} {σ1:List Ob} (h:KF fns .pure fn args [] 0 0=some (v,σ1)) (σ:List Ob) (lo tr:Nat) (ho:fn.once=false:=by rfl):Fn fns f args σ lo tr=some (v,σ):=by
 have hv:=pure_closed h
 have hb:blindOk fn args=true:=by simp only [blindOk,hk,Kp.isPure,hc,Bool.and_self]
 rw [← hk] at h
 obtain ⟨n,hn⟩:=(base_lim hs).mp h
 exact fn_iff.mpr ⟨n+1,by simp only [evf,hf,ho,hb,cond_true,cond_false,hn,hv,if_true]⟩
theorem fn_run {f:Nat} {fn:AFun} (hf:fns f=some fn) (hk:fn.kp=.pure) {args:List V} (hc:args.all (V.closed 0)=true) {n:Nat} {v:V} {τ:List Ob} (h:evf fns n f args [] 0 0=some (v,τ)) (σ:List Ob) (lo tr:Nat) (ho:fn.once=false:=by rfl):Fn fns f args σ lo tr=some (v,σ):=by
 have hb:blindOk fn args=true:=by simp only [blindOk,hk,Kp.isPure,hc,Bool.and_self]
 cases n with
 | zero=>cases h
 | succ n =>
  refine fn_iff.mpr ⟨n+1,?_⟩
  simp only [evf,hf,ho,hb,cond_true,cond_false] at h ⊢
  split at h
  ·rename_i v0 σ0 hv0
   split at h
   ·rename_i hcl;cases h;simp only [hcl,if_true]
   ·cases h
  ·cases h
theorem fn_split {f:Nat} {fn:AFun} (hf:fns f=some fn) (hk:fn.kp=.pure) (hs:fn.split=true) {v:V} {σ1 σ2:List Ob} (h1:KF fns .pure fn [.c (.b .nils)] [] 0 0=some (v,σ1)) (h2:KF fns .pure fn [.c (.b .emp)] [] 0 0=some (v,σ2)) (hv:v.same v=true) (σ:List Ob) (lo tr:Nat) (ho:fn.once=false:=by rfl) :
  Fn fns f [.c (.b (.d (.sl [])))] σ lo tr=some (v,σ):=by
 have hcl:=pure_closed h1
 have hb:blindOk fn [.c (.b (.d (.sl [])))]=true:=by simp only [blindOk,hk];rfl
 obtain ⟨n,hn⟩:=core_lim h1
 obtain ⟨m,hm⟩:=core_lim h2
 have a1:=core_sub (evf_sub (fns:=fns) n (max n m) (Nat.le_max_left n m)) (Nat.le_max_left n m) hn
 have a2:=core_sub (evf_sub (fns:=fns) m (max n m) (Nat.le_max_right n m)) (Nat.le_max_right n m) hm
 exact fn_iff.mpr ⟨max n m+1,by simp only [evf,hf,ho,hb,cond_true,cond_false,base,hs,isEmp,Bool.and_true,a1,a2,hv,if_true,hcl]⟩
end
abbrev xF (d o x:Nat):AIns:=⟨some d,.fa o (.t x),none⟩
abbrev xFT (d o x t:Nat):AIns:=⟨some d,.fa o (.t x),some (t,true)⟩
abbrev xFF (d o x t:Nat):AIns:=⟨some d,.fa o (.t x),some (t,false)⟩
abbrev xL (d x:Nat):AIns:=⟨some d,.ld .cp none (.t x),none⟩
abbrev xLT (d x t:Nat):AIns:=⟨some d,.ld .cp none (.t x),some (t,true)⟩
abbrev xLF (d x t:Nat):AIns:=⟨some d,.ld .cp none (.t x),some (t,false)⟩
abbrev xW (d x:Nat):AIns:=⟨some d,.ld .own none (.t x),none⟩
abbrev xQ (d n x:Nat):AIns:=⟨some d,.ld .cp (some n) (.t x),none⟩
abbrev xM (d x:Nat):AIns:=⟨some d,.mov .cp (.t x),none⟩
abbrev xMT (d x t:Nat):AIns:=⟨some d,.mov .cp (.t x),some (t,true)⟩
abbrev xMF (d x t:Nat):AIns:=⟨some d,.mov .cp (.t x),some (t,false)⟩
abbrev xO (d x:Nat):AIns:=⟨some d,.mov .own (.t x),none⟩
abbrev xB (d x:Nat):AIns:=⟨some d,.box (.t x),none⟩
abbrev xI (d k x i:Nat):AIns:=⟨some d,.ia k (.t x) (.t i),none⟩
abbrev xIT (d k x i t:Nat):AIns:=⟨some d,.ia k (.t x) (.t i),some (t,true)⟩
abbrev xIF (d k x i t:Nat):AIns:=⟨some d,.ia k (.t x) (.t i),some (t,false)⟩
abbrev xN (d x:Nat):AIns:=⟨some d,.un .not (.t x),none⟩
abbrev xNT (d x t:Nat):AIns:=⟨some d,.un .not (.t x),some (t,true)⟩
abbrev xNF (d x t:Nat):AIns:=⟨some d,.un .not (.t x),some (t,false)⟩
abbrev xE (d i x:Nat):AIns:=⟨some d,.ext i (.t x),none⟩
abbrev xH (d x:Nat):AIns:=⟨some d,.len 0 (.t x),none⟩
abbrev xS (n a x:Nat):AIns:=⟨none,.st n (.t a) (.t x),none⟩
abbrev xA (d:Nat) (o:AOp):AIns:=⟨some d,o,none⟩
abbrev xZ (o:AOp):AIns:=⟨none,o,none⟩
abbrev xAT (d:Nat) (o:AOp) (t:Nat):AIns:=⟨some d,o,some (t,true)⟩
abbrev xAF (d:Nat) (o:AOp) (t:Nat):AIns:=⟨some d,o,some (t,false)⟩
abbrev xT:Opd:=.k (.c (.b (.d (.bool true))))
abbrev xU:Opd:=.k (.c (.b (.d (.bool false))))
abbrev xi (n:Int):Opd:=.k (.c (.b (.d (.int .i64 n))))
abbrev xs (s:ByteArray):Opd:=.k (.c (.b (.d (.str s))))
abbrev xa:C:=.b (.d (.str ⟨#[]⟩))
abbrev xb:C:=.b (.d (.bool false))
abbrev xc:C:=.b (.d (.int .i64 0))
abbrev xd:C:=.b (.d (.sl []))
abbrev xR (ops:List AIns) (keep:List Nat):ACode:=.region false ops keep
abbrev xG (ops:List AIns) (keep:List Nat):ACode:=.region true ops keep
abbrev LpEq (l b:ACode):Prop:=∀ {bd:Bd} {s:St} {β:Type} {k:AExit→St→Option β} {fns:Nat→Option AFun},K fns bd l s k=K fns bd b s (fun e s'=>match e with | .normal=>K fns bd l s' k | e=>k e s')
class Rec (α:Type) where
 k:Nat
 row:α→List D
 len:∀ a,(row a).length=k
def rows {α:Type} [Rec α] (l:List α):List (List D):=l.map Rec.row
instance:Rec Int:=⟨1,fun n=>[.int .i64 n],fun _=>rfl⟩
instance:Rec Bool:=⟨1,fun n=>[.bool n],fun _=>rfl⟩
instance:Rec ByteArray:=⟨1,fun n=>[.str n],fun _=>rfl⟩
theorem row_Int (x:Int):Rec.row x=[.int .i64 x]:=rfl
theorem row_Bool (x:Bool):Rec.row x=[.bool x]:=rfl
theorem row_Str (x:ByteArray):Rec.row x=[.str x]:=rfl
theorem k_Int:Rec.k Int=1:=rfl
theorem k_Bool:Rec.k Bool=1:=rfl
theorem k_Str:Rec.k ByteArray=1:=rfl
theorem snoc_Int (acc:List Int) (n:Int):rows acc ++ [[.int .i64 n]]=rows (acc ++ [n]):=by simp [rows,row_Int]
theorem snoc_Bool (acc:List Bool) (n:Bool):rows acc ++ [[.bool n]]=rows (acc ++ [n]):=by simp [rows,row_Bool]
theorem snoc_Str (acc:List ByteArray) (n:ByteArray):rows acc ++ [[.str n]]=rows (acc ++ [n]):=by simp [rows,row_Str]
abbrev vsl {α:Type} [Rec α] (l:List α):V:=.c (.b (.d (.sl (rows l))))
abbrev vint (n:Int):V:=.c (.b (.d (.int .i64 n)))
abbrev vbool (b:Bool):V:=.c (.b (.d (.bool b)))
abbrev vstr (b:ByteArray):V:=.c (.b (.d (.str b)))
def vagg {α:Type} [Rec α] (x:α):V:=.agg ((Rec.row x).map fun d=>.b (.d d))
def cellsOf {α:Type} [Rec α] (l:List α):List C:=(rows l).flatten.map fun d=>.b (.d d)
section
variable {α:Type} [Rec α]
theorem rs_len (l:List α):(rows l).length=l.length:=by simp [rows]
theorem rs_nil:rows ([]:List α)=[]:=rfl
theorem rs_cons (x:α) (l:List α):rows (x :: l)=Rec.row x :: rows l:=rfl
theorem rs_app (a b:List α):rows a ++ rows b=rows (a ++ b):=by simp [rows]
theorem rs_get? (l:List α) (i:Nat):(rows l)[i]?=(l[i]?).map Rec.row:=by simp [rows]
theorem rs_get {l:List α} {i:Nat} (h:i < l.length):(rows l)[i]?=some (Rec.row l[i]):=by simp [rows,h]
theorem rs_getE {l:List α} {i:Nat} (h:i < (rows l).length):(rows l)[i]=Rec.row (l[i]'(by rw [rs_len] at h;exact h)):=by simp [rows]
theorem rs_take (l:List α) (n:Nat):(rows l).take n=rows (l.take n):=by simp [rows,List.map_take]
theorem rs_drop (l:List α) (n:Nat):(rows l).drop n=rows (l.drop n):=by simp [rows,List.map_drop]
theorem rs_all {n:Nat} (h:Rec.k α=n) (l:List α):(rows l).all (fun r=>r.length == n)=true:=by
 subst h;simp [rows,Rec.len]
theorem rs_each {n:Nat} (h:Rec.k α=n) (l:List α):(∀ x,x ∈ rows l→x.length=n)=True:=by
 subst h
 refine eq_true fun x hx=>?_
 obtain ⟨a,_,rfl⟩:=List.mem_map.mp hx
 exact Rec.len a
theorem row_len {n:Nat} (h:Rec.k α=n) (a:α):(Rec.row a).length=n:=by rw [Rec.len,h]
end
theorem str_eq (a b:ByteArray):(a.toList == b.toList)=decide (a=b):=by
 by_cases h:a=b
 ·subst h;simp
 ·have:a.toList≠b.toList:=by
   intro h'
   apply h
   rw [ByteArray.toList_eq,ByteArray.toList_eq] at h'
   cases a;cases b;simp_all [Array.toList_inj]
  simp [h,this]
theorem str_nilP (a:ByteArray):(a.toList=[])=(a=⟨#[]⟩):=by
 apply propext
 constructor
 ·intro h
  rw [ByteArray.toList_eq] at h
  cases a with
  | mk d=>simp at h;subst h;rfl
 ·rintro rfl;rw [ByteArray.toList_eq]
theorem str_nilE (a:ByteArray):a.toList.isEmpty=decide (a=⟨#[]⟩):=by
 have h:=str_nilP a
 cases ha:a.toList with
 | nil=>rw [ha] at h;simp at h;simp [h]
 | cons x l=>rw [ha] at h;simp at h;simp [h]
theorem str_nilB (a:ByteArray):(a.toList == [])=decide (a=⟨#[]⟩):=by
 have:=str_eq a ⟨#[]⟩
 rwa [show (⟨#[]⟩:ByteArray).toList=[] from by rw [ByteArray.toList_eq]] at this
theorem beq_dec {α:Type} [DecidableEq α] (a b:α):(a == b)=decide (a=b):=by
 by_cases h:a=b<;>simp [h]
theorem beq_int (a b:Int):(a == b)=decide (a=b):=beq_dec a b
theorem bne_int (a b:Int):(a != b) = !decide (a=b):=by rw [bne,beq_dec]
theorem dec_eqN (a b:Nat):decide ((a:Int)=(b:Int))=decide (a=b):=by by_cases h:a=b<;>simp [h];omega
theorem dec_ltN (a b:Nat):decide ((a:Int) < (b:Int))=decide (a < b):=by by_cases h:a < b<;>simp [h]
theorem dec_leN (a b:Nat):decide ((a:Int)≤(b:Int))=decide (a≤b):=by by_cases h:a≤b<;>simp [h]
theorem put_nil (zs:List C):putAt zs 0 []=some zs:=by simp [putAt]
theorem put_zero (z c:C) (zs cs:List C):putAt (z :: zs) 0 (c :: cs)=(putAt zs 0 cs).map (c :: ·):=by
 by_cases h:cs.length≤zs.length<;>simp [putAt,h]
theorem put_succ (z c:C) (zs cs:List C) (n:Nat):putAt (z :: zs) (n+1) (c :: cs)=(putAt zs n (c :: cs)).map (z :: ·):=by
 have e:n+1+(cs.length+1)=n+(cs.length+1)+1:=by omega
 by_cases h:n+(cs.length+1)≤zs.length
 ·simp [putAt,h,e]
 ·simp [putAt,h,e]
theorem eqV_bool (a b:Bool) (ks:List Nat):eqV ks 0 (.c (.b (.d (.bool a)))) (.c (.b (.d (.bool b))))=some (a == b):=rfl
theorem eqV_agg (a b:List C) (ks:List Nat):eqV ks 2 (.agg a) (.agg b)=sames ks a b:=rfl
theorem eqV_pnn (ks:List Nat):eqV ks 1 (.c (.b .nilp)) (.c (.b .nilp))=some true:=rfl
theorem eqV_pnp (ks:List Nat) (l o:Nat):eqV ks 1 (.c (.b .nilp)) (.c (.b (.ptr l o)))=some false:=rfl
theorem eqV_ppn (ks:List Nat) (l o:Nat):eqV ks 1 (.c (.b (.ptr l o))) (.c (.b .nilp))=some false:=rfl
theorem eqV_mnn (ks:List Nat):eqV ks 3 (.c (.b .nilm)) (.c (.b .nilm))=some true:=rfl
theorem eqV_mmn (ks:List Nat) (l:Nat):eqV ks 3 (.c (.b (.map l))) (.c (.b .nilm))=some false:=rfl
theorem eqV_snn (ks:List Nat):eqV ks 4 (.c (.b .nils)) (.c (.b .nils))=some true:=rfl
theorem eqV_sen (ks:List Nat):eqV ks 4 (.c (.b .emp)) (.c (.b .nils))=some false:=rfl
theorem eqV_san (ks:List Nat) (k l o n:Nat):eqV ks 4 (.c (.b (.arr k l o n))) (.c (.b .nils))=some false:=rfl
theorem eqV_sdn (ks:List Nat) (r:List D) (rs:List (List D)):eqV ks 4 (.c (.b (.d (.sl (r :: rs))))) (.c (.b .nils))=some false:=rfl
structure GType where
 kind:Int
 name:ByteArray
 deriving DecidableEq,Inhabited
instance:Rec GType:=⟨2,fun x=>[.int .i64 x.kind,.str x.name],fun _=>rfl⟩
abbrev vType (x:GType):V:=.agg [.b (.d (.int .i64 x.kind)),.b (.d (.str x.name))]
theorem row_Type (x:GType):Rec.row x=[.int .i64 x.kind,.str x.name]:=rfl
theorem k_Type:Rec.k GType=2:=rfl
theorem snoc_Type (acc:List GType) (kind:Int) (name:ByteArray):rows acc ++ [[.int .i64 kind,.str name]]=rows (acc ++ [(⟨kind,name⟩:GType)]):=by simp [rows,row_Type]
theorem eta_Type (x:GType):(⟨x.kind,x.name⟩:GType)=x:=rfl
theorem sames_Type (kind kind':Int) (name name':ByteArray):sames [1,2] [.b (.d (.int .i64 kind)),.b (.d (.str name))] [.b (.d (.int .i64 kind')),.b (.d (.str name'))]=some (decide ((⟨kind,name⟩:GType)=(⟨kind',name'⟩:GType))):=by
 simp [sames,D.same,str_eq,beq_dec,Bool.decide_and,Bool.and_assoc]
structure GField where
 name:ByteArray
 type_:GType
 static_:Bool
 deriving DecidableEq,Inhabited
instance:Rec GField:=⟨4,fun x=>[.str x.name,.int .i64 x.type_.kind,.str x.type_.name,.bool x.static_],fun _=>rfl⟩
abbrev vField (x:GField):V:=.agg [.b (.d (.str x.name)),.b (.d (.int .i64 x.type_.kind)),.b (.d (.str x.type_.name)),.b (.d (.bool x.static_))]
theorem row_Field (x:GField):Rec.row x=[.str x.name,.int .i64 x.type_.kind,.str x.type_.name,.bool x.static_]:=rfl
theorem k_Field:Rec.k GField=4:=rfl
theorem snoc_Field (acc:List GField) (name:ByteArray) (type__kind:Int) (type__name:ByteArray) (static_:Bool):rows acc ++ [[.str name,.int .i64 type__kind,.str type__name,.bool static_]]=rows (acc ++ [(⟨name,(⟨type__kind,type__name⟩:GType),static_⟩:GField)]):=by simp [rows,row_Field]
theorem eta_Field (x:GField):(⟨x.name,x.type_,x.static_⟩:GField)=x:=rfl
theorem sames_Field (name name':ByteArray) (type__kind type__kind':Int) (type__name type__name':ByteArray) (static_ static_':Bool):sames [2,1,2,0] [.b (.d (.str name)),.b (.d (.int .i64 type__kind)),.b (.d (.str type__name)),.b (.d (.bool static_))] [.b (.d (.str name')),.b (.d (.int .i64 type__kind')),.b (.d (.str type__name')),.b (.d (.bool static_'))]=some (decide ((⟨name,(⟨type__kind,type__name⟩:GType),static_⟩:GField)=(⟨name',(⟨type__kind',type__name'⟩:GType),static_'⟩:GField))):=by
 simp [sames,D.same,str_eq,beq_dec,Bool.decide_and,Bool.and_assoc]
structure GInstr where
 op:Int
 n:Int
 a:ByteArray
 b:ByteArray
 deriving DecidableEq,Inhabited
instance:Rec GInstr:=⟨4,fun x=>[.int .i64 x.op,.int .i64 x.n,.str x.a,.str x.b],fun _=>rfl⟩
abbrev vInstr (x:GInstr):V:=.agg [.b (.d (.int .i64 x.op)),.b (.d (.int .i64 x.n)),.b (.d (.str x.a)),.b (.d (.str x.b))]
theorem row_Instr (x:GInstr):Rec.row x=[.int .i64 x.op,.int .i64 x.n,.str x.a,.str x.b]:=rfl
theorem k_Instr:Rec.k GInstr=4:=rfl
theorem snoc_Instr (acc:List GInstr) (op:Int) (n:Int) (a:ByteArray) (b:ByteArray):rows acc ++ [[.int .i64 op,.int .i64 n,.str a,.str b]]=rows (acc ++ [(⟨op,n,a,b⟩:GInstr)]):=by simp [rows,row_Instr]
theorem eta_Instr (x:GInstr):(⟨x.op,x.n,x.a,x.b⟩:GInstr)=x:=rfl
theorem sames_Instr (op op':Int) (n n':Int) (a a':ByteArray) (b b':ByteArray):sames [1,1,2,2] [.b (.d (.int .i64 op)),.b (.d (.int .i64 n)),.b (.d (.str a)),.b (.d (.str b))] [.b (.d (.int .i64 op')),.b (.d (.int .i64 n')),.b (.d (.str a')),.b (.d (.str b'))]=some (decide ((⟨op,n,a,b⟩:GInstr)=(⟨op',n',a',b'⟩:GInstr))):=by
 simp [sames,D.same,str_eq,beq_dec,Bool.decide_and,Bool.and_assoc]
structure GCatch where
 name:ByteArray
 from_:Int
 to:Int
 at_:Int
 deriving DecidableEq,Inhabited
instance:Rec GCatch:=⟨4,fun x=>[.str x.name,.int .i64 x.from_,.int .i64 x.to,.int .i64 x.at_],fun _=>rfl⟩
abbrev vCatch (x:GCatch):V:=.agg [.b (.d (.str x.name)),.b (.d (.int .i64 x.from_)),.b (.d (.int .i64 x.to)),.b (.d (.int .i64 x.at_))]
theorem row_Catch (x:GCatch):Rec.row x=[.str x.name,.int .i64 x.from_,.int .i64 x.to,.int .i64 x.at_]:=rfl
theorem k_Catch:Rec.k GCatch=4:=rfl
theorem snoc_Catch (acc:List GCatch) (name:ByteArray) (from_:Int) (to:Int) (at_:Int):rows acc ++ [[.str name,.int .i64 from_,.int .i64 to,.int .i64 at_]]=rows (acc ++ [(⟨name,from_,to,at_⟩:GCatch)]):=by simp [rows,row_Catch]
theorem eta_Catch (x:GCatch):(⟨x.name,x.from_,x.to,x.at_⟩:GCatch)=x:=rfl
theorem sames_Catch (name name':ByteArray) (from_ from_':Int) (to to':Int) (at_ at_':Int):sames [2,1,1,1] [.b (.d (.str name)),.b (.d (.int .i64 from_)),.b (.d (.int .i64 to)),.b (.d (.int .i64 at_))] [.b (.d (.str name')),.b (.d (.int .i64 from_')),.b (.d (.int .i64 to')),.b (.d (.int .i64 at_'))]=some (decide ((⟨name,from_,to,at_⟩:GCatch)=(⟨name',from_',to',at_'⟩:GCatch))):=by
 simp [sames,D.same,str_eq,beq_dec,Bool.decide_and,Bool.and_assoc]
structure GMethod where
 name:ByteArray
 static_:Bool
 abstract_:Bool
 params:List GType
 ret:GType
 locals:Int
 code:List GInstr
 catches:List GCatch
 deriving DecidableEq,Inhabited
instance:Rec GMethod:=⟨9,fun x=>[.str x.name,.bool x.static_,.bool x.abstract_,.sl (rows x.params),.int .i64 x.ret.kind,.str x.ret.name,.int .i64 x.locals,.sl (rows x.code),.sl (rows x.catches)],fun _=>rfl⟩
abbrev vMethod (x:GMethod):V:=.agg [.b (.d (.str x.name)),.b (.d (.bool x.static_)),.b (.d (.bool x.abstract_)),.b (.d (.sl (rows x.params))),.b (.d (.int .i64 x.ret.kind)),.b (.d (.str x.ret.name)),.b (.d (.int .i64 x.locals)),.b (.d (.sl (rows x.code))),.b (.d (.sl (rows x.catches)))]
theorem row_Method (x:GMethod):Rec.row x=[.str x.name,.bool x.static_,.bool x.abstract_,.sl (rows x.params),.int .i64 x.ret.kind,.str x.ret.name,.int .i64 x.locals,.sl (rows x.code),.sl (rows x.catches)]:=rfl
theorem k_Method:Rec.k GMethod=9:=rfl
theorem snoc_Method (acc:List GMethod) (name:ByteArray) (static_:Bool) (abstract_:Bool) (params:List GType) (ret_kind:Int) (ret_name:ByteArray) (locals:Int) (code:List GInstr) (catches:List GCatch):rows acc ++ [[.str name,.bool static_,.bool abstract_,.sl (rows params),.int .i64 ret_kind,.str ret_name,.int .i64 locals,.sl (rows code),.sl (rows catches)]]=rows (acc ++ [(⟨name,static_,abstract_,params,(⟨ret_kind,ret_name⟩:GType),locals,code,catches⟩:GMethod)]):=by simp [rows,row_Method]
structure GClass where
 name:ByteArray
 iface:Bool
 super:ByteArray
 ifaces:List ByteArray
 fields:List GField
 methods:List GMethod
 deriving DecidableEq,Inhabited
instance:Rec GClass:=⟨6,fun x=>[.str x.name,.bool x.iface,.str x.super,.sl (rows x.ifaces),.sl (rows x.fields),.sl (rows x.methods)],fun _=>rfl⟩
abbrev vClass (x:GClass):V:=.agg [.b (.d (.str x.name)),.b (.d (.bool x.iface)),.b (.d (.str x.super)),.b (.d (.sl (rows x.ifaces))),.b (.d (.sl (rows x.fields))),.b (.d (.sl (rows x.methods)))]
theorem row_Class (x:GClass):Rec.row x=[.str x.name,.bool x.iface,.str x.super,.sl (rows x.ifaces),.sl (rows x.fields),.sl (rows x.methods)]:=rfl
theorem k_Class:Rec.k GClass=6:=rfl
theorem snoc_Class (acc:List GClass) (name:ByteArray) (iface:Bool) (super:ByteArray) (ifaces:List ByteArray) (fields:List GField) (methods:List GMethod):rows acc ++ [[.str name,.bool iface,.str super,.sl (rows ifaces),.sl (rows fields),.sl (rows methods)]]=rows (acc ++ [(⟨name,iface,super,ifaces,fields,methods⟩:GClass)]):=by simp [rows,row_Class]
structure GProgram where
 classes:List GClass
 deriving DecidableEq,Inhabited
instance:Rec GProgram:=⟨1,fun x=>[.sl (rows x.classes)],fun _=>rfl⟩
abbrev vProgram (x:GProgram):V:=.agg [.b (.d (.sl (rows x.classes)))]
theorem row_Program (x:GProgram):Rec.row x=[.sl (rows x.classes)]:=rfl
theorem k_Program:Rec.k GProgram=1:=rfl
theorem snoc_Program (acc:List GProgram) (classes:List GClass):rows acc ++ [[.sl (rows classes)]]=rows (acc ++ [(⟨classes⟩:GProgram)]):=by simp [rows,row_Program]
structure GSlot where
 owner:ByteArray
 name:ByteArray
 type_:GType
 deriving DecidableEq,Inhabited
instance:Rec GSlot:=⟨4,fun x=>[.str x.owner,.str x.name,.int .i64 x.type_.kind,.str x.type_.name],fun _=>rfl⟩
abbrev vSlot (x:GSlot):V:=.agg [.b (.d (.str x.owner)),.b (.d (.str x.name)),.b (.d (.int .i64 x.type_.kind)),.b (.d (.str x.type_.name))]
theorem row_Slot (x:GSlot):Rec.row x=[.str x.owner,.str x.name,.int .i64 x.type_.kind,.str x.type_.name]:=rfl
theorem k_Slot:Rec.k GSlot=4:=rfl
theorem snoc_Slot (acc:List GSlot) (owner:ByteArray) (name:ByteArray) (type__kind:Int) (type__name:ByteArray):rows acc ++ [[.str owner,.str name,.int .i64 type__kind,.str type__name]]=rows (acc ++ [(⟨owner,name,(⟨type__kind,type__name⟩:GType)⟩:GSlot)]):=by simp [rows,row_Slot]
theorem eta_Slot (x:GSlot):(⟨x.owner,x.name,x.type_⟩:GSlot)=x:=rfl
theorem sames_Slot (owner owner':ByteArray) (name name':ByteArray) (type__kind type__kind':Int) (type__name type__name':ByteArray):sames [2,2,1,2] [.b (.d (.str owner)),.b (.d (.str name)),.b (.d (.int .i64 type__kind)),.b (.d (.str type__name))] [.b (.d (.str owner')),.b (.d (.str name')),.b (.d (.int .i64 type__kind')),.b (.d (.str type__name'))]=some (decide ((⟨owner,name,(⟨type__kind,type__name⟩:GType)⟩:GSlot)=(⟨owner',name',(⟨type__kind',type__name'⟩:GType)⟩:GSlot))):=by
 simp [sames,D.same,str_eq,beq_dec,Bool.decide_and,Bool.and_assoc]
structure GState where
 seen:Bool
 locals:List GType
 stack:List GType
 deriving DecidableEq,Inhabited
instance:Rec GState:=⟨3,fun x=>[.bool x.seen,.sl (rows x.locals),.sl (rows x.stack)],fun _=>rfl⟩
structure GVal where
 isRef:Bool
 n:Int
 deriving DecidableEq,Inhabited
instance:Rec GVal:=⟨2,fun x=>[.bool x.isRef,.int .i64 x.n],fun _=>rfl⟩
structure GObj where
 type_:GType
 slots:List GVal
 deriving DecidableEq,Inhabited
instance:Rec GObj:=⟨3,fun x=>[.int .i64 x.type_.kind,.str x.type_.name,.sl (rows x.slots)],fun _=>rfl⟩
structure GInput where
 args:List GVal
 heap:List GObj
 deriving DecidableEq,Inhabited
instance:Rec GInput:=⟨2,fun x=>[.sl (rows x.args),.sl (rows x.heap)],fun _=>rfl⟩
structure GFrame where
 class_:ByteArray
 method:ByteArray
 pc:Int
 locals:List GVal
 stack:List GVal
 deriving DecidableEq,Inhabited
instance:Rec GFrame:=⟨5,fun x=>[.str x.class_,.str x.method,.int .i64 x.pc,.sl (rows x.locals),.sl (rows x.stack)],fun _=>rfl⟩
structure GRun where
 heap:List GObj
 statics:List GVal
 frames:List GFrame
 how:Int
 value:GVal
 steps:Int
 deriving DecidableEq,Inhabited
instance:Rec GRun:=⟨7,fun x=>[.sl (rows x.heap),.sl (rows x.statics),.sl (rows x.frames),.int .i64 x.how,.bool x.value.isRef,.int .i64 x.value.n,.int .i64 x.steps],fun _=>rfl⟩
structure GWay where
 kind:Int
 n:Int
 type_:GType
 deriving DecidableEq,Inhabited
instance:Rec GWay:=⟨4,fun x=>[.int .i64 x.kind,.int .i64 x.n,.int .i64 x.type_.kind,.str x.type_.name],fun _=>rfl⟩
abbrev vWay (x:GWay):V:=.agg [.b (.d (.int .i64 x.kind)),.b (.d (.int .i64 x.n)),.b (.d (.int .i64 x.type_.kind)),.b (.d (.str x.type_.name))]
theorem row_Way (x:GWay):Rec.row x=[.int .i64 x.kind,.int .i64 x.n,.int .i64 x.type_.kind,.str x.type_.name]:=rfl
theorem k_Way:Rec.k GWay=4:=rfl
theorem snoc_Way (acc:List GWay) (kind:Int) (n:Int) (type__kind:Int) (type__name:ByteArray):rows acc ++ [[.int .i64 kind,.int .i64 n,.int .i64 type__kind,.str type__name]]=rows (acc ++ [(⟨kind,n,(⟨type__kind,type__name⟩:GType)⟩:GWay)]):=by simp [rows,row_Way]
theorem eta_Way (x:GWay):(⟨x.kind,x.n,x.type_⟩:GWay)=x:=rfl
theorem sames_Way (kind kind':Int) (n n':Int) (type__kind type__kind':Int) (type__name type__name':ByteArray):sames [1,1,1,2] [.b (.d (.int .i64 kind)),.b (.d (.int .i64 n)),.b (.d (.int .i64 type__kind)),.b (.d (.str type__name))] [.b (.d (.int .i64 kind')),.b (.d (.int .i64 n')),.b (.d (.int .i64 type__kind')),.b (.d (.str type__name'))]=some (decide ((⟨kind,n,(⟨type__kind,type__name⟩:GType)⟩:GWay)=(⟨kind',n',(⟨type__kind',type__name'⟩:GType)⟩:GWay))):=by
 simp [sames,D.same,str_eq,beq_dec,Bool.decide_and,Bool.and_assoc]
structure GTask where
 class_:ByteArray
 method:ByteArray
 look:ByteArray
 objects:Int
 len:Int
 steps:Int
 nodes:Int
 fuel:Int
 deriving DecidableEq,Inhabited
instance:Rec GTask:=⟨8,fun x=>[.str x.class_,.str x.method,.str x.look,.int .i64 x.objects,.int .i64 x.len,.int .i64 x.steps,.int .i64 x.nodes,.int .i64 x.fuel],fun _=>rfl⟩
theorem wrap_nat {x:Int} (h0 : -9223372036854775808≤x) (h1:x < 9223372036854775808):IntKind.i64.wrap x=x:=by
 simp [IntKind.wrap,IntKind.signed,IntKind.bits];omega
theorem wrap_succ {i:Nat} (h:i < 4611686018427387904):IntKind.i64.wrap ((i:Int)+1)=((i+1:Nat):Int):=by
 rw [wrap_nat (by omega) (by omega)];omega
section
variable {α β:Type}
theorem scan_eq {a b:List α} [DecidableEq α] {X:Nat→β} {r e:β} (hl:a.length=b.length) (h:∀ i (hi:i < a.length) (hj:i < b.length),X i=if a[i]=b[i] then X (i+1) else r) (he:X a.length=e):X 0=if a=b then e else r:=by
 have key:∀ n i,i+n=a.length→X i=if a.drop i=b.drop i then e else r:=by
  intro n
  induction n with
  | zero =>
   intro i hi
   have h1:i=a.length:=by omega
   subst h1
   rw [he,List.drop_eq_nil_of_le (by omega),List.drop_eq_nil_of_le (by omega)];simp
  | succ n ih =>
   intro i hi
   have hia:i < a.length:=by omega
   have hib:i < b.length:=by omega
   rw [h i hia hib,ih (i+1) (by omega),List.drop_eq_getElem_cons hia,List.drop_eq_getElem_cons hib]
   generalize a.drop (i+1)=A
   generalize b.drop (i+1)=B
   by_cases h1:a[i]=b[i]<;>by_cases h2:A=B<;>simp [h1,h2]
 simpa using key a.length 0 (by omega)
theorem scan_any {l:List α} {p:α→Bool} {X:Nat→β} {r e:β} (h:∀ i (hi:i < l.length),X i=if p l[i] then r else X (i+1)) (he:X l.length=e):X 0=if l.any p then r else e:=by
 have key:∀ n i,i+n=l.length→X i=if (l.drop i).any p then r else e:=by
  intro n
  induction n with
  | zero =>
   intro i hi
   have h1:i=l.length:=by omega
   subst h1
   rw [he];simp
  | succ n ih =>
   intro i hi
   have hia:i < l.length:=by omega
   rw [h i hia,ih (i+1) (by omega),List.drop_eq_getElem_cons hia]
   generalize l.drop (i+1)=A
   by_cases h1:p l[i]=true<;>simp [h1]
 simpa using key l.length 0 (by omega)
theorem scan_fold {γ:Type} {l:List α} {f:γ→α→γ} {I:Nat→γ→Prop} {X:Nat→γ→β} {e:γ→β} (h:∀ i c (hi:i < l.length),I i c→X i c=X (i+1) (f c l[i])∧I (i+1) (f c l[i])) (he:∀ c,I l.length c→X l.length c=e c) {c:γ} (hc:I 0 c):X 0 c=e (l.foldl f c):=by
 have key:∀ n i c,i+n=l.length→I i c→X i c=e ((l.drop i).foldl f c):=by
  intro n
  induction n with
  | zero =>
   intro i c hi hI
   have h1:i=l.length:=by omega
   subst h1
   rw [he c hI];simp
  | succ n ih =>
   intro i c hi hI
   have hia:i < l.length:=by omega
   obtain ⟨h1,h2⟩:=h i c hia hI
   rw [h1,ih (i+1) _ (by omega) h2,List.drop_eq_getElem_cons hia,List.foldl_cons]
 simpa using key l.length 0 c (by omega) hc
theorem scan_map {γ:Type} {l:List α} {f:α→γ} {X:Nat→List γ→β} {e:List γ→β} (h:∀ i c (hi:i < l.length),c=(l.take i).map f→X i c=X (i+1) (c ++ [f l[i]])) (he:∀ c,c=l.map f→X l.length c=e c):X 0 []=e (l.map f):=by
 have:=scan_fold (l:=l) (f:=fun c x=>c ++ [f x]) (I:=fun i c=>c=(l.take i).map f) (X:=X) (e:=e)
  (fun i c hi hc=>⟨h i c hi hc,by rw [hc,List.take_add_one,List.map_append];simp [hi]⟩) (fun c hc=>he c (by simpa using hc)) (c:=[]) (by simp)
 have e2:∀ (l:List α) (c:List γ),l.foldl (fun c x=>c ++ [f x]) c=c ++ l.map f:=by
  intro l
  induction l with
  | nil=>simp
  | cons x l ih=>intro c;simp [ih]
 rw [this,e2];simp
end
section
variable {α:Type} [Rec α]
end
open Go Go.RowKit Go.ChangeShapes Go.WideShapes
def Holds (st:Addr→Value→Prop) (ds:List D) (cs:List Value) (off:Nat):Prop:=∀ i d,ds[i]?=some d→∃ v,cs[off+i]?=some v∧RepD st d v
def Cells (w:World) (st:Addr→Value→Prop):Prop:=∀ ad v,w.cell? ad=some v→st ad v
section
variable {P:Program}
structure Opn (P:Program) (t:TypeId) (k:Nat) {β:Type} (f:β→List D):Prop where
 pos:0 < k
 size:P.cellsOf t=k
 len:∀ b,(f b).length=k
 get:∀ {H:Type} {enc:TypeId × Value→H} {w:World} {base:Nat} {spare:Nat→Bool} {held:Bool} {fuel:Nat} {cs:List Value} {x:DataW H × List MemPlace},DataW.trod enc P w base spare held fuel t cs=some x →
  ∃ b,cs.length=k∧∀ st,Cells w st→Holds st (f b) cs 0
def fieldsOf (P:Program) (t:TypeId):Option (List (TypeId × Nat)):=match P.underlying t with
 | some (.struct fs)=>some (fs.toList.map fun f=>(f.type,f.offset))
 | _=>none
theorem fieldsOf_some {P:Program} {t:TypeId} {l:List (TypeId × Nat)} (h:fieldsOf P t=some l):∃ fs:Array Field,P.underlying t=some (.struct fs)∧l=fs.toList.map fun f=>(f.type,f.offset):=by
 unfold fieldsOf at h
 split at h
 ·rename_i fs hu;cases h;exact ⟨fs,hu,rfl⟩
 ·cases h
structure OpnFs (P:Program) (fs:List (TypeId × Nat)) (off k:Nat) {β:Type} (f:β→List D):Prop where
 len:∀ b,(f b).length=k
 get:∀ {H:Type} {enc:TypeId × Value→H} {w:World} {base:Nat} {spare:Nat→Bool} {held:Bool} {n:Nat} {cs:List Value} {xs:List (DataW H × List MemPlace)},xs.length=fs.length→cs.length=off+k →
  (∀ (i:Nat) (g:TypeId × Nat),fs[i]?=some g→DataW.trod enc P w base spare held n g.1 ((cs.drop g.2).take (P.cellsOf g.1))=xs[i]?)→∃ b,∀ st,Cells w st→Holds st (f b) cs off
theorem Opn.map {t:TypeId} {k:Nat} {β γ:Type} {f:β→List D} {g:γ→List D} (h:Opn P t k f) (φ:β→γ) (e:∀ b,f b=g (φ b)) (hl:∀ c,(g c).length=k):Opn P t k g where
 pos:=h.pos
 size:=h.size
 len:=hl
 get hx:=by
  obtain ⟨b,h1,h2⟩:=h.get hx
  exact ⟨φ b,h1,fun st hst=>by rw [← e];exact h2 st hst⟩
theorem Opn.bool {t:TypeId} (ht:P.underlying t=some .bool) (hc:P.cellsOf t=1):Opn P t 1 (fun b:Bool=>[.bool b]) where
 pos:=by omega
 size:=hc
 len _:=rfl
 get hx:=by
  obtain ⟨b,rfl,_⟩:=DataW.trod_bool ht hx
  refine ⟨b,rfl,fun st _ i d hi=>?_⟩
  cases i with
  | zero=>cases hi;exact ⟨_,rfl,.bool b⟩
  | succ i=>simp at hi
theorem Opn.int {t:TypeId} (ht:P.underlying t=some (.int .i64)) (hc:P.cellsOf t=1):Opn P t 1 (fun n:Int=>[.int .i64 n]) where
 pos:=by omega
 size:=hc
 len _:=rfl
 get hx:=by
  obtain ⟨n,rfl,_⟩:=DataW.trod_int ht hx
  refine ⟨n,rfl,fun st _ i d hi=>?_⟩
  cases i with
  | zero=>cases hi;exact ⟨_,rfl,.int .i64 n⟩
  | succ i=>simp at hi
theorem Opn.str {t:TypeId} (ht:P.underlying t=some .string) (hc:P.cellsOf t=1):Opn P t 1 (fun s:ByteArray=>[.str s]) where
 pos:=by omega
 size:=hc
 len _:=rfl
 get hx:=by
  obtain ⟨s,rfl,_⟩:=DataW.trod_string ht hx
  refine ⟨s,rfl,fun st _ i d hi=>?_⟩
  cases i with
  | zero=>cases hi;exact ⟨_,rfl,.str s⟩
  | succ i=>simp at hi
theorem Opn.slice {t e:TypeId} {α:Type} [Rec α] [Inhabited α] (ht:P.underlying t=some (.slice e)) (hc:P.cellsOf t=1) (h:Opn P e (Rec.k α) (fun x:α=>Rec.row x)):Opn P t 1 (fun l:List α=>[.sl (rows l)]) where
 pos:=by omega
 size:=hc
 len _:=rfl
 get {H enc w base spare held fuel cs x} hx:=by
  rcases DataW.trod_slice ht hx with ⟨rfl,_⟩ | ⟨a,len,cap,elems,rest,n,_,rfl,_,hb,hl,hm,hlen,hel,_,_⟩
  ·refine ⟨[],rfl,fun st _ i d hi=>?_⟩
   cases i with
   | zero=>cases hi;exact ⟨_,rfl,.nil⟩
   | succ i=>simp at hi
  ·have each:∀ i,i < len→∃ (a':α) (cs':List Value),(w.cells? base (a.add (i * Rec.k α)) (Rec.k α))=some cs'∧cs'.length=Rec.k α∧∀ st,Cells w st→Holds st (Rec.row a') cs' 0:=by
    intro i hi
    have h1:=hel i hi
    rw [h.size] at h1
    obtain ⟨y,hy⟩:∃ y,elems[i]?=some y:=⟨elems[i],by simp [hlen,hi]⟩
    rw [hy] at h1
    obtain ⟨cs',h3,h4⟩:=Option.bind_eq_some_iff.mp h1
    obtain ⟨a',h5,h6⟩:=h.get h4
    exact ⟨a',cs',h3,h5,h6⟩
   have each':∀ i,∃ p:α × List Value,i < len→(w.cells? base (a.add (i * Rec.k α)) (Rec.k α))=some p.2∧p.2.length=Rec.k α∧∀ st,Cells w st→Holds st (Rec.row p.1) p.2 0:=by
    intro i
    by_cases hi:i < len
    ·obtain ⟨a',cs',h1⟩:=each i hi;exact ⟨(a',cs'),fun _=>h1⟩
    ·exact ⟨(default,[]),fun h=>absurd h hi⟩
   obtain ⟨f,hf⟩:=Classical.axiomOfChoice each'
   have hspot:0 < len→a.spot=none:=by
    intro h0
    obtain ⟨g1,g2,g3⟩:=hf 0 h0
    obtain ⟨_,_,g4⟩:=World.cells?_some g1
    have:=g4 0 h.pos
    obtain ⟨v,hv⟩:∃ v,(f 0).2[0]?=some v:=⟨(f 0).2[0]'(by have:=h.pos;omega),by simp⟩
    rw [hv] at this
    have:=World.cell?_spot this
    simpa [Addr.add] using this
   let l:List α:=(List.range len).map fun i=>(f i).1
   have hll:(rows l).length=len:=by rw [rs_len];simp [l]
   have hrow:∀ (i:Nat) (row:List D),(rows l)[i]?=some row→i < len∧row=Rec.row (f i).1:=by
    intro i row hi
    have hlt:i < len:=by have:=(List.getElem?_eq_some_iff.mp hi).1;omega
    refine ⟨hlt,?_⟩
    rw [rs_get?] at hi
    simp [l,hlt] at hi
    exact hi.symm
   refine ⟨l,rfl,fun st hst i d hi=>?_⟩
   cases i with
   | succ i=>simp at hi
   | zero =>
   cases hi
   refine ⟨_,rfl,?_⟩
   have key:∀ (i:Nat) (row:List D) (j:Nat) (d:D),(rows l)[i]?=some row→row[j]?=some d→st ⟨a.block,a.off+i * Rec.k α+j,none⟩ (((f i).2[j]?).getD (.bool false))∧RepD st d (((f i).2[j]?).getD (.bool false)):=by
    intro i row j d hi hj
    obtain ⟨hlt,rfl⟩:=hrow i row hi
    obtain ⟨g1,g2,g3⟩:=hf i hlt
    obtain ⟨v,hv,hr⟩:=g3 st hst j d hj
    rw [Nat.zero_add] at hv
    have hjk:j < Rec.k α:=by have:=(List.getElem?_eq_some_iff.mp hv).1;omega
    obtain ⟨_,_,g4⟩:=World.cells?_some g1
    have hc:=g4 j hjk
    rw [hv] at hc ⊢
    have hs:=hspot (by omega)
    obtain ⟨ab,ao,asp⟩:=a
    simp only at hs
    subst hs
    rw [add_plain,add_plain] at hc
    exact ⟨hst _ _ hc,hr⟩
   have:=RepD.sl (st:=st) (rows l) a (Rec.k α) cap (fun i j=>((f i).2[j]?).getD (.bool false)) (fun hne=>hspot (by
     have:rows l≠[]:=hne
     have:=List.length_pos_iff.mpr this
     omega)) (by omega) (fun r hr=>by
     obtain ⟨x,_,rfl⟩:=List.mem_map.mp hr
     exact Rec.len x) (fun i row j d hi hj=>(key i row j d hi hj).1) (fun i row j d hi hj=>(key i row j d hi hj).2)
   rw [hll] at this
   exact this
theorem OpnFs.nil {off:Nat}:OpnFs P [] off 0 (fun _:Unit=>[]) where
 len _:=rfl
 get _ _ _:=⟨(),fun st _ i d hi=>by simp at hi⟩
theorem OpnFs.cons {t:TypeId} {fs:List (TypeId × Nat)} {off k1 k2:Nat} {β γ:Type} {f:β→List D} {g:γ→List D} (h1:Opn P t k1 f) (h2:OpnFs P fs (off+k1) k2 g):OpnFs P ((t,off) :: fs) off (k1+k2) (fun b:β × γ=>f b.1 ++ g b.2) where
 len b:=by simp [h1.len,h2.len]
 get {H enc w base spare held n cs xs} hl hcs hx:=by
  cases xs with
  | nil=>simp at hl
  | cons x xs =>
   have h0:=hx 0 (t,off) rfl
   simp only [List.getElem?_cons_zero] at h0
   obtain ⟨b,b1,b2⟩:=h1.get h0
   obtain ⟨c,c2⟩:=h2.get (cs:=cs) (xs:=xs) (by simpa using hl) (by omega) (fun i g hg=>by
    have:=hx (i+1) g (by simpa using hg)
    simpa using this)
   refine ⟨(b,c),fun st hst i d hi=>?_⟩
   by_cases hi1:i < k1
   ·rw [List.getElem?_append_left (by rw [h1.len];exact hi1)] at hi
    obtain ⟨v,hv,hr⟩:=b2 st hst i d hi
    refine ⟨v,?_,hr⟩
    rw [Nat.zero_add,List.getElem?_take,h1.size,if_pos hi1,List.getElem?_drop] at hv
    exact hv
   ·rw [List.getElem?_append_right (by rw [h1.len];omega),h1.len] at hi
    obtain ⟨v,hv,hr⟩:=c2 st hst _ d hi
    refine ⟨v,?_,hr⟩
    rw [show off+i=off+k1+(i - k1) by omega]
    exact hv
theorem Opn.struct {t:TypeId} {fs:List (TypeId × Nat)} {k:Nat} {β:Type} {f:β→List D} (ht:fieldsOf P t=some fs) (hc:P.cellsOf t=k) (hp:0 < k) (h:OpnFs P fs 0 k f):Opn P t k f where
 pos:=hp
 size:=hc
 len:=h.len
 get {H enc w base spare held fuel cs x} hx:=by
  obtain ⟨gs,hu,rfl⟩:=fieldsOf_some ht
  obtain ⟨xs,n,_,_,h1,h2,h3⟩:=DataW.trod_struct hu hx
  obtain ⟨b,hb⟩:=h.get (xs:=xs) (cs:=cs) (by simpa using h2) (by omega) (fun i g hg=>by
   rw [List.getElem?_map,Option.map_eq_some_iff] at hg
   obtain ⟨g0,hg0,rfl⟩:=hg
   exact h3 i g0 (by simpa using hg0))
  exact ⟨b,by omega,hb⟩
end
theorem g0_cells (w:World):Cells w ((g0 w).st w):=by
 intro ad v h
 refine ⟨World.cell?_spot h,?_,.inl ?_⟩
 ·exact h
 ·have:ad.block < w.heap.size:=Classical.byContradiction fun hlt=>by
   have e:w.heap[ad.block]?=none:=by simp;omega
   simp [World.cell?,e] at h
  simp [g0,this]
theorem trodAll_stays {H:Type} {enc:TypeId × Value→H} {P:Program} (hl:laidOutB P=true) {W W':World} (hb:Below W.heap.size W W'):∀ {ts:List TypeId} {vs:List Value} {ds:List (DataW H)} {ps:List MemPlace},
  ts.all (fun t=>P.readableRec t && decide (t < P.types.size))=true→DataW.TrodAll enc P W 0 (fun _=>true) true ts vs ds ps→DataW.TrodAll enc P W' 0 (fun b=>decide (b < W.heap.size)) true ts vs ds ps
 | [],vs,ds,ps,_,h=>by
  obtain ⟨rfl,rfl,rfl⟩:=trodAll_nil h
  exact trodAll_mk0
 | t :: ts,vs,ds,ps,ht,h=>by
  have hlt:=DataW.TrodAll.lt h
  obtain ⟨v,vs',d,ds',p,q,rfl,rfl,rfl,h1,h2⟩:=trodAll_cons h
  simp only [List.all_cons,Bool.and_eq_true,decide_eq_true_eq] at ht
  exact trodAll_cons_mk (Below.trod hl ht.1.1 ht.1.2 h1 hb (fun x hx=>hlt x (by simp [hx]))) (trodAll_stays hl hb ht.2 h2)
section
variable {P:Program} {H:Type} {enc:TypeId × Value→H} {W:World}
theorem arg_agg {t:TypeId} {fs:List (TypeId × Nat)} {α:Type} [Rec α] {base:Nat} {v:Value} {d:DataW H} {ps:List MemPlace} (ht:fieldsOf P t=some fs) (h:Opn P t (Rec.k α) (fun x:α=>Rec.row x))
  (hval:Value.okWide P W .any base t v) (hd:DataW.Trod enc P W 0 (fun _=>true) true t v d ps):∃ x:α,∀ r,RepV (g0 W) W (Old W) r (vagg x) v:=by
 obtain ⟨gs,hu,rfl⟩:=fieldsOf_some ht
 obtain ⟨arr,rfl,hsz⟩:=okWide_struct hu hval
 obtain ⟨fuel,hf⟩:=hd
 obtain ⟨x,h1,h2⟩:=h.get hf
 simp only [Value.cells] at h1 h2
 refine ⟨x,fun r=>⟨arr,rfl,by simp only [List.length_map,Rec.len];simpa using h1,fun i c hi=>?_⟩⟩
 rw [List.getElem?_map,Option.map_eq_some_iff] at hi
 obtain ⟨d0,hd0,rfl⟩:=hi
 obtain ⟨u,hu,hr⟩:=h2 _ (g0_cells W) i d0 hd0
 rw [Nat.zero_add] at hu
 exact ⟨u,by simpa using hu,RepD.scalar hr,hr⟩
theorem arg_one {t:TypeId} {β:Type} {f:β→D} {v:Value} {d:DataW H} {ps:List MemPlace} (h:Opn P t 1 (fun b=>[f b])) (h1:v.oneCell'=true) (hd:DataW.Trod enc P W 0 (fun _=>true) true t v d ps) :
  ∃ b,∀ r,RepV (g0 W) W (Old W) r (.c (.b (.d (f b)))) v:=by
 obtain ⟨fuel,hf⟩:=hd
 obtain ⟨b,_,h2⟩:=h.get hf
 obtain ⟨u,hu,hr⟩:=h2 _ (g0_cells W) 0 _ rfl
 rw [one_cells h1] at hu
 simp at hu
 subst hu
 exact ⟨b,fun r=>hr⟩
theorem arg_int {t:TypeId} {base:Nat} {v:Value} {d:DataW H} {ps:List MemPlace} (ht:P.underlying t=some (.int .i64)) (hc:P.cellsOf t=1) (hval:Value.okWide P W .any base t v) (hd:DataW.Trod enc P W 0 (fun _=>true) true t v d ps) :
  ∃ n:Int,∀ r,RepV (g0 W) W (Old W) r (vint n) v:=by
 obtain ⟨n,rfl⟩:=okWide_int ht hval
 exact arg_one (Opn.int ht hc) rfl hd
theorem arg_bool {t:TypeId} {base:Nat} {v:Value} {d:DataW H} {ps:List MemPlace} (ht:P.underlying t=some .bool) (hc:P.cellsOf t=1) (hval:Value.okWide P W .any base t v) (hd:DataW.Trod enc P W 0 (fun _=>true) true t v d ps) :
  ∃ n:Bool,∀ r,RepV (g0 W) W (Old W) r (vbool n) v:=by
 obtain ⟨n,rfl⟩:=okWide_bool ht hval
 exact arg_one (Opn.bool ht hc) rfl hd
theorem arg_str {t:TypeId} {base:Nat} {v:Value} {d:DataW H} {ps:List MemPlace} (ht:P.underlying t=some .string) (hc:P.cellsOf t=1) (hval:Value.okWide P W .any base t v) (hd:DataW.Trod enc P W 0 (fun _=>true) true t v d ps) :
  ∃ n:ByteArray,∀ r,RepV (g0 W) W (Old W) r (vstr n) v:=by
 obtain ⟨n,rfl⟩:=okWide_string ht hval
 exact arg_one (Opn.str ht hc) rfl hd
theorem arg_sl {t e:TypeId} {α:Type} [Rec α] [Inhabited α] {base:Nat} {v:Value} {d:DataW H} {ps:List MemPlace} (ht:P.underlying t=some (.slice e)) (hc:P.cellsOf t=1) (h:Opn P e (Rec.k α) (fun x:α=>Rec.row x)) (hval:Value.okWide P W .any base t v) (hd:DataW.Trod enc P W 0 (fun _=>true) true t v d ps) :
  ∃ l:List α,∀ r,RepV (g0 W) W (Old W) r (vsl l) v:=by
 obtain ⟨a,len,cap,rfl⟩:=okWide_slice ht hval
 exact arg_one (Opn.slice ht hc h) rfl hd
theorem args_of {xs:List V} {vs:Array Value} (hl:vs.size=xs.length) (h:∀ (i:Nat) (x:V) (v:Value),xs[i]?=some x→vs[i]?=some v→x.down=x∧∀ r,RepV (g0 W) W (Old W) r x v):Args (g0 W) W (Old W) xs vs:=by
 refine ⟨hl,fun i x hi=>?_⟩
 have hlt:i < vs.size:=by have:=(List.getElem?_eq_some_iff.mp hi).1;omega
 obtain ⟨h1,h2⟩:=h i x vs[i] hi (by simp [hlt])
 exact ⟨h1,vs[i],by simp [hlt],h2 _⟩
end
end Go.Proofs.YteeofkbhopioiaaGreatDoor.Am
