/- Lemmas that the rows' proofs rest on; each states its own conditions. -/
import Derived.Test.YteeofkbhopioiaaGreatDoorMachC
import Derived.Test.YteeofkbhopioiaaGreatDoorMachD
set_option linter.unusedSimpArgs false
set_option linter.unusedVariables false
set_option linter.unusedSectionVars false
namespace Go.Proofs.YteeofkbhopioiaaGreatDoor.Am
open Go
def Low (n:Nat) (σ:List Ob):Prop:=n≤σ.length∧∀ (l:Nat) (o:Ob),l < n→σ[l]?=some o→o.closed n=true
def LowF (F:Oracle):Prop:=∀ f args σ lo tr v σ',F f args σ lo tr=some (v,σ')→∀ m,m≤tr→Low m σ→Low m σ'∧σ.length≤σ'.length
theorem plain_closed {n:Nat} {c:C} (h:c.plain=true):c.closed n=true:=by
 cases c with
 | b x=>cases x<;>simp_all [C.plain,C.closed,B.closed]
 | _=>simp_all [C.plain]
theorem findKey_mem {ks:List Nat} {key:V}:∀ {es:List (V × V)} {i j:Nat} {v:V},findKey ks key es i=some (some (j,v))→∃ e ∈ es,e.2=v
 | [],i,j,v,h=>by simp [findKey] at h
 | (k,u) :: es,i,j,v,h=>by
  simp only [findKey] at h
  split at h
  ·cases h;exact ⟨(k,_),List.mem_cons_self,rfl⟩
  ·obtain ⟨e,h1,h2⟩:=findKey_mem h
   exact ⟨e,List.mem_cons_of_mem _ h1,h2⟩
  ·cases h
theorem down_closed {n:Nat} {c:C} (h:c.closed n=true):c.down.closed n=true:=by cases c<;>simp_all [C.down,C.closed,B.closed]
theorem Low.push {n:Nat} {σ:List Ob} (h:Low n σ) (o:Ob):Low n (σ ++ [o])∧σ.length≤(σ ++ [o]).length:=by
 refine ⟨⟨by have:=h.1;simp;omega,fun l x hl hx=>?_⟩,by simp⟩
 rw [List.getElem?_append_left (by have:=h.1;omega)] at hx
 exact h.2 l x hl hx
theorem Low.set {n:Nat} {σ:List Ob} (h:Low n σ) {l:Nat} {o:Ob} (ho:l < n→o.closed n=true):Low n (σ.set l o)∧σ.length≤(σ.set l o).length:=by
 refine ⟨⟨by simpa using h.1,fun m x hm hx=>?_⟩,by simp⟩
 rw [List.getElem?_set] at hx
 split at hx
 ·subst_vars
  split at hx
  ·cases hx;exact ho hm
  ·cases hx
 ·exact h.2 m x hm hx
theorem Low.refl {n:Nat} {σ:List Ob} (h:Low n σ):Low n σ∧σ.length≤σ.length:=⟨h,Nat.le_refl _⟩
theorem getCells_some {σ:List Ob} {l:Nat} {cs:List C} (h:getCells σ l=some cs):σ[l]?=some (.cells cs):=by
 unfold getCells at h
 split at h
 ·rename_i h';cases h;exact h'
 ·cases h
theorem mayWrite_low {bd:Bd} {l:Nat} {cs:List C} (h:mayWrite bd l cs=true) (hl:l < bd.tr):∀ c ∈ cs,c.plain=true:=by
 simp only [mayWrite,Bool.and_eq_true,Bool.or_eq_true,decide_eq_true_eq,List.all_eq_true] at h
 rcases h.2 with h | h
 ·omega
 ·exact h
theorem cells_closed {n:Nat} {v:V} {cs:List C} (hc:v.cells=some cs) (h:∀ c ∈ cs,c.closed n=true):v.closed1 n=true:=by
 cases v with
 | c x =>
  have:cs=[x]:=by
   cases x with
   | b y=>cases y<;>simp_all [V.cells]
   | _=>simp_all [V.cells]
  subst this
  simpa [V.closed1] using h x
 | agg ys =>
  simp only [V.cells,Option.some.injEq] at hc
  subst hc
  simpa [V.closed1,List.all_eq_true] using h
 | tup vs=>simp [V.cells] at hc
theorem took_σ (s:St) (x:Opd):(s.took x).σ=s.σ:=by cases x<;>rfl
theorem step_low {F:Oracle} {bd:Bd} (hF:LowF F) {m:Nat} (hm:m≤bd.tr) {s s':St} {op:AOp} {v:V} (h:stepOp F bd s op=some (v,s')) (hl:Low m s.σ):Low m s'.σ∧s.σ.length≤s'.σ.length:=by
 cases op with
 | mov md x =>
  cases md<;>simp only [stepOp] at h
  ·cases h;exact hl.refl
  ·cases h;rw [took_σ];exact hl.refl
  ·repeat' split at h
   all_goals cases h
   ·exact hl.set (fun _=>rfl)
   ·exact hl.refl
   ·exact hl.refl
  ·repeat' split at h
   all_goals cases h
   all_goals exact hl.refl
 | pick c a b =>
  simp only [stepOp] at h
  split at h
  ·cases h;exact hl.refl
  ·cases h
 | alloc zs=>simp only [stepOp] at h;cases h;exact hl.push _
 | box x =>
  simp only [stepOp] at h
  split at h
  ·cases h;exact hl.push _
  ·cases h
 | build zs ps =>
  simp only [stepOp] at h
  split at h
  ·cases h;exact hl.refl
  ·cases h
 | bsl md k n zs ps =>
  simp only [stepOp] at h
  split at h
  case h_2=>cases h
  cases md<;>simp only at h
  ·cases h
  ·split at h
   ·cases h;exact hl.refl
   ·cases h
  ·cases h
  ·cases h;exact hl.push _
 | ld md n x =>
  cases md
  ·simp only [stepOp] at h
   split at h
   ·split at h
    case h_2=>cases h
    cases n<;>simp only at h
    ·split at h
     ·cases h;exact hl.refl
     ·cases h
    ·split at h
     ·cases h;exact hl.refl
     ·cases h
   ·cases n<;>simp only at h
    ·split at h
     ·cases h;exact hl.refl
     ·cases h
    ·split at h
     ·cases h;exact hl.refl
     ·cases h
   ·cases h
  ·cases n<;>simp only [stepOp] at h
   ·split at h
    case h_2=>cases h
    rename_i l off hr
    split at h
    case h_2=>cases h
    rename_i cs hcs
    split at h
    case h_2=>cases h
    rename_i c hc
    split at h
    case isFalse=>cases h
    cases h
    refine hl.set (fun hlt=>?_)
    have h0:=hl.2 _ _ hlt (getCells_some hcs)
    simp only [Ob.closed,List.all_eq_true] at h0 ⊢
    intro x hx
    rcases List.mem_or_eq_of_mem_set hx with hx | rfl
    ·exact h0 x hx
    ·exact down_closed (h0 _ (List.mem_of_getElem? hc))
   ·split at h
    case h_2=>cases h
    split at h
    case h_2=>cases h
    rename_i cs hcs
    split at h
    case isFalse=>cases h
    cases h
    refine hl.set (fun hlt=>?_)
    have h0:=hl.2 _ _ hlt (getCells_some hcs)
    simp only [Ob.closed,List.all_eq_true] at h0 ⊢
    intro x hx
    obtain ⟨c,hc,rfl⟩:=List.mem_map.mp hx
    exact down_closed (h0 _ hc)
  ·cases n with
   | some n =>
    simp only [stepOp] at h
    split at h
    case h_2=>cases h
    split at h
    case h_2=>cases h
    split at h
    case h_2=>cases h
    split at h
    case isFalse=>cases h
    cases h
    have hk:∀ L,Low m (killAll L s.σ):=fun L=>⟨by rw [killAll_len];exact hl.1,fun l o hlt ho=>by
     rw [killAll_get] at ho
     split at ho
     ·cases ho;rfl
     ·exact hl.2 l o hlt ho⟩
    exact ⟨(Low.set (hk _) (fun _=>by simp [Ob.closed,C.closed,B.closed])).1,by rw [List.length_set,killAll_len];exact Nat.le_refl _⟩
   | none =>
    simp only [stepOp] at h
    split at h
    case h_2=>cases h
    split at h
    case h_2=>cases h
    split at h
    case h_2=>cases h
    split at h
    case h_2=>cases h
    split at h
    case isFalse=>cases h
    cases h
    refine ⟨⟨by rw [killAll_len];exact hl.1,fun l o hlt ho=>?_⟩,by rw [killAll_len];exact Nat.le_refl _⟩
    rw [killAll_get] at ho
    split at ho
    ·cases ho;rfl
    ·exact hl.2 l o hlt ho
  ·simp only [stepOp] at h
   repeat' split at h
   all_goals cases h
   all_goals exact hl.refl
 | st n a x =>
  simp only [stepOp] at h
  split at h
  case h_2=>cases h
  split at h
  case isFalse=>cases h
  split at h
  case h_2=>cases h
  rename_i zs hzs
  split at h
  case h_2=>cases h
  rename_i zs' hput
  split at h
  case isFalse=>cases h
  rename_i hw
  cases h
  refine hl.set (fun hlt=>?_)
  have h0:=hl.2 _ _ hlt (getCells_some hzs)
  have h1:=mayWrite_low hw (by omega)
  simp only [Ob.closed,List.all_eq_true] at h0 ⊢
  unfold putAt at hput
  split at hput
  case isFalse=>cases hput
  cases hput
  intro c hc
  rcases List.mem_append.mp hc with hc | hc
  ·rcases List.mem_append.mp hc with hc | hc
   ·exact h0 c (List.mem_of_mem_take hc)
   ·exact plain_closed (h1 c hc)
  ·exact h0 c (List.mem_of_mem_drop hc)
 | bin op x y=>simp only [stepOp] at h;split at h<;>cases h;exact hl.refl
 | eq neg kd ks x y=>simp only [stepOp] at h;split at h<;>cases h;exact hl.refl
 | un op x=>simp only [stepOp] at h;split at h<;>cases h;exact hl.refl
 | conv k x=>simp only [stepOp] at h;split at h<;>cases h;exact hl.refl
 | fa off x=>simp only [stepOp] at h;split at h<;>cases h<;>exact hl.refl
 | fld off n x =>
  simp only [stepOp] at h
  split at h
  case h_2=>cases h
  cases n<;>simp only at h<;>split at h<;>cases h<;>exact hl.refl
 | ia k x i =>
  simp only [stepOp] at h
  split at h
  case h_2=>cases h
  split at h
  case isFalse=>cases h
  split at h
  ·split at h
   case h_2=>cases h
   split at h<;>cases h
   exact hl.refl
  ·split at h<;>cases h
   exact hl.refl
  ·cases h
 | ixs x i =>
  simp only [stepOp] at h
  split at h
  case h_2=>cases h
  split at h
  case isFalse=>cases h
  split at h<;>cases h
  exact hl.refl
 | slc md k x lo hi =>
  simp only [stepOp] at h
  split at h
  case h_2=>cases h
  split at h
  case isFalse=>cases h
  cases md<;>simp only at h
  ·split at h
   ·split at h
    case h_2=>cases h
    split at h<;>cases h
    exact hl.refl
   ·split at h
    case h_2=>cases h
    split at h<;>cases h
    exact hl.refl
   ·cases h
  ·split at h
   case h_2=>cases h
   split at h<;>cases h
   rw [took_σ];exact hl.refl
  ·cases h
  ·cases h
 | slcs x lo hi =>
  simp only [stepOp] at h
  split at h
  case h_2=>cases h
  split at h
  case h_2=>cases h
  split at h<;>cases h
  exact hl.refl
 | mks md k bytes zs len cap =>
  simp only [stepOp] at h
  split at h
  case h_2=>cases h
  split at h
  case isFalse=>cases h
  cases md<;>simp only at h
  ·cases h
  ·split at h<;>cases h
   exact hl.refl
  ·cases h
  ·cases h;exact hl.push _
 | exd i x =>
  simp only [stepOp] at h
  repeat' split at h
  all_goals cases h
  exact hl.refl
 | ext i x =>
  simp only [stepOp] at h
  split at h
  case h_2=>cases h
  split at h
  case h_2=>cases h
  cases x<;>simp only at h
  ·cases h;exact hl.refl
  ·cases h
 | len kd x =>
  simp only [stepOp] at h
  repeat' split at h
  all_goals cases h
  all_goals exact hl.refl
 | app k bytes x y =>
  simp only [stepOp] at h
  split at h
  case h_2=>cases h
  split at h
  case isFalse=>cases h
  split at h
  case h_2=>cases h
  split at h<;>cases h
  rw [took_σ];exact hl.refl
 | call f args =>
  simp only [stepOp] at h
  split at h
  case h_2=>cases h
  rename_i hf
  cases h
  exact hF _ _ _ _ _ _ _ hf _ hm hl
 | callp f args =>
  simp only [stepOp] at h
  split at h
  case h_2=>cases h
  rename_i hf
  split at h
  ·cases h;exact hF _ _ _ _ _ _ _ hf _ (by omega) hl
  ·cases h
 | callb f args =>
  simp only [stepOp] at h
  repeat' split at h
  all_goals cases h
  exact hl.refl
 | bad=>simp [stepOp] at h
 | appa k bytes x y =>
  simp only [stepOp] at h
  repeat' split at h
  all_goals cases h
  ·exact hl.refl
  ·exact hl.push _
  ·obtain ⟨h1,h2⟩:=hl.set (l:=_) (o:=Ob.dead) (fun _=>rfl)
   obtain ⟨h3,h4⟩:=h1.push (Ob.cells _)
   exact ⟨h3,Nat.le_trans h2 h4⟩
 | appl k bytes x y rs =>
  have h:=appl_appa h
  simp only [stepOp] at h
  repeat' split at h
  all_goals cases h
  ·exact hl.refl
  ·exact hl.push _
  ·obtain ⟨h1,h2⟩:=hl.set (l:=_) (o:=Ob.dead) (fun _=>rfl)
   obtain ⟨h3,h4⟩:=h1.push (Ob.cells _)
   exact ⟨h3,Nat.le_trans h2 h4⟩
 | ldn n x u =>
  simp only [stepOp] at h
  repeat' split at h
  all_goals cases h
  all_goals exact hl.refl
 | clr k zs x =>
  simp only [stepOp] at h
  split at h
  case h_2=>cases h
  split at h
  case h_2=>cases h
  rename_i zs hzs
  split at h
  case h_2=>cases h
  rename_i zs' hput
  split at h
  case isFalse=>cases h
  rename_i hc
  cases h
  refine hl.set (fun hlt=>?_)
  have hpl:=mayWrite_low hc.2.1
  simp only [Ob.closed,List.all_eq_true]
  intro c hc'
  obtain ⟨i,hi,rfl⟩:=List.mem_iff_getElem.mp hc'
  rcases (putAt_get hput).2.2 i zs'[i] (by simp [hi]) with ⟨_,r⟩ | ⟨_,r⟩
  ·exact plain_closed (hpl (by omega) _ (List.mem_of_getElem? r))
  ·have:=hl.2 _ _ hlt (getCells_some hzs)
   simp only [Ob.closed,List.all_eq_true] at this
   exact this _ (List.mem_of_getElem? r)
 | cpy k x y =>
  simp only [stepOp] at h
  split at h
  case h_2=>cases h
  rename_i n ys hys
  split at h
  case h_2=>cases h
  split at h
  case h_2=>cases h
  rename_i zs hzs
  split at h
  case h_2=>cases h
  rename_i zs' hput
  split at h
  case isFalse=>cases h
  rename_i hc
  cases h
  refine hl.set (fun hlt=>?_)
  have hpl:=mayWrite_low hc.2
  simp only [Ob.closed,List.all_eq_true]
  intro c hc'
  obtain ⟨i,hi,rfl⟩:=List.mem_iff_getElem.mp hc'
  rcases (putAt_get hput).2.2 i zs'[i] (by simp [hi]) with ⟨_,r⟩ | ⟨_,r⟩
  ·exact plain_closed (hpl (by omega) _ (List.mem_of_getElem? r))
  ·have:=hl.2 _ _ hlt (getCells_some hzs)
   simp only [Ob.closed,List.all_eq_true] at this
   exact this _ (List.mem_of_getElem? r)
 | mm mx x y =>
  simp only [stepOp] at h
  repeat' split at h
  all_goals cases h
  all_goals exact hl.refl
 | callv x args =>
  simp only [stepOp] at h
  split at h
  case h_2=>cases h
  split at h
  case h_2=>cases h
  rename_i hf
  cases h
  exact hF _ _ _ _ _ _ _ hf _ hm hl
 | mkf f fst cap=>simp only [stepOp] at h;split at h<;>cases h;exact hl.refl
 | mkm=>simp only [stepOp] at h;cases h;exact hl.push _
 | stl n x y rs =>
  have h:=stl_st h
  simp only [stepOp] at h
  split at h
  case h_2=>cases h
  rename_i l off cs hr hcs
  split at h
  case isFalse=>cases h
  split at h
  case h_2=>cases h
  rename_i zs hzs
  split at h
  case h_2=>cases h
  rename_i zs' hput
  split at h
  case isFalse=>cases h
  rename_i hw
  cases h
  simp only [took_σ]
  refine hl.set (fun hlt=>?_)
  have hpl:=mayWrite_low hw
  simp only [Ob.closed,List.all_eq_true]
  intro c hc'
  obtain ⟨i,hi,rfl⟩:=List.mem_iff_getElem.mp hc'
  rcases (putAt_get hput).2.2 i zs'[i] (by simp [hi]) with ⟨_,r⟩ | ⟨_,r⟩
  ·exact plain_closed (hpl (by omega) _ (List.mem_of_getElem? r))
  ·have:=hl.2 _ _ hlt (getCells_some hzs)
   simp only [Ob.closed,List.all_eq_true] at this
   exact this _ (List.mem_of_getElem? r)
 | appn k bytes x y =>
  simp only [stepOp] at h
  repeat' split at h
  all_goals cases h
  exact hl.refl
 | nilc x =>
  simp only [stepOp] at h
  split at h<;>cases h<;>exact hl.refl
 | ga g k x =>
  simp only [stepOp] at h
  repeat' split at h
  all_goals cases h
  exact hl.refl
 | lkp ks zs ok x key =>
  simp only [stepOp] at h
  split at h
  case h_2=>cases h
  split at h
  case isFalse=>cases h
  split at h
  case h_2=>cases h
  cases h
  exact hl.refl
 | lko ks k x key =>
  simp only [stepOp] at h
  split at h
  case h_2=>cases h
  split at h
  case h_2=>cases h
  rename_i l _ es hes
  split at h
  case isFalse=>cases h
  split at h
  ·split at h
   case h_2=>cases h
   rename_i e he
   split at h
   case h_2=>cases h
   rename_i c hc
   cases h
   refine hl.set (fun hlt=>?_)
   have h0:=hl.2 _ _ hlt hes
   simp only [Ob.closed,List.all_eq_true,Bool.and_eq_true] at h0 ⊢
   intro x hx
   rcases List.mem_or_eq_of_mem_set hx with hx | rfl
   ·exact h0 x hx
   ·have h1:=h0 e (List.mem_of_getElem? he)
    rw [hc] at h1
    exact ⟨h1.1,down_closed h1.2⟩
  ·cases h;exact hl.refl
  ·cases h
 | ment ks x key =>
  simp only [stepOp] at h
  split at h
  case h_2=>cases h
  rename_i l kc hx hkc
  split at h
  case h_2=>cases h
  rename_i es hes
  split at h
  case isFalse=>cases h
  rename_i hw
  simp only [Bool.and_eq_true] at hw
  have hent:l < m→(s.rd key).closed1 m=true:=by
   intro hlt
   have h1:=mayWrite_low hw.1.1 (by omega)
   exact cells_closed hkc (fun c hc=>plain_closed (h1 c hc))
  split at h
  ·rename_i i v0 hr
   cases h
   refine hl.set (fun hlt=>?_)
   have h0:=hl.2 _ _ hlt hes
   have e1:=hent hlt
   obtain ⟨e,he,hev⟩:=findKey_mem hr
   simp only [Ob.closed,List.all_eq_true,Bool.and_eq_true] at h0 ⊢
   intro x hx
   rcases List.mem_or_eq_of_mem_set hx with hx | rfl
   ·exact h0 x hx
   ·exact ⟨e1,hev ▸ (h0 e he).2⟩
  ·cases h
   refine hl.set (fun hlt=>?_)
   have h0:=hl.2 _ _ hlt hes
   have e1:=hent hlt
   simp only [Ob.closed,List.all_eq_true,Bool.and_eq_true] at h0 ⊢
   intro x hx
   rcases List.mem_append.mp hx with hx | hx
   ·exact h0 x hx
   ·simp only [List.mem_singleton] at hx
    subst hx
    exact ⟨e1,rfl⟩
  ·cases h
 | estr x st v =>
  simp only [stepOp] at h
  split at h
  case h_2=>cases h
  rename_i l n cs hx hst hcs
  split at h
  case h_2=>cases h
  rename_i es hes
  split at h
  case isFalse=>cases h
  rename_i hw
  simp only [Bool.and_eq_true] at hw
  split at h
  case h_2=>cases h
  rename_i e he
  cases h
  refine hl.set (fun hlt=>?_)
  have h0:=hl.2 _ _ hlt hes
  have h1:=mayWrite_low hw.1 (by omega)
  have e1:(s.rd v).closed1 m=true:=cells_closed hcs (fun c hc=>plain_closed (h1 c hc))
  simp only [Ob.closed,List.all_eq_true,Bool.and_eq_true] at h0 ⊢
  intro x hx
  rcases List.mem_or_eq_of_mem_set hx with hx | rfl
  ·exact h0 x hx
  ·exact ⟨(h0 e (List.mem_of_getElem? he)).1,e1⟩
 | updo ks x key v =>
  simp only [stepOp] at h
  split at h
  case h_2=>cases h
  rename_i l kc k rows hx hkc hcs
  split at h
  case h_2=>cases h
  rename_i es hes
  split at h
  case isFalse=>cases h
  rename_i hw
  simp only [Bool.and_eq_true] at hw
  have hent:l < m→(s.rd key).closed1 m=true:=by
   intro hlt
   have h1:=mayWrite_low hw.1.1 (by omega)
   exact cells_closed hkc (fun c hc=>plain_closed (h1 c (List.mem_append.mpr (.inl hc))))
  split at h
  ·cases h
   refine hl.set (fun hlt=>?_)
   have h0:=hl.2 _ _ hlt hes
   have e1:=hent hlt
   simp only [Ob.closed,List.all_eq_true,Bool.and_eq_true] at h0 ⊢
   intro x hx
   rcases List.mem_or_eq_of_mem_set hx with hx | rfl
   ·exact h0 x hx
   ·exact ⟨e1,rfl⟩
  ·cases h
   refine hl.set (fun hlt=>?_)
   have h0:=hl.2 _ _ hlt hes
   have e1:=hent hlt
   simp only [Ob.closed,List.all_eq_true,Bool.and_eq_true] at h0 ⊢
   intro x hx
   rcases List.mem_append.mp hx with hx | hx
   ·exact h0 x hx
   ·simp at hx;subst hx;exact ⟨e1,rfl⟩
  ·cases h
 | upd ks x key v =>
  simp only [stepOp] at h
  split at h
  case h_2=>cases h
  rename_i l kc cs hx hkc hcs
  split at h
  case h_2=>cases h
  rename_i es hes
  split at h
  case isFalse=>cases h
  rename_i hw
  simp only [Bool.and_eq_true] at hw
  have hent:l < m→(s.rd key).closed1 m=true∧(s.rd v).closed1 m=true:=by
   intro hlt
   have h1:=mayWrite_low hw.1.1 (by omega)
   exact ⟨cells_closed hkc (fun c hc=>plain_closed (h1 c (List.mem_append.mpr (.inl hc)))),cells_closed hcs (fun c hc=>plain_closed (h1 c (List.mem_append.mpr (.inr hc))))⟩
  split at h
  ·cases h
   refine hl.set (fun hlt=>?_)
   have h0:=hl.2 _ _ hlt hes
   obtain ⟨e1,e2⟩:=hent hlt
   simp only [Ob.closed,List.all_eq_true,Bool.and_eq_true] at h0 ⊢
   intro x hx
   rcases List.mem_or_eq_of_mem_set hx with hx | rfl
   ·exact h0 x hx
   ·exact ⟨e1,e2⟩
  ·cases h
   refine hl.set (fun hlt=>?_)
   have h0:=hl.2 _ _ hlt hes
   obtain ⟨e1,e2⟩:=hent hlt
   simp only [Ob.closed,List.all_eq_true,Bool.and_eq_true] at h0 ⊢
   intro x hx
   rcases List.mem_append.mp hx with hx | hx
   ·exact h0 x hx
   ·simp at hx;subst hx;exact ⟨e1,e2⟩
  ·cases h
theorem set_σ (s:St) (d:Option Nat) (v:V):(s.set d v).σ=s.σ:=by cases d<;>rfl
theorem ins_low {F:Oracle} {bd:Bd} (hF:LowF F) {m:Nat} (hm:m≤bd.tr) {s s':St} {i:AIns} (h:stepIns F bd s i=some s') (hl:Low m s.σ):Low m s'.σ∧s.σ.length≤s'.σ.length:=by
 unfold stepIns at h
 split at h
 ·split at h
  ·rename_i v s1 hs1;cases h;rw [set_σ];exact step_low hF hm hs1 hl
  ·cases h
 ·split at h
  case h_3=>cases h
  case h_2=>cases h;rw [set_σ];exact hl.refl
  rename_i gg want hg _ t ht
  cases hw:(t == want)<;>rw [hw] at h<;>simp only [cond_true,cond_false] at h
  ·cases h;rw [set_σ];exact hl.refl
  ·split at h
   ·rename_i v s1 hs1;cases h;rw [set_σ];exact step_low hF hm hs1 hl
   ·cases h
theorem all_low {F:Oracle} {bd:Bd} (hF:LowF F) {m:Nat} (hm:m≤bd.tr):∀ {is:List AIns} {s s':St},stepAll F bd s is=some s'→Low m s.σ→Low m s'.σ∧s.σ.length≤s'.σ.length
 | [],s,s',h,hl=>by simp only [stepAll,Option.some.injEq] at h;subst h;exact hl.refl
 | i :: is,s,s',h,hl=>by
  simp only [stepAll] at h
  split at h
  ·rename_i s1 hs1
   obtain ⟨a1,a2⟩:=ins_low hF hm hs1 hl
   obtain ⟨b1,b2⟩:=all_low hF hm h a1
   exact ⟨b1,Nat.le_trans a2 b2⟩
  ·cases h
theorem wrapEnd_σ {cut:Bool} {nrm ret:List Nat} {exs:List (Nat × List Nat)} {m:Nat} {e e':AExit} {s s':St} (h:wrapEnd cut nrm ret exs m e s=some (e',s')) :
  (s'.σ=s.σ∧e'=e)∨(s'.σ=s.σ.take m∧m≤s.σ.length∧e'=e):=by
 unfold wrapEnd at h
 cases cut with
 | false=>simp only [cond_false,Option.some.injEq,Prod.mk.injEq] at h;obtain ⟨rfl,rfl⟩:=h;exact .inl ⟨rfl,rfl⟩
 | true =>
  simp only [cond_true] at h
  split at h
  ·rename_i hc
   simp only [Option.some.injEq,Prod.mk.injEq] at h
   obtain ⟨rfl,rfl⟩:=h
   simp only [Bool.and_eq_true] at hc
   exact .inr ⟨rfl,Nat.le_of_ble_eq_true hc.1,rfl⟩
  ·cases h
theorem Low.take {n m:Nat} {σ:List Ob} (h:Low n σ) (hn:n≤m) (hm:m≤σ.length):Low n (σ.take m)∧m≤(σ.take m).length:=by
 have hl:(σ.take m).length=m:=by simp;omega
 refine ⟨⟨by omega,fun l o hlt ho=>?_⟩,by omega⟩
 rw [List.getElem?_take] at ho
 split at ho
 ·exact h.2 l o hlt ho
 ·cases ho
theorem rngGo_eq {bd:Bd} {f k:Nat} {agg:Bool} {x:Opd} {s:St} {rows:List (List D)} {σ:List Ob} (h:rngGo bd f k agg x s=some (rows,σ)):∃ q,bd.lo≤q∧σ=s.σ.set q .dead:=by
 unfold rngGo at h
 split at h
 case h_2=>cases h
 split at h
 case h_2=>cases h
 split at h
 case isFalse=>cases h
 rename_i hc
 simp only [Option.some.injEq,Prod.mk.injEq] at h
 exact ⟨_,hc.2.1,h.2.symm⟩
theorem backR_low {E:ACode→St→Option (AExit × St)} {m:Nat} (hE:∀ c s e s',E c s=some (e,s')→Low m s.σ→Low m s'.σ∧s.σ.length≤s'.σ.length) {ti tx:Nat} {agg:Bool} {asg body:ACode} {env:Env}:∀ (rows:List (List D)) (σ σ':List Ob),backR E ti tx agg asg body env rows σ=some σ'→Low m σ→Low m σ'∧σ.length≤σ'.length
 | [],σ,σ',h,hl=>by simp only [backR,Option.some.injEq] at h;subst h;exact hl.refl
 | row :: rest,σ,σ',h,hl=>by
  simp only [backR] at h
  split at h
  case h_2=>cases h
  rename_i s1 h1
  split at h
  case h_2=>cases h
  rename_i s2 h2
  obtain ⟨a1,a2⟩:=hE _ _ _ _ h1 hl
  obtain ⟨b1,b2⟩:=hE _ _ _ _ h2 a1
  obtain ⟨c1,c2⟩:=backR_low hE rest _ _ h b1
  exact ⟨c1,Nat.le_trans a2 (Nat.le_trans b2 c2)⟩
theorem ev_low {F:Oracle} {bd:Bd} (hF:LowF F) {m:Nat} (hm:m≤bd.tr):∀ (n:Nat) (c:ACode) (s:St) (e:AExit) (s':St),ev F bd n c s=some (e,s')→Low m s.σ→Low m s'.σ∧s.σ.length≤s'.σ.length
 | 0,_,_,_,_,h,_=>by simp [ev] at h
 | n+1,c,s,e,s',h,hl=>by
  have ih:=ev_low (bd:=bd) hF hm n
  have two:∀ {c1:ACode} {r:Option (AExit × St)} {k:St→Option (AExit × St)},(match ev F bd n c1 s with | some (.normal,s1)=>k s1 | r=>r)=some (e,s') →
    (∀ s1,k s1=some (e,s')→Low m s1.σ→Low m s'.σ∧s1.σ.length≤s'.σ.length)→Low m s'.σ∧s.σ.length≤s'.σ.length:=by
   intro c1 r k h hk
   cases hx:ev F bd n c1 s with
   | none=>rw [hx] at h;cases h
   | some r =>
    obtain ⟨e1,s1⟩:=r
    rw [hx] at h
    obtain ⟨a1,a2⟩:=ih _ _ _ _ hx hl
    cases e1 with
    | normal =>
     obtain ⟨b1,b2⟩:=hk s1 h a1
     exact ⟨b1,Nat.le_trans a2 b2⟩
    | exit i=>cases h;exact ⟨a1,a2⟩
    | ret=>cases h;exact ⟨a1,a2⟩
  cases c with
  | skip=>simp only [ev,Option.some.injEq,Prod.mk.injEq] at h;obtain ⟨_,rfl⟩:=h;exact hl.refl
  | region d ops keep =>
   simp only [ev] at h
   split at h
   ·rename_i s1 hs1
    simp only [Option.some.injEq,Prod.mk.injEq] at h
    obtain ⟨_,rfl⟩:=h
    have hh:=all_low hF hm hs1 hl
    exact hh
   ·cases h
  | seq a b=>simp only [ev] at h;exact two (r:=none) h (fun s1 h1 hl1=>ih _ _ _ _ h1 hl1)
  | cond x a b =>
   simp only [ev] at h
   split at h
   ·rename_i t ht
    cases t
    ·exact ih _ _ _ _ h hl
    ·exact ih _ _ _ _ h hl
   ·cases h
  | block i c =>
   simp only [ev] at h
   cases hx:ev F bd n c s with
   | none=>rw [hx] at h;cases h
   | some r =>
    obtain ⟨e1,s1⟩:=r
    rw [hx] at h
    have hh:=ih _ _ _ _ hx hl
    cases e1 with
    | normal=>cases h;exact hh
    | ret=>cases h;exact hh
    | exit j=>simp only at h;split at h<;>cases h<;>exact hh
  | loop c=>simp only [ev] at h;exact two (r:=none) h (fun s1 h1 hl1=>ih _ _ _ _ h1 hl1)
  | exit i=>simp only [ev,Option.some.injEq,Prod.mk.injEq] at h;obtain ⟨_,rfl⟩:=h;exact hl.refl
  | ret=>simp only [ev,Option.some.injEq,Prod.mk.injEq] at h;obtain ⟨_,rfl⟩:=h;exact hl.refl
  | wrap cut nrm ret exs c =>
   simp only [ev] at h
   cases hx:ev F bd n c s with
   | none=>rw [hx] at h;cases h
   | some r =>
    obtain ⟨e1,s1⟩:=r
    rw [hx] at h
    have hh:=ih _ _ _ _ hx hl
    rcases wrapEnd_σ h with ⟨h1,_⟩ | ⟨h1,h2,_⟩
    ·rw [h1];exact hh
    ·rw [h1];exact hh.1.take hl.1 h2
  | rng f x ti tx kk agg y z =>
   simp only [ev] at h
   split at h
   case h_2=>cases h
   rename_i rows σ0 hgo
   split at h
   case h_2=>cases h
   rename_i σ' hrun
   simp only [Option.some.injEq,Prod.mk.injEq] at h
   obtain ⟨_,rfl⟩:=h
   obtain ⟨q,hq,rfl⟩:=rngGo_eq hgo
   have h1:Low m (s.σ.set q .dead):=(Low.set hl (fun _=>by simp [Ob.closed])).1
   have:=backR_low ih _ _ _ hrun h1
   exact ⟨this.1,by have h2:=this.2;rw [List.length_set] at h2;exact h2⟩
section
variable {P:Program} {N:Nat} {g g':G} {w w':World} {Pr:Nat→Prop} {s s':St} {a a':Act} {F:Oracle} {bd:Bd}
theorem repB_closed {x:B} {v:Value} (h:RepB g w x v):x.closed g.loc.length=true:=by
 cases x<;>simp only [B.closed,decide_eq_true_eq]
 ·obtain ⟨b,o,h1,_⟩:=h;exact (List.getElem?_eq_some_iff.mp h1).1
 ·obtain ⟨b,o,cap,arr,ty,h1,_⟩:=h;exact (List.getElem?_eq_some_iff.mp h1).1
 ·obtain ⟨b,o,h1,_⟩:=h;exact (List.getElem?_eq_some_iff.mp h1).1
theorem repC_closed {p:Place} {x:C} {v:Value} (h:RepC g w Pr p x v):x.closed g.loc.length=true:=by
 cases x with
 | b y=>exact repB_closed h
 | osl k rows=>rfl
 | fn f p q =>
  obtain ⟨xs,ys,h1,h2,h3,h4,h5⟩:=h
  simp only [C.closed,Bool.and_eq_true,List.all_eq_true]
  refine ⟨fun b hb=>?_,fun b hb=>?_⟩
  ·obtain ⟨i,hi,rfl⟩:=List.mem_iff_getElem.mp hb
   obtain ⟨u,_,_,k3⟩:=h4 i p[i] (by simp [hi])
   exact repB_closed k3
  ·obtain ⟨i,hi,rfl⟩:=List.mem_iff_getElem.mp hb
   obtain ⟨u,_,_,k3⟩:=h5 i q[i] (by simp [hi])
   exact repB_closed k3
 | nilf=>rfl
theorem repV1_closed {r:Root} {path:List Nat} {x:V} {v:Value} (h:RepV1 g w Pr r path x v):x.closed1 g.loc.length=true:=by
 cases x with
 | c y=>exact repC_closed (p:=(r,path)) h
 | agg cs =>
  obtain ⟨arr,h1,h2,h3⟩:=h
  simp only [V.closed1,List.all_eq_true]
  intro c hc
  obtain ⟨i,hi,rfl⟩:=List.mem_iff_getElem.mp hc
  obtain ⟨u,_,_,k3⟩:=h3 i cs[i] (by simp [hi])
  exact repC_closed k3
 | tup vs=>exact h.elim
theorem inv_low (hI:Inv g w Pr s.σ):Low s.σ.length s.σ:=by
 refine ⟨Nat.le_refl _,fun l o _ ho=>?_⟩
 have h:=hI.ob l o ho
 rw [← hI.len]
 cases o with
 | cells cs =>
  obtain ⟨b,o,arr,ty,h1,h2,h3,h4,h5⟩:=h
  simp only [Ob.closed,List.all_eq_true]
  intro c hc
  obtain ⟨i,hi,rfl⟩:=List.mem_iff_getElem.mp hc
  obtain ⟨u,_,_,k3⟩:=h5 i cs[i] (by simp [hi])
  exact repC_closed k3
 | map es =>
  obtain ⟨b,o,mes,clock,h1,h2,h3,h4,hbn,h5⟩:=h
  simp only [Ob.closed,List.all_eq_true,Bool.and_eq_true]
  intro e he
  obtain ⟨i,hi,rfl⟩:=List.mem_iff_getElem.mp he
  obtain ⟨m,_,k2,k3⟩:=h5 i es[i].1 es[i].2 (by simp [hi])
  exact ⟨repV1_closed k2,repV1_closed k3⟩
 | dead=>rfl
 | blank n=>rfl
def G.cut (g:G) (n:Nat):G:={ g with loc:=g.loc.take n }
theorem cut_loc {n l:Nat} {x:Nat × Nat} (hl:l < n) (h:g.loc[l]?=some x):(g.cut n).loc[l]?=some x:=by
 simp only [G.cut,List.getElem?_take]
 rw [if_pos hl];exact h
theorem RepB.cut {n:Nat} {x:B} {v:Value} (h:RepB g w x v) (hc:x.closed n=true):RepB (g.cut n) w x v:=by
 cases x<;>simp only [B.closed,decide_eq_true_eq] at hc
 ·exact h
 ·obtain ⟨b,o,h1,h2⟩:=h;exact ⟨b,o,cut_loc hc h1,h2⟩
 ·exact h
 ·exact h
 ·obtain ⟨b,o,cap,arr,ty,h1,h2⟩:=h;exact ⟨b,o,cap,arr,ty,cut_loc hc h1,h2⟩
 ·obtain ⟨b,o,h1,h2⟩:=h;exact ⟨b,o,cut_loc hc h1,h2⟩
 ·exact h
 ·exact h
 ·exact h
 ·exact h
theorem RepC.cut {n:Nat} {p:Place} {x:C} {v:Value} (h:RepC g w Pr p x v) (hc:x.closed n=true):RepC (g.cut n) w Pr p x v:=by
 cases x with
 | b y=>exact RepB.cut h hc
 | osl k rows=>exact h
 | fn f p q =>
  obtain ⟨xs,ys,h1,h2,h3,h4,h5⟩:=h
  simp only [C.closed,Bool.and_eq_true,List.all_eq_true] at hc
  refine ⟨xs,ys,h1,h2,h3,fun i b hi=>?_,fun i b hi=>?_⟩
  ·obtain ⟨u,k1,k2,k3⟩:=h4 i b hi;exact ⟨u,k1,k2,RepB.cut k3 (hc.1 _ (List.mem_of_getElem? hi))⟩
  ·obtain ⟨u,k1,k2,k3⟩:=h5 i b hi;exact ⟨u,k1,k2,RepB.cut k3 (hc.2 _ (List.mem_of_getElem? hi))⟩
 | nilf=>exact h
theorem RepV1.cut {n:Nat} {r:Root} {path:List Nat} {x:V} {v:Value} (h:RepV1 g w Pr r path x v) (hc:x.closed1 n=true):RepV1 (g.cut n) w Pr r path x v:=by
 cases x with
 | c y=>exact RepC.cut h hc
 | agg cs =>
  obtain ⟨arr,h1,h2,h3⟩:=h
  simp only [V.closed1,List.all_eq_true] at hc
  refine ⟨arr,h1,h2,fun i c hi=>?_⟩
  obtain ⟨u,k1,k2,k3⟩:=h3 i c hi
  exact ⟨u,k1,k2,RepC.cut k3 (hc _ (List.mem_of_getElem? hi))⟩
 | tup vs=>exact h
theorem RepV.cut {n:Nat} {r:Root} {x:V} {v:Value} (h:RepV g w Pr r x v) (hc:x.closed n=true):RepV (g.cut n) w Pr r x v:=by
 cases x with
 | c y=>exact RepV1.cut (x:=.c y) (path:=[]) h hc
 | agg cs=>exact RepV1.cut (x:=.agg cs) (path:=[]) h hc
 | tup vs =>
  obtain ⟨arr,h1,h2⟩:=h
  simp only [V.closed,List.all_eq_true] at hc
  refine ⟨arr,h1,fun i x hi=>?_⟩
  obtain ⟨u,k1,k2⟩:=h2 i x hi
  exact ⟨u,k1,RepV1.cut k2 (hc _ (List.mem_of_getElem? hi))⟩
theorem Inv.cut {σ:List Ob} (hI:Inv g w Pr σ) {n:Nat} (hl:Low n σ):Inv (g.cut n) w Pr (σ.take n) where
 len:=by simp [G.cut,hI.len]
 lt:=hI.lt
 pr:=hI.pr
 gl:=hI.gl
 ob l o ho:=by
  rw [List.getElem?_take] at ho
  split at ho
  case isFalse=>cases ho
  rename_i hln
  have hcl:=hl.2 l o hln ho
  have h:=hI.ob l o ho
  cases o with
  | cells cs =>
   obtain ⟨b,o,arr,ty,h1,h2,h3,h4,h5⟩:=h
   simp only [Ob.closed,List.all_eq_true] at hcl
   refine ⟨b,o,arr,ty,cut_loc hln h1,h2,h3,h4,fun i c hi=>?_⟩
   obtain ⟨u,k1,k2,k3⟩:=h5 i c hi
   exact ⟨u,k1,k2,RepC.cut k3 (hcl _ (List.mem_of_getElem? hi))⟩
  | map es =>
   obtain ⟨b,o,mes,clock,h1,h2,h3,h4,hbn,h5⟩:=h
   simp only [Ob.closed,List.all_eq_true,Bool.and_eq_true] at hcl
   refine ⟨b,o,mes,clock,cut_loc hln h1,h2,h3,h4,hbn,fun i k v hi=>?_⟩
   obtain ⟨m,k1,k2,k3⟩:=h5 i k v hi
   have:=hcl _ (List.mem_of_getElem? hi)
   exact ⟨m,k1,RepV1.cut k2 this.1,RepV1.cut k3 this.2⟩
  | dead=>trivial
  | blank n =>
   obtain ⟨b,o,arr,ty,h1,h2,h3,h4⟩:=h
   exact ⟨b,o,arr,ty,cut_loc hln h1,h2,h3,h4⟩
theorem Ext.cut {n:Nat} (h:Ext g w g' w') (hn:g.loc.length≤n):Ext g w (g'.cut n) w' where
 st:=h.st
 loc l x hx:=cut_loc (by have:=(List.getElem?_eq_some_iff.mp hx).1;omega) (h.loc l x hx)
 size:=h.size
 shape:=h.shape
 os:=h.os
 tape:=h.tape
 output:=h.output
end
section
variable {P:Program} {N:Nat} {g g' g1 g2:G} {w w':World} {Pr:Nat→Prop} {s s':St} {σ:List Ob}
theorem Inv.frz {n:Nat} {τ:List Ob} (hn:τ.length≤n) (hI:Inv (g.cut n) w Pr τ):Inv ((g.frz fun l=>decide (n≤l)).cut n) w Pr τ where
 len:=hI.len
 ob l o ho:=by
  refine RepOb.frame (g:=g.cut n) (g':=(g.frz fun l=>decide (n≤l)).cut n) ⟨fun a v h=>?_,fun _ _ h=>h,Nat.le_refl _,fun _ arr _ _ h=>⟨arr,h,rfl⟩,rfl,rfl,rfl⟩ (fun i b m h1 h2=>?_) (fun b hb=>⟨rfl,?_⟩) (hI.ob l o ho)
  ·have:=frz_st (g:=g) (S:=fun l=>decide (n≤l)) (w:=w) (a:=a) (v:=v) h
   exact this
  ·have:=Keep.frz (g:=g) (fun l=>decide (n≤l)) (.cell l,i) b m h1 h2
   exact this
  ·have hk:g.kind b=.obj l:=hb
   have hl:=(List.getElem?_eq_some_iff.mp ho).1
   show (g.frz fun l=>decide (n≤l)).kind b=.obj l
   rw [frz_kind hk,if_neg (by simp;omega)]
 lt b h:=by
  refine hI.lt b (fun hk=>h ?_)
  have hk':g.kind b=.free:=hk
  show (g.frz fun l=>decide (n≤l)).kind b=.free
  rw [frz_kind' (fun l=>by rw [hk'];simp)];exact hk'
 pr b hb:=by
  obtain ⟨h1,h2,h3⟩:=hI.pr b hb
  refine ⟨h1,fun l=>?_,h3⟩
  have h2':∀ l,g.kind b≠.obj l:=h2
  show (g.frz fun l=>decide (n≤l)).kind b≠.obj l
  rw [frz_kind' h2'];exact h2' l
 gl:=GlobOk.mono (fun a v h=>by
  have:=frz_st (g:=g) (S:=fun l=>decide (n≤l)) (w:=w) (a:=a) (v:=v) h
  exact this) hI.gl
structure Like (g1 g2:G):Prop where
 loc:g2.loc=g1.loc
 kind:g2.kind=g1.kind
theorem like_st (hL:Like g1 g2) {S:Nat→Bool} {a:Addr} {v:Value} (h:(g1.frz S).st w a v):(g2.frz S).st w a v:=by
 simpa only [G.st,G.frz,hL.kind] using h
theorem frzC_rep (hI:Inv g1 w Pr σ) (hL:Like g1 g2) {S:Nat→Bool} {c c':C} {p:Place} {u:Value} (h:frzC S σ c=some c') (hc:RepC g2 w Pr p c u):RepC (g2.frz S) w Pr p c' u:=by
 have hst:∀ {d:D},RepD ((g1.frz S).st w) d u→RepD ((g2.frz S).st w) d u:=fun h=>RepD.mono (fun _ _ h=>like_st hL h) h
 unfold frzC at h
 split at h
 ·rename_i k l off len
  split at h
  ·split at h
   ·rename_i d hd
    cases h
    have hc1:RepC g1 w Pr p (.b (.arr k l off len)) u:=by
     obtain ⟨b,q,cap,arr,ty,hl,e⟩:=hc
     exact ⟨b,q,cap,arr,ty,by rw [← hL.loc];exact hl,e⟩
    exact hst (frzD_rep hI hd hc1)
   ·cases h
  ·cases h;exact RepC.ext (Ext.frz S) (Keep.frz S p) hc
 ·cases h
  have:u=.slice none 0 0:=hc
  rw [this];exact RepD.nil
 ·cases h
  obtain ⟨ad,cap,rfl⟩:=hc
  exact RepD.sl [] ad 0 cap (fun _ _=>undef) (fun h=>absurd rfl h) (by simp) (by simp) (by simp) (by simp)
 ·cases h;exact RepC.ext (Ext.frz S) (Keep.frz S p) hc
theorem frzCs_get {S:Nat→Bool}:∀ {cs cs':List C},frzCs S σ cs=some cs'→cs'.length=cs.length∧∀ (i:Nat) (c':C),cs'[i]?=some c'→∃ c,cs[i]?=some c∧frzC S σ c=some c'
 | [],cs',h=>by simp [frzCs] at h;subst h;simp
 | c :: cs,cs',h=>by
  simp only [frzCs] at h
  split at h
  ·rename_i x xs hx hxs
   cases h
   obtain ⟨h1,h2⟩:=frzCs_get hxs
   refine ⟨by simp [h1],fun j d hj=>?_⟩
   cases j with
   | zero=>simp at hj;subst hj;exact ⟨c,rfl,hx⟩
   | succ j=>simpa using h2 j d (by simpa using hj)
  ·cases h
theorem frz1_rep (hI:Inv g1 w Pr σ) (hL:Like g1 g2) {S:Nat→Bool} {v v':V} {r:Root} {path:List Nat} {u:Value} (h:frz1 S σ v=some v') (hv:RepV1 g2 w Pr r path v u):RepV1 (g2.frz S) w Pr r path v' u:=by
 cases v with
 | c c =>
  simp only [frz1] at h
  split at h
  ·rename_i c' hc';cases h;exact frzC_rep hI hL hc' hv
  ·cases h
 | agg cs =>
  simp only [frz1] at h
  split at h
  ·rename_i cs' hcs
   cases h
   obtain ⟨arr,h1,h2,h3⟩:=hv
   obtain ⟨k1,k2⟩:=frzCs_get hcs
   refine ⟨arr,h1,by omega,fun i c' hi=>?_⟩
   obtain ⟨c,c1,c2⟩:=k2 i c' hi
   obtain ⟨u,u1,u2,u3⟩:=h3 i c c1
   exact ⟨u,u1,u2,frzC_rep hI hL c2 u3⟩
  ·cases h
 | tup vs=>exact hv.elim
theorem frz1s_get {S:Nat→Bool}:∀ {cs cs':List V},frz1s S σ cs=some cs'→∀ (i:Nat) (c':V),cs'[i]?=some c'→∃ c,cs[i]?=some c∧frz1 S σ c=some c'
 | [],cs',h=>by simp [frz1s] at h;subst h;simp
 | c :: cs,cs',h=>by
  simp only [frz1s] at h
  split at h
  ·rename_i x xs hx hxs
   cases h
   have h2:=frz1s_get hxs
   intro j d hj
   cases j with
   | zero=>simp at hj;subst hj;exact ⟨c,rfl,hx⟩
   | succ j=>simpa using h2 j d (by simpa using hj)
  ·cases h
theorem frzV_rep (hI:Inv g1 w Pr σ) (hL:Like g1 g2) {S:Nat→Bool} {v v':V} {r:Root} {u:Value} (h:frzV S σ v=some v') (hv:RepV g2 w Pr r v u):RepV (g2.frz S) w Pr r v' u:=by
 cases v with
 | c c =>
  have h':frz1 S σ (.c c)=some v':=h
  have:=frz1_rep (path:=[]) hI hL h' hv
  simp only [frz1] at h'
  split at h'
  ·cases h';exact this
  ·cases h'
 | agg cs =>
  have h':frz1 S σ (.agg cs)=some v':=h
  have:=frz1_rep (path:=[]) hI hL h' hv
  simp only [frz1] at h'
  split at h'
  ·cases h';exact this
  ·cases h'
 | tup vs =>
  simp only [frzV] at h
  split at h
  ·rename_i vs' hvs
   cases h
   obtain ⟨arr,h1,h2⟩:=hv
   refine ⟨arr,h1,fun i x hi=>?_⟩
   obtain ⟨y,y1,y2⟩:=frz1s_get hvs i x hi
   obtain ⟨u,u1,u2⟩:=h2 i y y1
   exact ⟨u,u1,frz1_rep hI hL y2 u2⟩
  ·cases h
end
def chkCode (P:Program) (N:Nat):Code→ACode→Bool
 | c,.wrap _ _ _ _ x=>chkCode P N c x
 | .skip,.skip=>true
 | .region _ ops draw,.region draw' is _=>draw == draw' && ops.toList.all noDefer && ((chkAll P N ops ops.toList is && (!draw || drawOk ops is)) || (draw && drawLast P N ops is))
 | .seq a b,.seq x y=>chkCode P N a x && chkCode P N b y
 | .cond c a b,.cond x y z=>chkOpd c x && chkCode P N a y && chkCode P N b z
 | .block i a,.block j x=>i == j && chkCode P N a x
 | .loop a,.loop x=>chkCode P N a x
 | .exit i,.exit j=>i == j
 | .ret,.ret=>true
 | .rangeFunc o ps a b,.rng f x ti tx kk agg y z=>chkOpd o x && ps == #[ti,tx] && tx != ti && decide (ti < N) && decide (tx < N) && isBack P (fnOf f) kk agg && entered P (fnOf f) && chkCode P N a y && chkCode P N b z
 | _,_=>false
section
variable {P:Program} {N:Nat} {ds:List Deferred} {g g':G} {w w':World} {Pr:Nat→Prop} {s s':St} {a a':Act} {F:Oracle} {bd:Bd}
theorem BehindX.trans {r:Option Nat} {ds1:List Deferred} {Pr1:Nat→Prop} {s2:St} {g1:G} {w1:World} (hp:∀ b,Pr b→Pr1 b) (hr:r≠none→ds1=ds∧Pr1=Pr) (hd:∀ d ∈ ds1,d ∈ ds∨∃ b,d.target=.collected b∧w.heap.size≤b) (h1:Ext g w g1 w1) (h2:Fr Pr g w g1 w1) {a2:Act} {w2:World} (h:BehindX N r ds1 g1 w1 Pr1 s2 a2 w2):BehindX N r ds g w Pr s2 a2 w2:=by
 obtain ⟨Pr2,ds2,g2,y1,y2,y3,y7,y4,y5,y6⟩:=h
 refine ⟨Pr2,ds2,g2,fun b hb=>y1 b (hp b hb),y2,fun hn=>⟨(y3 hn).1.trans (hr hn).1,(y3 hn).2.trans (hr hn).2⟩,fun d hx=>?_,h1.trans y4,h2.trans (fun b hb=>y5 b (hp b hb)),y6⟩
 rcases y7 d hx with z | ⟨b,z1,z2⟩
 ·exact hd d z
 ·exact .inr ⟨b,z1,Nat.le_trans h1.size z2⟩
theorem after_trans {r:Option Nat} {ds1:List Deferred} {Pr1:Nat→Prop} {e:AExit} {s2:St} {g1:G} {w1:World} (hp:∀ b,Pr b→Pr1 b) (hr:r≠none→ds1=ds∧Pr1=Pr) (hd:∀ d ∈ ds1,d ∈ ds∨∃ b,d.target=.collected b∧w.heap.size≤b) (h1:Ext g w g1 w1) (h2:Fr Pr g w g1 w1) {e':Exit} {a2:Act} {w2:World} (h:After N r ds1 g1 w1 Pr1 e s2 e' a2 w2):After N r ds g w Pr e s2 e' a2 w2 :=
 ⟨h.1,h.2.trans hp hr hd h1 h2⟩
theorem rounds_mono {F:Fence} {k:Nat} {c:Code} {Q Q':Exit→Act→World→Prop} (hq:∀ e a w,Q e a w→Q' e a w):∀ (n:Nat) (a:Act) (w:World),Code.roundsIn F k P c Q n a w→Code.roundsIn F k P c Q' n a w
 | 0,_,_,h=>h
 | n+1,a,w,h=>by
  rw [roundsIn_succ] at h ⊢
  refine wpIn_mono h ?_
  intro e a w he
  cases e with
  | normal=>exact rounds_mono hq n a w he
  | exit i=>exact hq _ _ _ he
  | goto i=>exact hq _ _ _ he
  | ret=>exact hq _ _ _ he
  | panic c=>exact hq _ _ _ he
  | outgrown=>exact hq _ _ _ he
theorem env_kept (nrm ret:List Nat) (exs:List (Nat × List Nat)) (e:AExit) (env:Env) (t:Nat):(keptAt nrm ret exs e env).get t=env.get t∨(keptAt nrm ret exs e env).get t=.c (.b .any):=by
 cases e with
 | normal=>exact keep_get _ _ _
 | ret=>exact keep_get _ _ _
 | exit i =>
  simp only [keptAt]
  split
  ·exact keep_get _ _ _
  ·exact .inl rfl
theorem env_closed {n:Nat}:∀ {env:Env},env.all (fun p=>p.2.closed n)=true→∀ t,(env.get t).closed n=true
 | [],_,t=>rfl
 | (a,v) :: env,h,t=>by
  simp only [List.all_cons,Bool.and_eq_true] at h
  rw [env_get_cons]
  split
  ·exact h.1
  ·exact env_closed h.2 t
theorem wrap_ok {cut:Bool} {nrm ret:List Nat} {exs:List (Nat × List Nat)} {m:Nat} {e e':AExit} {s2:St} {g0:G} (hmg:g0.loc.length=m) (h:wrapEnd cut nrm ret exs m e s=some (e',s2)) {g1:G} {Pr0:Nat→Prop} (x1:Ext g0 w g1 w') (x2:Fr Pr0 g0 w g1 w') (x3:InvA N ds g1 w' Pr s a'):e'=e∧∃ g2,(∀ b,g1.kind b=.free→g2.kind b=.free)∧Ext g0 w g2 w'∧Fr Pr0 g0 w g2 w'∧InvA N ds g2 w' Pr s2 a':=by
 unfold wrapEnd at h
 have henv:∀ t,RepV g1 w' Pr (.tmp t) ((keptAt nrm ret exs e s.env).get t) (a'.tmps.getD t undef):=by
  intro t
  rcases env_kept nrm ret exs e s.env t with h1 | h1
  ·rw [h1];exact x3.env t
  ·rw [h1];trivial
 cases cut with
 | false =>
  simp only [cond_false,Option.some.injEq,Prod.mk.injEq] at h
  obtain ⟨rfl,rfl⟩:=h
  exact ⟨rfl,g1,fun _ h=>h,x1,x2,⟨x3.inv,henv,x3.size,x3.defers⟩⟩
 | true =>
  simp only [cond_true] at h
  split at h
  case isFalse=>cases h
  rename_i hc
  simp only [Option.some.injEq,Prod.mk.injEq] at h
  obtain ⟨rfl,rfl⟩:=h
  simp only [Bool.and_eq_true] at hc
  have hle:=Nat.le_of_ble_eq_true hc.1
  have hlow:Low m s.σ:=by
   refine ⟨hle,fun l o hl ho=>?_⟩
   refine List.all_eq_true.mp hc.2.2 o ?_
   refine List.mem_of_getElem? (i:=l) ?_
   rw [List.getElem?_take,if_pos hl];exact ho
  exact ⟨rfl,g1.cut m,fun b hb=>by simp only [G.cut,hb],x1.cut (by omega),fun b hb=>x2 b hb,⟨x3.inv.cut hlow,fun t=>RepV.cut (henv t) (env_closed hc.2.1 t),x3.size,x3.defers⟩⟩
theorem ev_ok (hm:P.follows .mixedOrders=true) (hS:Sound P F) (hen:∀ f args σ lo tr r,F f args σ lo tr=some r→entered P (fnOf f)=true) :
  ∀ (n:Nat) (x:ACode) (c:Code) (s:St) (e:AExit) (s':St) (g:G) (a:Act) (w:World) (ds:List Deferred) (Pr:Nat→Prop) (r:Option Nat) (k:Nat),chkCode P N c x=true→ev F bd n x s=some (e,s')→InvA N ds g w Pr s a→Marks g Pr w ds→Rcd r Pr w →
   c.wpIn (Wd r) k P (After N r ds g w Pr e s') a w
 | 0,_,_,_,_,_,_,_,_,_,_,_,_,_,h,_,_,_=>by simp [ev] at h
 | n+1,x,c,s,e,s',g,a,w,ds,Pr,r,k,hc,h,hA,hM,hR=>by
  have ih:=ev_ok hm hS hen n
  cases x with
  | skip =>
   cases c<;>simp [chkCode] at hc
   simp only [ev,Option.some.injEq,Prod.mk.injEq] at h
   obtain ⟨rfl,rfl⟩:=h
   exact wpIn_skip ⟨rfl,.of hM (Behind.refl hA)⟩
  | region draw' is keep =>
   cases c<;>simp only [chkCode,Bool.false_eq_true] at hc
   rename_i id ops draw
   simp only [Bool.and_eq_true,beq_iff_eq,Bool.or_eq_true,Bool.not_eq_true',List.all_eq_true] at hc
   obtain ⟨⟨rfl,hnd⟩,hc⟩:=hc
   have hnd:∀ o ∈ ops,noDefer o=true:=fun o ho=>hnd o (by simpa using ho)
   simp only [ev] at h
   split at h
   case h_2=>cases h
   rename_i s1 hs1
   simp only [Option.some.injEq,Prod.mk.injEq] at h
   obtain ⟨rfl,rfl⟩:=h
   have key:∀ {e':Exit} {a':Act} {w':World},(e'=.normal∧Behind N ds g w Pr { s1 with env:=s1.env.keep keep } a' w')→After N r ds g w Pr .normal { s1 with env:=s1.env.keep keep } e' a' w':=fun h=>⟨h.1,.of hM h.2⟩
   rcases hc with ⟨h1,h2⟩ | ⟨h1,h2⟩
   ·cases draw with
    | false=>exact wpIn_mono (region_ok hS hen hnd h1 hs1 hA) fun _ _ _=>key
    | true=>exact wpIn_mono (region_draw_ok hm hS hen hnd h1 (h2.resolve_left (by simp)) hs1 hA) fun _ _ _=>key
   ·subst h1
    exact wpIn_mono (region_last_ok hm hS hen hnd h2 hs1 hA) fun _ _ _=>key
  | seq x y =>
   cases c<;>simp only [chkCode,Bool.false_eq_true] at hc
   rename_i p q
   simp only [Bool.and_eq_true] at hc
   simp only [ev] at h
   refine wpIn_seq ?_
   cases hx:ev F bd n x s with
   | none=>rw [hx] at h;cases h
   | some v =>
    obtain ⟨e1,s1⟩:=v
    rw [hx] at h
    refine wpIn_mono (ih x p s e1 s1 g a w ds Pr r k hc.1 hx hA hM hR) ?_
    rintro e' a' w' ⟨rfl,Pr1,ds1,g1,y1,y2,y3,y4,x1,x2,x3⟩
    cases e1 with
    | normal =>
     simp only [AExit.out,Exit.then]
     have hR1:Rcd r Pr1 w':=fun l hl=>by
      have h4:=hR.fr x2 l hl
      exact ⟨y1 _ h4.1,h4.2⟩
     exact wpIn_mono (ih y q s1 e s' g1 a' w' ds1 Pr1 r k hc.2 h x3 y2 hR1) fun e2 a2 w2 h2=>after_trans y1 y3 y4 x1 x2 h2
    | exit i =>
     cases h
     exact ⟨rfl,Pr1,ds1,g1,y1,y2,y3,y4,x1,x2,x3⟩
    | ret =>
     cases h
     exact ⟨rfl,Pr1,ds1,g1,y1,y2,y3,y4,x1,x2,x3⟩
  | cond b y z =>
   cases c<;>simp only [chkCode,Bool.false_eq_true] at hc
   rename_i o p q
   simp only [Bool.and_eq_true] at hc
   simp only [ev] at h
   split at h
   case h_2=>cases h
   rename_i t ht
   have h1:=opd_rd hA.env hc.1.1 (.tmp 0)
   rw [ht] at h1
   have h2:=rep_bool h1
   cases t with
   | true=>exact wpIn_cond_true h2 (ih y p s e s' g a w ds Pr r k hc.1.2 h hA hM hR)
   | false=>exact wpIn_cond_false h2 (ih z q s e s' g a w ds Pr r k hc.2 h hA hM hR)
  | block i y =>
   cases c<;>simp only [chkCode,Bool.false_eq_true] at hc
   rename_i j p
   simp only [Bool.and_eq_true,beq_iff_eq] at hc
   obtain ⟨rfl,hc⟩:=hc
   simp only [ev] at h
   refine wpIn_block ?_
   cases hx:ev F bd n y s with
   | none=>rw [hx] at h;cases h
   | some v =>
    obtain ⟨e1,s1⟩:=v
    rw [hx] at h
    refine wpIn_mono (ih y p s e1 s1 g a w ds Pr r k hc hx hA hM hR) ?_
    rintro e' a' w' ⟨rfl,hb⟩
    cases e1 with
    | normal=>cases h;exact ⟨rfl,hb⟩
    | ret=>cases h;exact ⟨rfl,hb⟩
    | exit i =>
     simp only at h
     split at h
     ·rename_i hij
      cases h
      simp only [AExit.out,Exit.inBlock,hij,if_true]
      exact ⟨rfl,hb⟩
     ·rename_i hij
      cases h
      simp only [AExit.out,Exit.inBlock,hij,if_false]
      exact ⟨rfl,hb⟩
  | loop y =>
   cases c<;>simp only [chkCode,Bool.false_eq_true] at hc
   rename_i p
   have key:∀ (m:Nat),m≤n→∀ (s:St) (e:AExit) (s':St) (g:G) (a:Act) (w:World) (ds:List Deferred) (Pr:Nat→Prop),ev F bd (m+1) (.loop y) s=some (e,s')→InvA N ds g w Pr s a→Marks g Pr w ds→Rcd r Pr w→Code.roundsIn (Wd r) k P p (After N r ds g w Pr e s') (m+1) a w:=by
    intro m
    induction m with
    | zero =>
     intro hle s e s' g a w ds Pr h hA hM hR
     simp only [ev] at h
     cases h
    | succ m ihm =>
     intro hle s e s' g a w ds Pr h hA hM hR
     simp only [ev] at h
     rw [roundsIn_succ]
     cases hx:ev F bd (m+1) y s with
     | none=>rw [hx] at h;cases h
     | some v =>
      obtain ⟨e1,s1⟩:=v
      rw [hx] at h
      have hy:=ev_ok hm hS hen (m+1) y p s e1 s1 g a w ds Pr r k hc hx hA hM hR
      refine wpIn_mono hy ?_
      rintro e' a' w' ⟨rfl,Pr1,ds1,g1,y1,y2,y3,y4,x1,x2,x3⟩
      cases e1 with
      | normal =>
       simp only [AExit.out,Exit.then]
       have hR1:Rcd r Pr1 w':=fun l hl=>by
        have h4:=hR.fr x2 l hl
        exact ⟨y1 _ h4.1,h4.2⟩
       have hr:=ihm (by omega) s1 e s' g1 a' w' ds1 Pr1 h x3 y2 hR1
       exact rounds_mono (fun e2 a2 w2 h2=>after_trans y1 y3 y4 x1 x2 h2) _ _ _ hr
      | exit i=>cases h;exact ⟨rfl,Pr1,ds1,g1,y1,y2,y3,y4,x1,x2,x3⟩
      | ret=>cases h;exact ⟨rfl,Pr1,ds1,g1,y1,y2,y3,y4,x1,x2,x3⟩
   exact wpIn_loop_rounds (n+1) (key n (Nat.le_refl _) s e s' g a w ds Pr h hA hM hR)
  | exit i =>
   cases c<;>simp [chkCode] at hc
   subst hc
   simp only [ev,Option.some.injEq,Prod.mk.injEq] at h
   obtain ⟨rfl,rfl⟩:=h
   exact wpIn_exit ⟨rfl,.of hM (Behind.refl hA)⟩
  | ret =>
   cases c<;>simp [chkCode] at hc
   simp only [ev,Option.some.injEq,Prod.mk.injEq] at h
   obtain ⟨rfl,rfl⟩:=h
   exact wpIn_ret ⟨rfl,.of hM (Behind.refl hA)⟩
  | wrap cut nrm ret exs y =>
   simp only [chkCode] at hc
   simp only [ev] at h
   cases hx:ev F bd n y s with
   | none=>rw [hx] at h;cases h
   | some v =>
    obtain ⟨e1,s1⟩:=v
    rw [hx] at h
    refine wpIn_mono (ih y c s e1 s1 g a w ds Pr r k hc hx hA hM hR) ?_
    rintro e' a' w' ⟨rfl,Pr1,ds1,g1,y1,y2,y3,y4,x1,x2,x3⟩
    obtain ⟨rfl,g2,z1,z2,z3,z4⟩:=wrap_ok hA.inv.len h x1 x2 x3
    exact ⟨rfl,Pr1,ds1,g2,y1,⟨y2.1,fun d hd=>let ⟨b,h1,h2,h3,h4⟩:=y2.2 d hd;⟨b,h1,h2,z1 b h3,h4⟩⟩,y3,y4,z2,z3,z4⟩
  | rng f x ti tx kk agg y z =>
   cases c<;>simp only [chkCode,Bool.false_eq_true] at hc
   rename_i o ps p q
   simp only [Bool.and_eq_true,beq_iff_eq,bne_iff_ne,decide_eq_true_eq] at hc
   obtain ⟨⟨⟨⟨⟨⟨⟨⟨h1,rfl⟩,h2⟩,h3⟩,h4⟩,h5⟩,h6⟩,h7⟩,h8⟩:=hc
   simp only [ev] at h
   split at h
   case h_2=>cases h
   rename_i rows σ0 hgo
   split at h
   case h_2=>cases h
   rename_i σ' hrun
   simp only [Option.some.injEq,Prod.mk.injEq] at h
   obtain ⟨rfl,rfl⟩:=h
   unfold rngGo at hgo
   split at hgo
   case h_2=>cases hgo
   rename_i f' b hrd
   split at hgo
   case h_2=>cases hgo
   rename_i rws hq
   split at hgo
   case isFalse=>cases hgo
   rename_i hcs
   simp only [Option.some.injEq,Prod.mk.injEq] at hgo
   obtain ⟨rfl,rfl⟩:=hgo
   obtain ⟨c1,c2,c3,c4,c5⟩:=hcs
   exact rng_ok hS hen (fun s e s' g a w ds Pr r k hv hA hM hR=>ih y p s e s' g a w ds Pr r k h7 hv hA hM hR) (fun s e s' g a w ds Pr r k hv hA hM hR=>ih z q s e s' g a w ds Pr r k h8 hv hA hM hR)
    h5 h6 h2 h3 h4 h1 hrd c1 hq (fun r hr=>by simpa using List.all_eq_true.mp c3 r hr) c4 c5 hrun hA hM hR
 termination_by n=>n
end
def Kept (lo:Nat) (σ σ':List Ob):Prop:=(∀ l,l < lo→l < σ.length→σ'[l]?=σ[l]?)∧σ.length≤σ'.length
theorem Kept.refl (lo:Nat) (σ:List Ob):Kept lo σ σ:=⟨fun _ _ _=>rfl,Nat.le_refl _⟩
theorem Kept.trans {lo:Nat} {σ σ1 σ2:List Ob} (h:Kept lo σ σ1) (k:Kept lo σ1 σ2):Kept lo σ σ2 :=
 ⟨fun l h1 h2=>(k.1 l h1 (Nat.lt_of_lt_of_le h2 h.2)).trans (h.1 l h1 h2),Nat.le_trans h.2 k.2⟩
theorem Kept.push (lo:Nat) (σ:List Ob) (o:Ob):Kept lo σ (σ ++ [o]):=⟨fun l _ h=>List.getElem?_append_left h,by simp⟩
theorem Kept.set {lo:Nat} (σ:List Ob) {l:Nat} (o:Ob) (h:lo≤l):Kept lo σ (σ.set l o):=⟨fun x h1 _=>List.getElem?_set_ne (by omega),by simp⟩
theorem mayWrite_lo {bd:Bd} {l:Nat} {cs:List C} (h:mayWrite bd l cs=true):bd.lo≤l:=by
 simp only [mayWrite,Bool.and_eq_true,decide_eq_true_eq] at h
 exact h.1
def KeepF2 (F:Oracle):Prop:=∀ f args σ lo tr v σ',F f args σ lo tr=some (v,σ')→Kept lo σ σ'
theorem step_keep {F:Oracle} {bd:Bd} (hF:KeepF2 F) {s s':St} {op:AOp} {v:V} (h:stepOp F bd s op=some (v,s')):Kept bd.lo s.σ s'.σ:=by
 cases op with
 | mov md x=>cases md<;>(simp only [stepOp] at h;repeat' split at h)<;>cases h<;>first | exact .refl _ _ | (rw [took_σ];exact .refl _ _) | (exact .set _ _ (by assumption))
 | bsl md k n zs ps =>
  simp only [stepOp] at h
  repeat' split at h
  all_goals cases h
  all_goals first | exact .refl _ _ | exact .push _ _ _
 | ld md n x =>
  cases md
  ·simp only [stepOp] at h
   repeat' split at h
   all_goals cases h
   all_goals exact .refl _ _
  ·cases n with
   | none=>(simp only [stepOp] at h;repeat' split at h)<;>cases h<;>exact .set _ _ (by assumption)
   | some n =>
    simp only [stepOp] at h
    repeat' split at h
    all_goals cases h
    rename_i hall
    simp only [Bool.and_eq_true,decide_eq_true_eq] at hall
    exact .set _ _ hall.1
  ·cases n with
   | some n =>
    simp only [stepOp] at h
    repeat' split at h
    all_goals cases h
    rename_i hall
    simp only [Bool.and_eq_true,decide_eq_true_eq,List.all_eq_true] at hall
    refine ⟨fun l h1 h2=>?_,by rw [List.length_set,killAll_len];exact Nat.le_refl _⟩
    rw [List.getElem?_set_ne (by omega),killAll_get,if_neg]
    rintro ⟨hm,_⟩
    have:=(hall.1 l hm).1
    omega
   | none =>
    simp only [stepOp] at h
    repeat' split at h
    all_goals cases h
    rename_i hall
    refine ⟨fun l h1 h2=>?_,by rw [killAll_len];exact Nat.le_refl _⟩
    rw [killAll_get,if_neg]
    rintro ⟨hm,_⟩
    have:=List.all_eq_true.mp hall l hm
    simp only [decide_eq_true_eq] at this
    omega
  ·simp only [stepOp] at h
   repeat' split at h
   all_goals cases h
   all_goals exact .refl _ _
 | slc md k x lo hi =>
  simp only [stepOp] at h
  repeat' split at h
  all_goals cases h
  all_goals first | exact .refl _ _ | (rw [took_σ];exact .refl _ _)
 | mks md k b zs l c =>
  simp only [stepOp] at h
  repeat' split at h
  all_goals cases h
  all_goals first | exact .refl _ _ | exact .push _ _ _
 | call f args =>
  simp only [stepOp] at h
  split at h
  case h_2=>cases h
  rename_i hf
  cases h
  exact hF _ _ _ _ _ _ _ hf
 | callp f args =>
  simp only [stepOp] at h
  split at h
  case h_2=>cases h
  rename_i hf
  split at h
  case isFalse=>cases h
  cases h
  have:=hF _ _ _ _ _ _ _ hf
  exact ⟨fun l h1 h2=>this.1 l (by omega) h2,this.2⟩
 | callv x args =>
  simp only [stepOp] at h
  repeat' split at h
  all_goals cases h
  rename_i hf
  exact hF _ _ _ _ _ _ _ hf
 | st n a x =>
  simp only [stepOp] at h
  repeat' split at h
  all_goals cases h
  rename_i hw
  exact .set _ _ (mayWrite_lo hw)
 | stl n a x rs =>
  simp only [stepOp] at h
  split at h
  case h_2=>cases h
  split at h
  case h_2=>cases h
  split at h
  case isFalse=>cases h
  rename_i hw
  cases h
  exact .set _ _ (mayWrite_lo hw.2.2.1)
 | lko ks k x key =>
  simp only [stepOp] at h
  split at h
  case h_2=>cases h
  split at h
  case h_2=>cases h
  split at h
  case isFalse=>cases h
  rename_i hw
  simp only [Bool.and_eq_true,decide_eq_true_eq] at hw
  repeat' split at h
  all_goals cases h
  ·exact .set _ _ hw.2
  ·exact .refl _ _
 | ment ks x key =>
  simp only [stepOp] at h
  split at h
  case h_2=>cases h
  split at h
  case h_2=>cases h
  split at h
  case isFalse=>cases h
  rename_i hw
  simp only [Bool.and_eq_true] at hw
  have:=mayWrite_lo hw.1.1
  split at h
  ·cases h;exact .set _ _ this
  ·cases h;exact .set _ _ this
  ·cases h
 | estr x st v =>
  simp only [stepOp] at h
  split at h
  case h_2=>cases h
  split at h
  case h_2=>cases h
  split at h
  case isFalse=>cases h
  rename_i hw
  simp only [Bool.and_eq_true] at hw
  have:=mayWrite_lo hw.1
  split at h
  ·cases h;exact .set _ _ this
  ·cases h
 | updo ks x key v =>
  simp only [stepOp] at h
  split at h
  case h_2=>cases h
  split at h
  case h_2=>cases h
  split at h
  case isFalse=>cases h
  rename_i hw
  simp only [Bool.and_eq_true] at hw
  have:=mayWrite_lo hw.1.1
  split at h
  ·cases h;exact .set _ _ this
  ·cases h;exact .set _ _ this
  ·cases h
 | upd ks x key v =>
  simp only [stepOp] at h
  split at h
  case h_2=>cases h
  split at h
  case h_2=>cases h
  split at h
  case isFalse=>cases h
  rename_i hw
  simp only [Bool.and_eq_true] at hw
  have:=mayWrite_lo hw.1.1
  split at h
  ·cases h;exact .set _ _ this
  ·cases h;exact .set _ _ this
  ·cases h
 | appa k b x y =>
  simp only [stepOp] at h
  repeat' split at h
  all_goals cases h
  ·exact .refl _ _
  ·exact .push _ _ _
  ·rename_i hc
   exact (Kept.set _ _ hc.2.1).trans (.push _ _ _)
 | appl k b x y rs =>
  have h:=appl_appa h
  simp only [stepOp] at h
  repeat' split at h
  all_goals cases h
  ·exact .refl _ _
  ·exact .push _ _ _
  ·rename_i hc
   exact (Kept.set _ _ hc.2.1).trans (.push _ _ _)
 | ldn n x u =>
  simp only [stepOp] at h
  repeat' split at h
  all_goals cases h
  all_goals exact .refl _ _
 | clr k zs x =>
  simp only [stepOp] at h
  repeat' split at h
  all_goals cases h
  rename_i hc
  exact .set _ _ (mayWrite_lo hc.2.1)
 | cpy k x y =>
  simp only [stepOp] at h
  repeat' split at h
  all_goals cases h
  rename_i hc
  exact .set _ _ (mayWrite_lo hc.2)
 | app k b x y =>
  simp only [stepOp] at h
  repeat' split at h
  all_goals cases h
  all_goals (rw [took_σ];exact .refl _ _)
 | _ =>
  simp only [stepOp] at h
  repeat' split at h
  all_goals cases h
  all_goals first | exact .refl _ _ | exact .push _ _ _
theorem ins_keep {F:Oracle} {bd:Bd} (hF:KeepF2 F) {s s':St} {i:AIns} (h:stepIns F bd s i=some s'):Kept bd.lo s.σ s'.σ:=by
 unfold stepIns at h
 have go:∀ {r:Option (V × St)},r=stepOp F bd s i.op→(match r with | some (v,s')=>some (s'.set i.dst v) | none=>none)=some s'→Kept bd.lo s.σ s'.σ:=by
  intro r hr h
  split at h
  ·cases h;rw [set_σ];exact step_keep hF hr.symm
  ·cases h
 split at h
 ·exact go rfl h
 ·rename_i g want hg
  split at h
  case h_3=>cases h
  case h_2=>cases h;rw [set_σ];exact .refl _ _
  rename_i t ht
  cases hb:t == want with
  | true =>
   rw [hb] at h
   simp only [cond_true] at h
   exact go rfl h
  | false =>
   rw [hb] at h
   simp only [cond_false,Option.some.injEq] at h
   subst h;rw [set_σ];exact .refl _ _
theorem all_keep {F:Oracle} {bd:Bd} (hF:KeepF2 F):∀ {is:List AIns} {s s':St},stepAll F bd s is=some s'→Kept bd.lo s.σ s'.σ
 | [],s,s',h=>by simp only [stepAll,Option.some.injEq] at h;subst h;exact .refl _ _
 | i :: is,s,s',h=>by
  simp only [stepAll] at h
  split at h
  ·rename_i s1 hs1
   exact (ins_keep hF hs1).trans (all_keep hF h)
  ·cases h
theorem backR_keep {E:ACode→St→Option (AExit × St)} {lo:Nat} (hE:∀ c s e s',E c s=some (e,s')→Kept lo s.σ s'.σ) {ti tx:Nat} {agg:Bool} {asg body:ACode} {env:Env}:∀ (rows:List (List D)) (σ σ':List Ob),backR E ti tx agg asg body env rows σ=some σ'→Kept lo σ σ'
 | [],σ,σ',h=>by simp only [backR,Option.some.injEq] at h;subst h;exact .refl _ _
 | row :: rest,σ,σ',h=>by
  simp only [backR] at h
  split at h
  case h_2=>cases h
  rename_i s1 h1
  split at h
  case h_2=>cases h
  rename_i s2 h2
  exact ((hE _ _ _ _ h1).trans (hE _ _ _ _ h2)).trans (backR_keep hE rest _ _ h)
theorem ev_keep {F:Oracle} {bd:Bd} (hF:KeepF2 F):∀ (n:Nat) (c:ACode) (s:St) (e:AExit) (s':St),ev F bd n c s=some (e,s')→Kept bd.lo s.σ s'.σ
 | 0,_,_,_,_,h=>by simp [ev] at h
 | n+1,c,s,e,s',h=>by
  have ih:=ev_keep (bd:=bd) hF n
  have two:∀ {c1:ACode} {k:St→Option (AExit × St)},(match ev F bd n c1 s with | some (.normal,s1)=>k s1 | r=>r)=some (e,s') →
    (∀ s1,k s1=some (e,s')→Kept bd.lo s1.σ s'.σ)→Kept bd.lo s.σ s'.σ:=by
   intro c1 k h hk
   cases hx:ev F bd n c1 s with
   | none=>rw [hx] at h;cases h
   | some r =>
    obtain ⟨e1,s1⟩:=r
    rw [hx] at h
    have a1:=ih _ _ _ _ hx
    cases e1 with
    | normal=>exact a1.trans (hk s1 h)
    | exit i=>cases h;exact a1
    | ret=>cases h;exact a1
  cases c with
  | skip=>simp only [ev,Option.some.injEq,Prod.mk.injEq] at h;obtain ⟨_,rfl⟩:=h;exact .refl _ _
  | region d ops keep =>
   simp only [ev] at h
   split at h
   ·rename_i s1 hs1
    simp only [Option.some.injEq,Prod.mk.injEq] at h
    obtain ⟨_,rfl⟩:=h
    have hh:=all_keep hF hs1
    exact hh
   ·cases h
  | seq a b=>simp only [ev] at h;exact two h (fun s1 h1=>ih _ _ _ _ h1)
  | cond x a b =>
   simp only [ev] at h
   split at h
   ·rename_i t ht
    cases t
    ·exact ih _ _ _ _ h
    ·exact ih _ _ _ _ h
   ·cases h
  | block i c =>
   simp only [ev] at h
   cases hx:ev F bd n c s with
   | none=>rw [hx] at h;cases h
   | some r =>
    obtain ⟨e1,s1⟩:=r
    rw [hx] at h
    have hh:=ih _ _ _ _ hx
    cases e1 with
    | normal=>cases h;exact hh
    | ret=>cases h;exact hh
    | exit j=>simp only at h;split at h<;>cases h<;>exact hh
  | loop c=>simp only [ev] at h;exact two h (fun s1 h1=>ih _ _ _ _ h1)
  | exit i=>simp only [ev,Option.some.injEq,Prod.mk.injEq] at h;obtain ⟨_,rfl⟩:=h;exact .refl _ _
  | ret=>simp only [ev,Option.some.injEq,Prod.mk.injEq] at h;obtain ⟨_,rfl⟩:=h;exact .refl _ _
  | wrap cut nrm ret exs c =>
   simp only [ev] at h
   cases hx:ev F bd n c s with
   | none=>rw [hx] at h;cases h
   | some r =>
    obtain ⟨e1,s1⟩:=r
    rw [hx] at h
    have hh:=ih _ _ _ _ hx
    rcases wrapEnd_σ h with ⟨h1,_⟩ | ⟨h1,h2,_⟩
    ·rw [h1];exact hh
    ·rw [h1]
     refine ⟨fun l hl1 hl2=>?_,by simp;omega⟩
     rw [List.getElem?_take,if_pos hl2]
     exact hh.1 l hl1 hl2
  | rng f x ti tx kk agg y z =>
   simp only [ev] at h
   split at h
   case h_2=>cases h
   rename_i rows σ0 hgo
   split at h
   case h_2=>cases h
   rename_i σ' hrun
   simp only [Option.some.injEq,Prod.mk.injEq] at h
   obtain ⟨_,rfl⟩:=h
   obtain ⟨q,hq,rfl⟩:=rngGo_eq hgo
   have h1:Kept bd.lo s.σ (s.σ.set q .dead):=⟨fun l h1 h2=>List.getElem?_set_ne (by omega),by rw [List.length_set];exact Nat.le_refl _⟩
   exact h1.trans (backR_keep ih _ _ _ hrun)
theorem core_keep {F:Oracle} (hF:KeepF2 F) {n:Nat} {kp:Kp} {fn:AFun} {args:List V} {σ:List Ob} {lo tr:Nat} {v:V} {σ':List Ob} (h:core F n kp fn args σ lo tr=some (v,σ')):Kept lo σ σ'∧(kp=.pure→σ'=σ):=by
 unfold core at h
 split at h
 case isFalse=>cases h
 split at h
 case h_1=>cases h
 rename_i env henv
 cases hk:kp<;>simp only [hk] at h
 all_goals
  split at h
  case h_1=>cases h
  case h_3=>cases h
  rename_i s e hx
  obtain ⟨a1,a2⟩:=ev_keep hF _ _ _ _ _ hx
  simp only at a1 a2
  split at h
  case h_2=>cases h
 ·split at h
  case h_2=>cases h
  split at h
  case isFalse=>cases h
  cases h
  refine ⟨⟨fun l h1 h2=>?_,by simp;omega⟩,fun _=>?_⟩
  ·rw [List.getElem?_take,if_pos h2];exact a1 l (by omega) h2
  ·refine List.ext_getElem? fun l=>?_
   rw [List.getElem?_take]
   split
   ·rename_i hl;exact a1 l (by omega) hl
   ·rename_i hl;rw [List.getElem?_eq_none (by omega)]
 ·split at h
  case h_2=>cases h
  split at h
  case isFalse=>cases h
  cases h
  refine ⟨⟨fun l h1 h2=>?_,by simp;omega⟩,fun h=>by cases h⟩
  rw [List.getElem?_take,if_pos h2];exact a1 l (by omega) h2
 ·cases h
  exact ⟨⟨a1,a2⟩,fun h=>by cases h⟩
theorem base_keep {F:Oracle} (hF:KeepF2 F) {n:Nat} {fn:AFun} {args:List V} {σ:List Ob} {lo tr:Nat} {v:V} {σ':List Ob} (h:base F n fn args σ lo tr=some (v,σ')):Kept lo σ σ':=by
 unfold base at h
 cases hs:(fn.split && isEmp args) with
 | false =>
  rw [hs] at h
  exact (core_keep hF h).1
 | true =>
  rw [hs] at h
  simp only [cond_true] at h
  split at h
  ·rename_i h1 h2
   split at h
   ·cases h;exact (core_keep hF h1).1
   ·cases h
  ·cases h
theorem once_keep {F:Oracle} (hF:KeepF2 F) {args:List V} {σ:List Ob} {lo tr:Nat} {v:V} {σ':List Ob} (h:onceRun F args σ lo tr=some (v,σ')):Kept lo σ σ':=by
 unfold onceRun at h
 split at h
 case h_2=>cases h
 split at h
 case h_2=>cases h
 split at h
 case h_2=>cases h
 split at h
 case isFalse=>cases h;exact .refl _ _
 split at h
 case h_2=>cases h
 split at h
 case isFalse=>cases h
 rename_i hl
 split at h
 case h_2=>cases h
 rename_i hf
 split at h
 case h_2=>cases h
 split at h
 case h_2=>cases h
 cases h
 exact ((Kept.set _ _ hl).trans (hF _ _ _ _ _ _ _ hf)).trans (Kept.set _ _ hl)
theorem evf_keep (fns:Nat→Option AFun):∀ n,KeepF2 (evf fns n)
 | 0=>by intro f args σ lo tr v σ' h;simp [evf] at h
 | n+1=>by
  intro f args σ lo tr v σ' h
  simp only [evf] at h
  split at h
  case h_1=>cases h
  rename_i af haf
  cases ho:af.once with
  | true=>rw [ho] at h;exact once_keep (evf_keep fns n) h
  | false =>
  rw [ho] at h
  simp only [cond_false] at h
  cases hb:blindOk af args with
  | false=>rw [hb] at h;exact base_keep (evf_keep fns n) h
  | true =>
   rw [hb] at h
   simp only [cond_true] at h
   split at h
   ·split at h
    ·cases h;exact .refl _ _
    ·cases h
   ·cases h
def chkRes (P:Program) (N:Nat):ResultVar→ARes→Bool
 | .tmp t,.tmp t'=>t == t'
 | .cell t ty,.cell t' n=>t == t' && (P.underlying ty).isSome && (match P.info? ty with
   | some i=>n == aggOf P ty i
   | none=>false)
 | _,_=>false
def chkRess (P:Program) (N:Nat):List ResultVar→List ARes→Bool
 | [],[]=>true
 | x :: xs,y :: ys=>chkRes P N x y && chkRess P N xs ys
 | _,_=>false
def chkFun (P:Program) (f:Nat) (af:AFun):Bool :=
 bif af.once then entered P (fnOf f) else match P.funcs[fnOf f]? with
 | some fn=>entered P (fnOf f) && (match fn.body with
  | some c=>chkCode P fn.ntmps c af.body
  | none=>false) && chkRess P fn.ntmps fn.results.toList af.results && decide (af.params≤fn.ntmps)
 | none=>false
section
variable {P:Program} {N:Nat} {ds:List Deferred} {g g':G} {w w':World} {Pr:Nat→Prop} {s s':St} {a a':Act} {F:Oracle} {bd:Bd}
def readRes (P:Program) (tmps:Array Value) (w:World):ResultVar→Value→Prop:=fun r v =>
 (match r with
  | .tmp t=>pure (tmps.getD t undef)
  | .cell a t=>do loadVar t (← asAddr (tmps.getD a undef)):Sem Value).run P w=.ok v w
theorem res_one (hA:InvA N ds g w Pr s a) {r:ResultVar} {r':ARes} (hc:chkRes P N r r'=true) {n:Nat} {v:V} (h:resOne s n r'=some v) (d:Nat) :
  ∃ u,readRes P a.tmps w r u∧∃ g1,Ext g w g1 w∧Fr Pr g w g1 w∧RepV g1 w Pr (.tmp d) v u∧Like g g1∧(∀ σ:List Ob,(∀ l,l < σ.length→l < n)→σ.length≤s.σ.length→Inv (g.cut σ.length) w Pr σ→Inv (g1.cut σ.length) w Pr σ):=by
 unfold chkRes at hc
 split at hc
 ·rename_i t t'
  have ht:t=t':=eq_of_beq hc
  subst ht
  simp only [resOne,Option.some.injEq] at h
  subst h
  let φ:Place→Place:=fun p=>if p.1=.tmp t then (.tmp d,p.2) else p
  refine ⟨_,rfl,g.ren Pr φ,Ext.ren φ,Fr.ren φ,RepV.ren φ (fun p=>by simp [φ]) (hA.env t),⟨rfl,rfl⟩,fun σ _ _ hσ=>?_⟩
  exact Inv.ren φ (fun l i=>by simp [φ]) hσ
 ·rename_i t ty t' m
  simp only [Bool.and_eq_true,beq_iff_eq] at hc
  obtain ⟨⟨rfl,hd⟩,hi⟩:=hc
  split at hi
  case h_2=>cases hi
  rename_i i hi'
  have hn:m=aggOf P ty i:=eq_of_beq hi
  simp only [resOne] at h
  split at h
  case h_2=>cases h
  rename_i l off hr
  have he:=hA.env t
  rw [hr] at he
  obtain ⟨b,q,hl,he⟩:=he
  split at h
  case h_2=>cases h
  rename_i cs hcs
  obtain ⟨b',q',arr,tt,h3,h4,h5,h6,h7⟩:=hA.inv.ob _ _ (getCells_eq hcs)
  rw [hl] at h3
  cases h3
  let φ:Place→Place:=fun p=>if p.1=.cell l∧n≤l then (match p.2 with | [j]=>(.tmp d,if m=none then [] else [j - off]) | _=>p) else p
  have hinv:∀ σ:List Ob,(∀ l,l < σ.length→l < n)→σ.length≤s.σ.length→Inv (g.cut σ.length) w Pr σ→Inv ((g.ren Pr φ).cut σ.length) w Pr σ:=by
   intro σ hσ _ h0
   refine ⟨h0.len,fun l' o ho=>?_,h0.lt,fun c hc=>?_,h0.gl⟩
   ·refine RepOb.ren φ (fun i=>?_) (h0.ob l' o ho)
    simp only [φ]
    rw [if_neg]
    rintro ⟨e,e2⟩
    cases e
    have:=hσ l (List.getElem?_eq_some_iff.mp ho).1
    omega
   ·obtain ⟨p1,p2,p3⟩:=h0.pr c hc
    exact ⟨p1,p2,by simpa [G.ren,G.cut,hc] using p3⟩
  cases m with
  | none =>
   have hs:isStr P ty=false:=by
    cases hb:isStr P ty
    ·rfl
    ·simp [aggOf,hb] at hn
   simp only at h
   split at h
   case h_2=>cases h
   rename_i c hcc
   cases h
   obtain ⟨u,k1,k2,k3⟩:=h7 _ _ hcc
   have hrun:readRes P a.tmps w (.cell t ty) u:=by
    simp only [readRes,he,asAddr,Sem.run_bind,Sem.run_pure,Result.andThen_ok,loadVar,run_isAgg hd,hs,Bool.false_eq_true,if_false,run_load,cell_of h5]
    rw [Nat.add_comm q off,Nat.add_comm off q,k1]
   refine ⟨u,hrun,g.ren Pr φ,Ext.ren φ,Fr.ren φ,?_,⟨rfl,rfl⟩,hinv⟩
   rw [repV_c]
   by_cases hnl:n≤l
   ·rw [if_pos hnl]
    exact RepC.ren φ (by simp [φ,hnl]) k3
   ·rw [if_neg hnl]
    exact RepC.down (RepC.ren φ rfl k3)
  | some m =>
   have hs:isStr P ty=true∧m=i.size:=by
    cases hb:isStr P ty
    ·simp [aggOf,hb] at hn
    ·simp [aggOf,hb] at hn;exact ⟨rfl,hn⟩
   obtain ⟨hs,rfl⟩:=hs
   simp only at h
   split at h
   case isFalse=>cases h
   rename_i hle
   cases h
   obtain ⟨us,u1,u2,u3⟩:=take_list (R:=fun i c u=>u.oneCell'=true∧RepC g w Pr (.cell l,[i]) c u) h7 hle
   have hrun:readRes P a.tmps w (.cell t ty) (.agg us.toArray):=by
    have h1:=run_loadCells_list (P:=P) w ⟨b,q+off,none⟩ us (fun j v hj=>by rw [addr_add];exact (cell_of h5 _).trans (u2 j v hj))
    rw [u1] at h1
    simp only [readRes,he,asAddr,Sem.run_bind,Sem.run_pure,Result.andThen_ok,loadVar,run_isAgg hd,hs,if_true,run_sizeOf w hi',Program.cellsOf,hi',Option.map_some,Option.getD_some,h1]
   refine ⟨_,hrun,g.ren Pr φ,Ext.ren φ,Fr.ren φ,?_,⟨rfl,rfl⟩,hinv⟩
   have hlen:us.toArray.size=((cs.drop off).take i.size).length:=by simp [u1];omega
   by_cases hnl:n≤l
   ·rw [if_pos hnl]
    refine ⟨us.toArray,rfl,hlen,fun j c hj=>?_⟩
    obtain ⟨u,k1,k2,k3⟩:=u3 j c hj
    exact ⟨u,by simpa using k1,k2,RepC.ren φ (by simp [φ,hnl]) k3⟩
   ·rw [if_neg hnl]
    refine ⟨us.toArray,rfl,by simpa using hlen,fun j c hj=>?_⟩
    simp only [List.getElem?_map,Option.map_eq_some_iff] at hj
    obtain ⟨c0,hc0,rfl⟩:=hj
    obtain ⟨u,k1,k2,k3⟩:=u3 j c0 hc0
    exact ⟨u,by simpa using k1,k2,RepC.down (RepC.ren φ rfl k3)⟩
 ·cases hc
theorem res_raw (hA:InvA N ds g w Pr s a) {r:ResultVar} {r':ARes} (hc:chkRes P N r r'=true) {n:Nat} {v:V} (h:resOne s n r'=some v):∃ u,readRes P a.tmps w r u∧∀ q,RepV g w Pr q v.down u:=by
 unfold chkRes at hc
 split at hc
 ·rename_i t t'
  have ht:t=t':=eq_of_beq hc
  subst ht
  simp only [resOne,Option.some.injEq] at h
  subst h
  exact ⟨_,rfl,fun q=>RepV.down (hA.env t)⟩
 ·rename_i t ty t' m
  simp only [Bool.and_eq_true,beq_iff_eq] at hc
  obtain ⟨⟨rfl,hd⟩,hi⟩:=hc
  split at hi
  case h_2=>cases hi
  rename_i i hi'
  have hn:m=aggOf P ty i:=eq_of_beq hi
  simp only [resOne] at h
  split at h
  case h_2=>cases h
  rename_i l off hr
  have he:=hA.env t
  rw [hr] at he
  obtain ⟨b,q,hl,he⟩:=he
  split at h
  case h_2=>cases h
  rename_i cs hcs
  obtain ⟨b',q',arr,tt,h3,h4,h5,h6,h7⟩:=hA.inv.ob _ _ (getCells_eq hcs)
  rw [hl] at h3
  cases h3
  cases m with
  | none =>
   have hs:isStr P ty=false:=by
    cases hb:isStr P ty
    ·rfl
    ·simp [aggOf,hb] at hn
   simp only at h
   split at h
   case h_2=>cases h
   rename_i c hcc
   cases h
   obtain ⟨u,k1,k2,k3⟩:=h7 _ _ hcc
   have hrun:readRes P a.tmps w (.cell t ty) u:=by
    simp only [readRes,he,asAddr,Sem.run_bind,Sem.run_pure,Result.andThen_ok,loadVar,run_isAgg hd,hs,Bool.false_eq_true,if_false,run_load,cell_of h5]
    rw [Nat.add_comm q off,Nat.add_comm off q,k1]
   refine ⟨u,hrun,fun p=>?_⟩
   have h0:RepC g w Pr (p,[]) c.down u:=RepC.down k3
   by_cases hnl:n≤l
   ·rw [if_pos hnl];exact h0
   ·rw [if_neg hnl];exact RepC.down h0
  | some m =>
   have hs:isStr P ty=true∧m=i.size:=by
    cases hb:isStr P ty
    ·simp [aggOf,hb] at hn
    ·simp [aggOf,hb] at hn;exact ⟨rfl,hn⟩
   obtain ⟨hs,rfl⟩:=hs
   simp only at h
   split at h
   case isFalse=>cases h
   rename_i hle
   cases h
   obtain ⟨us,u1,u2,u3⟩:=take_list (R:=fun i c u=>u.oneCell'=true∧RepC g w Pr (.cell l,[i]) c u) h7 hle
   have hrun:readRes P a.tmps w (.cell t ty) (.agg us.toArray):=by
    have h1:=run_loadCells_list (P:=P) w ⟨b,q+off,none⟩ us (fun j v hj=>by rw [addr_add];exact (cell_of h5 _).trans (u2 j v hj))
    rw [u1] at h1
    simp only [readRes,he,asAddr,Sem.run_bind,Sem.run_pure,Result.andThen_ok,loadVar,run_isAgg hd,hs,if_true,run_sizeOf w hi',Program.cellsOf,hi',Option.map_some,Option.getD_some,h1]
   have h0:∀ p,RepV g w Pr p (.agg (((cs.drop off).take i.size).map C.down)) (.agg us.toArray):=by
    intro p
    refine ⟨us.toArray,rfl,by simp [u1];omega,fun j c hj=>?_⟩
    simp only [List.getElem?_map,Option.map_eq_some_iff] at hj
    obtain ⟨c0,hc0,rfl⟩:=hj
    obtain ⟨u,k1,k2,k3⟩:=u3 j c0 hc0
    exact ⟨u,by simpa using k1,k2,RepC.down k3⟩
   refine ⟨_,hrun,fun p=>?_⟩
   by_cases hnl:n≤l
   ·rw [if_pos hnl];exact h0 p
   ·rw [if_neg hnl];exact RepV.down (h0 p)
 ·cases hc
theorem res_all (hA:InvA N ds g w Pr s a):∀ {rs:List ResultVar} {rs':List ARes} {vs:List V},chkRess P N rs rs'=true→resAll s rs'=some vs →
  ∃ us:List Value,us.length=rs.length∧vs.length=us.length∧(∀ (i:Nat) (r:ResultVar) (u:Value),rs[i]?=some r→us[i]?=some u→readRes P a.tmps w r u)∧∀ (i:Nat) (v:V),vs[i]?=some v→∃ u,us[i]?=some u∧v.down=v∧∀ r,RepV g w Pr r v u
 | [],rs',vs,hc,h=>by
  cases rs' with
  | nil=>simp [resAll] at h;subst h;exact ⟨[],by simp⟩
  | cons r rs=>simp [chkRess] at hc
 | r :: rs,rs',vs,hc,h=>by
  cases rs' with
  | nil=>simp [chkRess] at hc
  | cons r' rs' =>
   simp only [chkRess,Bool.and_eq_true] at hc
   simp only [resAll] at h
   split at h
   case h_2=>cases h
   rename_i v vs' hv hvs
   cases h
   obtain ⟨us,l0,l1,l2,l3⟩:=res_all hA hc.2 hvs
   obtain ⟨u,h1,hrep⟩:=res_raw (n:=s.σ.length) hA hc.1 hv
   refine ⟨u :: us,by simp [l0],by simp [l1],?_,?_⟩
   ·intro i r0 u0 hi hj
    cases i with
    | zero=>simp at hi hj;subst hi;subst hj;exact h1
    | succ i=>exact l2 i r0 u0 (by simpa using hi) (by simpa using hj)
   ·intro i v0 hi
    cases i with
    | zero=>simp at hi;subst hi;exact ⟨u,rfl,down_down _,hrep⟩
    | succ i=>simpa using l3 i v0 (by simpa using hi)
theorem run_results {fn:Func} {tmps:Array Value} {us:List Value} (hl:us.length=fn.results.toList.length) (h:∀ (i:Nat) (r:ResultVar) (u:Value),fn.results.toList[i]?=some r→us[i]?=some u→readRes P tmps w r u) :
  (results fn tmps).run P w=.ok (if h:us.toArray.size=1 then us.toArray[0] else .tuple us.toArray) w:=by
 have key:∀ (rs:List ResultVar) (us:List Value),us.length=rs.length→(∀ (i:Nat) (r:ResultVar) (u:Value),rs[i]?=some r→us[i]?=some u→readRes P tmps w r u) →
   (rs.mapM fun (r:ResultVar)=>(match r with | .tmp t=>pure (tmps.getD t undef) | .cell a t=>do loadVar t (← asAddr (tmps.getD a undef)):Sem Value)).run P w=.ok us w:=by
  intro rs
  induction rs with
  | nil=>intro us hl _;obtain rfl:us=[]:=List.eq_nil_of_length_eq_zero (by simpa using hl);simp
  | cons r rs ih =>
   intro us hl h
   cases us with
   | nil=>simp at hl
   | cons u us =>
    have h0:readRes P tmps w r u:=h 0 r u rfl rfl
    have h1:=ih us (by simpa using hl) (fun i r u hi hj=>h (i+1) r u (by simpa using hi) (by simpa using hj))
    unfold readRes at h0
    rw [List.mapM_cons]
    simp only [Sem.run_bind]
    rw [h0]
    simp only [Result.andThen_ok]
    rw [h1]
    simp
 have:=key fn.results.toList us hl h
 simp only [results,Array.mapM_eq_mapM_toList,Sem.run_bind,Sem.run_map,Sem.run_pure]
 erw [this]
 rfl
theorem run_res1 {fn:Func} {tmps:Array Value} {r:ResultVar} {u:Value} (hr:fn.results.toList=[r]) (h:readRes P tmps w r u):(results fn tmps).run P w=.ok u w:=by
 have:=run_results (P:=P) (w:=w) (fn:=fn) (tmps:=tmps) (us:=[u]) (by simp [hr]) (fun i r' u' hi hj=>by
  rw [hr] at hi
  cases i with
  | zero=>simp at hi hj;subst hi;subst hj;exact h
  | succ i=>simp at hi)
 simpa using this
theorem params_get:∀ (args:List V) (i:Nat) (env:Env),params i args=some env→∀ n,env.get n=(if i≤n then (args[n - i]?).getD (.c (.b .any)) else .c (.b .any))
 | [],i,env,h,n=>by simp [params] at h;subst h;simp [Env.get]
 | v :: vs,i,env,h,n=>by
  simp only [params] at h
  split at h
  case h_2=>cases h
  rename_i e he
  cases h
  rw [env_get_cons,params_get vs (i+1) e he n]
  by_cases h1:i=n
  ·subst h1;simp
  ·rw [if_neg h1]
   by_cases h2:i≤n
   ·rw [if_pos (by omega),if_pos h2,show n - i=(n - (i+1))+1 by omega]
    simp
   ·rw [if_neg (by omega),if_neg h2]
theorem evf_entered {fns:Nat→Option AFun} (hfns:∀ f af,fns f=some af→chkFun P f af=true) (n:Nat):∀ f args σ lo tr r,evf fns n f args σ lo tr=some r→entered P (fnOf f)=true:=by
 intro f args σ lo tr r h
 cases n with
 | zero=>simp [evf] at h
 | succ n =>
  simp only [evf] at h
  split at h
  case h_1=>cases h
  rename_i af haf
  have:=hfns f af haf
  unfold chkFun at this
  cases ho:af.once with
  | true=>rw [ho] at this;exact this
  | false =>
  rw [ho] at this
  simp only [cond_false] at this
  split at this
  ·simp only [Bool.and_eq_true] at this;exact this.1.1.1
  ·cases this
theorem core_low {F:Oracle} (hF:LowF F) {n:Nat} {kp:Kp} {fn:AFun} {args:List V} {σ:List Ob} {lo tr:Nat} {v:V} {σ':List Ob} (h:core F n kp fn args σ lo tr=some (v,σ')) (m:Nat) (hm:m≤tr) (hl:Low m σ):Low m σ'∧σ.length≤σ'.length:=by
 unfold core at h
 split at h
 case isFalse=>cases h
 split at h
 case h_1=>cases h
 rename_i env henv
 cases hk:kp<;>simp only [hk] at h
 all_goals
  split at h
  case h_1=>cases h
  case h_3=>cases h
  rename_i s e hx
  obtain ⟨a1,a2⟩:=ev_low (m:=m) hF (by simp only;omega) _ _ _ _ _ hx hl
  simp only at a2
  split at h
  case h_2=>cases h
 ·split at h
  case h_2=>cases h
  split at h
  case isFalse=>cases h
  cases h
  refine ⟨⟨by simp;have:=hl.1;omega,fun l o hlt ho=>?_⟩,by simp;omega⟩
  rw [List.getElem?_take] at ho
  split at ho
  ·exact a1.2 l o hlt ho
  ·cases ho
 ·split at h
  case h_2=>cases h
  split at h
  case isFalse=>cases h
  cases h
  refine ⟨⟨by simp;have:=hl.1;omega,fun l o hlt ho=>?_⟩,by simp;omega⟩
  rw [List.getElem?_take] at ho
  split at ho
  ·exact a1.2 l o hlt ho
  ·cases ho
 ·cases h
  exact ⟨a1,a2⟩
theorem base_low {F:Oracle} (hF:LowF F) {n:Nat} {fn:AFun} {args:List V} {σ:List Ob} {lo tr:Nat} {v:V} {σ':List Ob} (h:base F n fn args σ lo tr=some (v,σ')) (m:Nat) (hm:m≤tr) (hl:Low m σ):Low m σ'∧σ.length≤σ'.length:=by
 unfold base at h
 cases hs:(fn.split && isEmp args) with
 | false =>
  rw [hs] at h
  exact core_low hF h m hm hl
 | true =>
  rw [hs] at h
  simp only [cond_true] at h
  split at h
  ·rename_i h1 h2
   split at h
   ·cases h;exact core_low hF h1 m hm hl
   ·cases h
  ·cases h
theorem once_low {F:Oracle} (hF:LowF F) {args:List V} {σ:List Ob} {lo tr:Nat} {v:V} {σ':List Ob} (h:onceRun F args σ lo tr=some (v,σ')) (m:Nat) (hm:m≤tr) (hl:Low m σ):Low m σ'∧σ.length≤σ'.length:=by
 have hput:∀ {σ:List Ob} {cs:List C} {l:Nat} {j:Nat} {x:D},Low m σ→getCells σ l=some cs→∀ o,o=Ob.cells (cs.set j (.b (.d x)))→Low m (σ.set l o):=by
  intro σ cs l j x hl hg o ho
  subst ho
  refine (Low.set hl (fun hlt=>?_)).1
  have h0:=hl.2 _ _ hlt (getCells_some hg)
  simp only [Ob.closed,List.all_eq_true] at h0 ⊢
  intro y hy
  rcases List.mem_or_eq_of_mem_set hy with hy | rfl
  ·exact h0 y hy
  ·rfl
 unfold onceRun at h
 split at h
 case h_2=>cases h
 split at h
 case h_2=>cases h
 rename_i cs hcs
 split at h
 case h_2=>cases h
 split at h
 case isFalse=>cases h;exact hl.refl
 split at h
 case h_2=>cases h
 split at h
 case isFalse=>cases h
 split at h
 case h_2=>cases h
 rename_i σ1 hf
 split at h
 case h_2=>cases h
 rename_i cs1 hcs1
 split at h
 case h_2=>cases h
 cases h
 obtain ⟨k1,k2⟩:=hF _ _ _ _ _ _ _ hf m hm (hput hl hcs _ rfl)
 rw [List.length_set] at k2
 refine ⟨?_,by rw [List.length_set];exact k2⟩
 refine (Low.set k1 (fun hlt=>?_)).1
 have h0:=k1.2 _ _ hlt (getCells_some hcs1)
 simp only [Ob.closed,List.all_eq_true] at h0 ⊢
 intro y hy
 rcases List.mem_or_eq_of_mem_set hy with hy | rfl
 ·rcases List.mem_or_eq_of_mem_set hy with hy | rfl
  ·exact h0 y hy
  ·rfl
 ·rfl
theorem evf_low (fns:Nat→Option AFun):∀ n,LowF (evf fns n)
 | 0=>by intro f args σ lo tr v σ' h;simp [evf] at h
 | n+1=>by
  intro f args σ lo tr v σ' h m hm hl
  simp only [evf] at h
  split at h
  case h_1=>cases h
  rename_i af haf
  cases ho:af.once with
  | true=>rw [ho] at h;exact once_low (evf_low fns n) h m hm hl
  | false =>
  rw [ho] at h
  simp only [cond_false] at h
  cases hb:blindOk af args with
  | false=>rw [hb] at h;exact base_low (evf_low fns n) h m hm hl
  | true =>
   rw [hb] at h
   simp only [cond_true] at h
   split at h
   ·split at h
    ·cases h;exact hl.refl
    ·cases h
   ·cases h
theorem ress_len:∀ {xs:List ResultVar} {ys:List ARes},chkRess P N xs ys=true→xs.length=ys.length
 | [],[],_=>rfl
 | [],_ :: _,h=>by simp [chkRess] at h
 | _ :: _,[],h=>by simp [chkRess] at h
 | x :: xs,y :: ys,h=>by simp only [chkRess,Bool.and_eq_true] at h;simp [ress_len h.2]
theorem tup_rep {us':List V} {us:List Value} {d:Nat} (l3:∀ (i:Nat) (v:V),us'[i]?=some v→∃ u,us[i]?=some u∧v.down=v∧∀ r,RepV g w Pr r v u):RepV g w Pr (.tmp d) (.tup us') (.tuple us.toArray):=by
 refine ⟨us.toArray,rfl,fun i x hi=>?_⟩
 obtain ⟨u,k1,k2,k3⟩:=l3 i x hi
 refine ⟨u,by simpa using k1,?_⟩
 have h0:=k3 (.tmp d)
 cases x with
 | c y=>exact RepV1.down (x:=.c y) (path:=[]) h0 |> fun h=>by rw [k2] at h;exact h
 | agg y=>exact RepV1.down (x:=.agg y) (path:=[]) h0 |> fun h=>by rw [k2] at h;exact h
 | tup y=>simp [V.down] at k2
theorem repV_closed {r:Root} {x:V} {v:Value} (h:RepV g w Pr r x v):x.closed g.loc.length=true:=by
 cases x with
 | c y=>exact repV1_closed (x:=.c y) (path:=[]) h
 | agg y=>exact repV1_closed (x:=.agg y) (path:=[]) h
 | tup vs =>
  obtain ⟨arr,h1,h2⟩:=h
  simp only [V.closed,List.all_eq_true]
  intro x hx
  obtain ⟨i,hi,rfl⟩:=List.mem_iff_getElem.mp hx
  obtain ⟨u,_,k2⟩:=h2 i vs[i] (by simp [hi])
  exact repV1_closed k2
theorem core_sound {fns:Nat→Option AFun} (hm:P.follows .mixedOrders=true) {n:Nat} (hS:Sound P (evf fns n)) (hen:∀ f args σ lo tr r,evf fns n f args σ lo tr=some r→entered P (fnOf f)=true) {f:Nat} {af:AFun} (hchk:chkFun P f af=true) (honce:af.once=false) {kp:Kp} {args:List V} {σ:List Ob} {lo tr:Nat} {v:V} {σ':List Ob}
  (h:core (evf fns n) n kp af args σ lo tr=some (v,σ')) {g:G} {w:World} {Pr:Nat→Prop} {vs:Array Value} {d:Nat} (hI:Inv g w Pr σ) (hargs:Args g w Pr args vs):Calls P (fnOf f) vs w (Answer g w Pr d v σ'):=by
  unfold core at h
  unfold chkFun at hchk
  rw [honce] at hchk
  simp only [cond_false] at hchk
  split at hchk
  case h_2=>cases hchk
  rename_i fn hfn
  simp only [Bool.and_eq_true,decide_eq_true_eq] at hchk
  obtain ⟨⟨⟨hen',hbody⟩,hres⟩,hpar⟩:=hchk
  split at hbody
  case h_2=>cases hbody
  rename_i c hc
  split at h
  case isFalse=>cases h
  rename_i hlen
  split at h
  case h_1=>cases h
  rename_i env henv
  obtain ⟨v1,v2⟩:=hargs
  have hA:InvA fn.ntmps [] g w Pr ⟨env,σ⟩ { tmps:=vs ++ Array.replicate (fn.ntmps - vs.size) undef,defers:=[] }:=by
   refine ⟨hI,fun t=>?_,by simp;omega,rfl⟩
   rw [params_get args 0 env henv t]
   simp only [Nat.zero_le,if_true,Nat.sub_zero]
   cases ht:args[t]? with
   | none=>trivial
   | some x =>
    obtain ⟨x1,u,x2,x3⟩:=v2 t x ht
    have hlt:t < vs.size:=(Array.getElem?_eq_some_iff.mp x2).1
    simp only [Option.getD_some,Array.getD_eq_getD_getElem?]
    rw [Array.getElem?_append_left hlt,x2]
    exact x3
  have hlow0:Low σ.length σ:=inv_low (s:=⟨env,σ⟩) hI
  have body:∀ (bd:Bd) (e:AExit) (s:St),ev (evf fns n) bd n af.body ⟨env,σ⟩=some (e,s)→(∀ i,e≠.exit i) →
    (∀ (ds:List Deferred) (g1:G) (a1:Act) (w1:World),Ext g w g1 w1→Fr Pr g w g1 w1→InvA fn.ntmps ds g1 w1 Pr s a1→∃ u,(results fn a1.tmps).run P w1=.ok u w1∧Answer g w Pr d v σ' (.returned u) w1) →
    Calls P (fnOf f) vs w (Answer g w Pr d v σ'):=by
   intro bd e s hev hne hfin
   refine wd_calls.1 (callsIn_of_wp_marks (F:=Wd none) (n:=0) hfn hc trivial (wpIn_mono (ev_ok hm hS hen n af.body c ⟨env,σ⟩ e s g _ w [] Pr none 0 hbody hev hA .nil .none) ?_))
   rintro e' a' w' ⟨rfl,Pr1,ds1,g1,y1,y2,_,y3,x1,x2,x3⟩
   have hP1:InvA fn.ntmps ds1 g1 w' Pr s a':=by
    have hp:∀ b,Pr b→Pr1 b:=y1
    exact ⟨⟨x3.inv.len,fun l o ho=>RepOb.weaken (x3.inv.ob l o ho) hp,x3.inv.lt,fun b hb=>x3.inv.pr b (hp b hb),x3.inv.gl⟩,fun t=>RepV.weaken (x3.env t) hp,x3.size,x3.defers⟩
   have key:LeavesInM (Wd none) 0 P fn a'.tmps (Answer g w Pr d v σ') a'.defers .returning w':=by
    rw [x3.defers]
    have go:∀ (ds:List Deferred) (W:World),(∀ d ∈ ds,d ∈ ds1)→Marks g1 (fun _=>True) W ds→Ext g w g1 W→Fr Pr g w g1 W→InvA fn.ntmps ds1 g1 W Pr s a'→LeavesInM (Wd none) 0 P fn a'.tmps (Answer g w Pr d v σ') ds .returning W:=by
     intro ds
     induction ds with
     | nil=>intro W _ _ z1 z2 z3;exact hfin ds1 g1 a' W z1 z2 z3
     | cons d0 ds ih =>
      intro W hsub hM z1 z2 z3
      obtain ⟨b,m1,_,m3,m4⟩:=hM.2 d0 List.mem_cons_self
      subst m1
      have hbn:w.heap.size≤b:=by
       rcases y3 _ (hsub _ List.mem_cons_self) with q | ⟨b',q1,q2⟩
       ·cases q
       ·cases q1;exact q2
      have hc1:(Obj.deferred (some ([]:List Deferred))).isCells=false:=rfl
      refine ⟨by simp,.inl ⟨b,W.putObj b (.deferred none),rfl,run_takeDeferred m4,ih _ (fun d hd=>hsub d (List.mem_cons_of_mem _ hd)) ?_ (z1.trans (put_ext m3 m4 hc1)) (fun c hc=>?_) ⟨put_inv z3.inv m3 m4 hc1,z3.env.ext (put_ext m3 m4 hc1) (fun _ _=>Keep.refl _ _),z3.size,z3.defers⟩⟩⟩
      ·have hnd:=hM.1
       simp only [List.map_cons,List.nodup_cons] at hnd
       refine ⟨hnd.2,fun d hd=>?_⟩
       obtain ⟨b2,n1,n2,n3,n4⟩:=hM.2 d (List.mem_cons_of_mem _ hd)
       refine ⟨b2,n1,n2,n3,?_⟩
       have hne:b2≠b:=by
        rintro rfl
        exact hnd.1 (List.mem_map.mpr ⟨d,hd,by rw [n1]⟩)
       rw [World.putObj_heap_other hne];exact n4
      ·have hne:c≠b:=by have:=(hI.pr c hc).1;omega
       obtain ⟨q1,q2,q3⟩:=z2 c hc
       exact ⟨by rw [World.putObj_heap_other hne];exact q1,q2,q3⟩
    exact go ds1 w' (fun _ h=>h) ⟨y2.1,fun d hd=>let ⟨b,h1,_,h3,h4⟩:=y2.2 d hd;⟨b,h1,trivial,h3,h4⟩⟩ x1 x2 hP1
   cases e with
   | normal=>exact key
   | ret=>exact key
   | exit i=>exact absurd rfl (hne i)
  have hlen0:g.loc.length=σ.length:=hI.len
  have tail:∀ (bd:Bd),(σ.length≤bd.tr)→(match ev (evf fns n) bd n af.body ⟨env,σ⟩ with
     | some (.exit _,_)=>none
     | some (_,s)=>match resOf s σ.length af.results with
       | some v=>match frzV (fun l=>decide (σ.length≤l)) s.σ v with
        | some v=>if v.closed σ.length then some (v,s.σ.take σ.length) else none
        | none=>none
       | none=>none
     | none=>none)=some (v,σ')→Calls P (fnOf f) vs w (Answer g w Pr d v σ'):=by
   intro bd hbd h
   split at h
   case h_1=>cases h
   case h_3=>cases h
   rename_i e s hev hne
   split at h
   case h_2=>cases h
   rename_i v0 hv0
   split at h
   case h_2=>cases h
   rename_i v1 hfz
   split at h
   case isFalse=>cases h
   rename_i hcl
   cases h
   have hlow:=(ev_low (m:=σ.length) (evf_low fns n) hbd _ _ _ _ _ hne hlow0)
   have hlen1:σ.length≤s.σ.length:=hlow.2
   refine body bd e s hne (fun i hi=>?_) ?_
   ·subst hi;exact hev _ rfl
   ·intro ds g1 a1 w1 x1 x2 x3
    have hcutI:Inv (g1.cut σ.length) w1 Pr (s.σ.take σ.length):=x3.inv.cut hlow.1
    have htk:(s.σ.take σ.length).length=σ.length:=by simp;omega
    unfold resOf at hv0
    split at hv0
    ·rename_i r' hr'
     have hres':=hres
     rw [hr'] at hres'
     obtain ⟨r,hr⟩:∃ r,fn.results.toList=[r]:=by
      cases hl:fn.results.toList with
      | nil=>rw [hl] at hres';simp [chkRess] at hres'
      | cons r rs=>cases rs with
       | nil=>exact ⟨r,rfl⟩
       | cons r2 rs=>rw [hl] at hres';simp [chkRess] at hres'
     rw [hr] at hres'
     simp only [chkRess,Bool.and_true] at hres'
     obtain ⟨u,h1,g2,e1,e2,e3,e5,e4⟩:=res_one x3 hres' hv0 d
     have hpr:∀ b,Pr b→∀ l,g2.kind b≠.obj l:=fun b hb=>by rw [e5.kind];exact (x3.inv.pr b hb).2.1
     refine ⟨u,run_res1 hr h1,u,(g2.frz fun l=>decide (σ.length≤l)).cut σ.length,rfl,((x1.trans e1).trans (Ext.frz _)).cut (by omega),fun b hb=>?_,?_,RepV.cut (frzV_rep x3.inv e5 hfz e3) hcl⟩
     ·have:=((x2.trans e2).trans (Fr.frz (fun l=>decide (σ.length≤l)) hpr)) b hb;exact this
     ·have:=e4 (s.σ.take σ.length) (fun l hl=>by omega) (by omega) (by rw [htk];exact hcutI)
      rw [htk] at this
      exact Inv.frz (by omega) this
    ·rename_i hr'
     split at hv0
     case h_2=>cases hv0
     rename_i us' hus
     cases hv0
     obtain ⟨us,l0,l1,l2,l3⟩:=res_all x3 hres hus
     refine ⟨_,run_results l0 l2,_,(g1.frz fun l=>decide (σ.length≤l)).cut σ.length,rfl,(x1.trans (Ext.frz _)).cut (by omega),fun b hb=>(x2.trans (Fr.frz (fun l=>decide (σ.length≤l)) (fun b hb=>(x3.inv.pr b hb).2.1))) b hb,Inv.frz (by omega) hcutI,?_⟩
     have hne1:¬ us.toArray.size=1:=by
      intro h1
      simp only [List.size_toArray] at h1
      have h2:af.results.length=1:=by have:=ress_len hres;omega
      obtain ⟨r,hr⟩:=List.length_eq_one_iff.mp h2
      exact hr' r hr
     rw [dif_neg hne1]
     have hrep:RepV g1 w1 Pr (.tmp d) (.tup us') (.tuple us.toArray):=tup_rep l3
     exact RepV.cut (frzV_rep x3.inv ⟨rfl,rfl⟩ hfz hrep) hcl
  cases hk:kp<;>simp only [hk] at h
  ·exact tail ⟨max lo σ.length,max tr σ.length⟩ (by simp only;omega) h
  ·exact tail ⟨lo,max tr σ.length⟩ (by simp only;omega) h
  ·split at h
   case h_1=>cases h
   case h_3=>cases h
   rename_i e s hev hne
   split at h
   case h_2=>cases h
   rename_i v0 hv0
   cases h
   refine body ⟨lo,tr⟩ e s hne (fun i hi=>?_) ?_
   ·subst hi;exact hev _ rfl
   ·intro ds g1 a1 w1 x1 x2 x3
    unfold resOf at hv0
    split at hv0
    ·rename_i r' hr'
     have hres':=hres
     rw [hr'] at hres'
     obtain ⟨r,hr⟩:∃ r,fn.results.toList=[r]:=by
      cases hl:fn.results.toList with
      | nil=>rw [hl] at hres';simp [chkRess] at hres'
      | cons r rs=>cases rs with
       | nil=>exact ⟨r,rfl⟩
       | cons r2 rs=>rw [hl] at hres';simp [chkRess] at hres'
     rw [hr] at hres'
     simp only [chkRess,Bool.and_true] at hres'
     obtain ⟨u,h1,g2,e1,e2,e3,e5,e4⟩:=res_one x3 hres' hv0 d
     have hfull:∀ gg:G,Inv gg w1 Pr s.σ→gg.cut s.σ.length=gg:=by
      intro gg hg
      simp only [G.cut]
      rw [List.take_of_length_le (by rw [hg.len];omega)]
     have h2:=e4 s.σ (fun l hl=>hl) (Nat.le_refl _) (by rw [hfull g1 x3.inv];exact x3.inv)
     refine ⟨u,run_res1 hr h1,u,g2.cut s.σ.length,rfl,(x1.trans e1).cut ?_,fun b hb=>?_,h2,?_⟩
     ·have hlow:=(ev_low (m:=0) (evf_low fns n) (Nat.zero_le _) _ _ _ _ _ hne ⟨Nat.zero_le _,fun l o hl=>by omega⟩).2
      simp only at hlow
      omega
     ·have:=(x2.trans e2) b hb;exact this
     ·refine RepV.cut e3 ?_
      have hh:=repV_closed e3
      rw [e5.loc,x3.inv.len] at hh
      exact hh
    ·rename_i hr'
     split at hv0
     case h_2=>cases hv0
     rename_i us' hus
     cases hv0
     obtain ⟨us,l0,l1,l2,l3⟩:=res_all x3 hres hus
     refine ⟨_,run_results l0 l2,_,g1,rfl,x1,x2,x3.inv,?_⟩
     have hne1:¬ us.toArray.size=1:=by
      intro h1
      simp only [List.size_toArray] at h1
      have h2:af.results.length=1:=by have:=ress_len hres;omega
      obtain ⟨r,hr⟩:=List.length_eq_one_iff.mp h2
      exact hr' r hr
     rw [dif_neg hne1]
     exact tup_rep l3
theorem evf_sound {fns:Nat→Option AFun} (hm:P.follows .mixedOrders=true) (hfns:∀ f af,fns f=some af→chkFun P f af=true) (honce:∀ f af,fns f=some af→af.once=true→OnceLaw P (fnOf f)):∀ n,Sound P (evf fns n)
 | 0=>⟨by intro f args σ lo tr v σ' h;simp [evf] at h,fun f args σ lo tr v σ' h=>(evf_keep fns 0 f args σ lo tr v σ' h).1⟩
 | n+1=>by
  refine ⟨?_,fun f args σ lo tr v σ' h=>(evf_keep fns (n+1) f args σ lo tr v σ' h).1⟩
  intro f args σ lo tr v σ' h g w Pr vs d hI hargs
  simp only [evf] at h
  split at h
  case h_1=>cases h
  rename_i af haf
  have hchk:=hfns f af haf
  cases ho:af.once with
  | true =>
   rw [ho] at h
   exact once_sound (evf_sound hm hfns honce n) (evf_entered hfns n) (honce f af haf ho) h hI hargs
  | false =>
  rw [ho] at h
  simp only [cond_false] at h
  have hbase:∀ {σ:List Ob} {lo tr:Nat} {v:V} {σ':List Ob} {g:G} {Pr:Nat→Prop},base (evf fns n) n af args σ lo tr=some (v,σ')→Inv g w Pr σ→Args g w Pr args vs→Calls P (fnOf f) vs w (Answer g w Pr d v σ'):=by
   intro σ lo tr v σ' g Pr h hI hargs
   unfold base at h
   have hgo:∀ {kp:Kp} {args:List V} {lo tr:Nat} {v:V} {σ':List Ob},core (evf fns n) n kp af args σ lo tr=some (v,σ')→Args g w Pr args vs→Calls P (fnOf f) vs w (Answer g w Pr d v σ') :=
    fun h hargs=>core_sound hm (evf_sound hm hfns honce n) (evf_entered hfns n) hchk ho h hI hargs
   cases hs:(af.split && isEmp args) with
   | false =>
    rw [hs] at h
    exact hgo h hargs
   | true =>
    rw [hs] at h
    simp only [cond_true] at h
    split at h
    case h_2=>cases h
    rename_i v1 σ1 v2 σ2 h1 h2
    split at h
    case isFalse=>cases h
    rename_i hsame
    cases h
    have hv:=V.same_eq hsame
    subst hv
    have e1:=(core_keep (evf_keep fns n) h1).2 rfl
    have e2:=(core_keep (evf_keep fns n) h2).2 rfl
    subst e1
    subst e2
    simp only [Bool.and_eq_true] at hs
    have hemp:=hs.2
    unfold isEmp at hemp
    split at hemp
    case h_2=>cases hemp
    obtain ⟨a1,a2⟩:=hargs
    obtain ⟨_,u,a3,a4⟩:=a2 0 _ rfl
    have hone:∀ x:B,RepB g w x u→(V.c (.b x)).down=.c (.b x)→Args g w Pr [.c (.b x)] vs:=by
     intro x hx hd
     refine ⟨a1,fun i y hi=>?_⟩
     cases i with
     | zero=>simp at hi;subst hi;exact ⟨hd,u,a3,hx⟩
     | succ i=>simp at hi
    have a5:RepD (g.st w) (.sl []) u:=a4
    generalize hl:(D.sl [])=dd at a5
    cases a5 with
    | nil=>exact hgo h1 (hone .nils rfl rfl)
    | sl rows ad k cap vs' q1 q2 =>
     cases hl
     exact hgo h2 (hone .emp ⟨ad,cap,rfl⟩ rfl)
    | _=>cases hl
  cases hb:blindOk af args with
  | false=>rw [hb] at h;exact hbase h hI hargs
  | true =>
   rw [hb] at h
   simp only [cond_true] at h
   split at h
   case h_2=>cases h
   rename_i v0 σ0 h0
   split at h
   case isFalse=>cases h
   rename_i hvc
   cases h
   simp only [blindOk,Bool.and_eq_true] at hb
   have hargs':Args g.blind w (Old w) args vs:=by
    refine ⟨hargs.1,fun i x hi=>?_⟩
    obtain ⟨m1,u,m2,m3⟩:=hargs.2 i x hi
    have hd:RepV g w (fun _=>True) (.tmp i) x u:=RepV.any_pr m3 m1
    exact ⟨m1,u,m2,RepV.blind (fun x v h=>blind_st.2 h) (fun _ _ _ _ _ h=>absurd trivial h) (List.all_eq_true.1 hb.2 x (List.mem_of_getElem? hi)) hd⟩
   have hI':Inv g w Pr (St.mk [] σ).σ:=hI
   have hE':EnvOk g w Pr (St.mk [] σ).env { tmps:=#[],defers:=[] }:=fun t=>trivial
   refine (hbase h0 (blind_inv hI') hargs').mono ?_
   intro e w' h
   obtain ⟨u,g',rfl,x0,x1,x2,x3,x4,x5⟩:=answer_blind hI' hE' hvc h
   exact ⟨u,g',rfl,x1,x2,x3,x5⟩
end
end Go.Proofs.YteeofkbhopioiaaGreatDoor.Am
