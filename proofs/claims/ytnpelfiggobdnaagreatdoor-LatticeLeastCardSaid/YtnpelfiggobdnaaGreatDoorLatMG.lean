import Derived.Test.YtnpelfiggobdnaaGreatDoorLatMF
namespace Go.Proofs.YtnpelfiggobdnaaGreatDoor.Am
set_option linter.unusedSimpArgs false
set_option linter.unusedVariables false
set_option linter.unusedSectionVars false
open Go
def isCls (p:GProgram) (s:ByteArray):Prop:=(clsN (allL p) s).iface=false
section
variable {p:GProgram} (hp:OkP p) (hP:hierP p=0)
include hp hP
theorem row_head {a:ByteArray} (ha:a ∈ namesOf (allL p)):a ∈ rowL (allL p) a:=by rw [rowL_eq hp hP ha];exact List.mem_cons_self
theorem sup_isCls {s:ByteArray} (hs:s ∈ namesOf (allL p)) (h:supN (allL p) s≠⟨#[]⟩):isCls p s∧isCls p (supN (allL p) s):=by
 rw [supN_cls hs] at h ⊢
 obtain ⟨c,f1,f2,f3⟩:=find_name hs
 have hc:clsN (allL p) s=c:=by rw [clsN,f1];rfl
 rw [hc] at h ⊢
 refine ⟨?_,sup_class hp hP f2 h⟩
 unfold isCls
 rw [hc]
 cases hi:c.iface
 ·rfl
 ·exact absurd (by simp [superL,hi]) h
theorem row_sup {a:ByteArray} (ha:a ∈ namesOf (allL p)):∀ y ∈ rowL (allL p) a,supN (allL p) y≠⟨#[]⟩→supN (allL p) y ∈ rowL (allL p) a:=by
 refine chain_ind hp hP (P:=fun a=>∀ y ∈ rowL (allL p) a,supN (allL p) y≠⟨#[]⟩→supN (allL p) y ∈ rowL (allL p) a) (fun s hs ih y hy hn=>?_) a ha
 rw [rowL_eq hp hP hs] at hy ⊢
 rcases List.mem_cons.mp hy with rfl | hy
 ·rw [if_neg hn]
  exact List.mem_cons_of_mem _ (row_head hp hP (sup_names hp hP hs hn))
 ·split at hy
  ·cases hy
  ·rename_i e
   rw [if_neg e]
   exact List.mem_cons_of_mem _ (ih e y hy hn)
theorem rch_row {a s:ByteArray} (ha:a ∈ namesOf (allL p)) (h:Rch (allL p) a s):isCls p s→isCls p a∧s ∈ rowL (allL p) a:=by
 have hs:=sane_of hp hP
 induction h with
 | refl=>exact fun h=>⟨h,row_head hp hP ha⟩
 | @step y x hy hx ih =>
  intro hc
  have hyn:=hy.names hs.whole ha
  obtain ⟨c,f1,f2,f3⟩:=find_name hyn
  have hcy:clsN (allL p) y=c:=by rw [clsN,f1];rfl
  unfold nx at hx
  rw [f1] at hx
  simp only [Option.getD_some,nextP] at hx
  rcases List.mem_append.mp hx with hi | hi
  ·have hl:=lost_no hp hP
   rw [List.any_eq_false] at hl
   have:=hl c f2
   unfold lostB at this
   simp only [Bool.or_eq_true,not_or] at this
   have h2:=this.2
   rw [Bool.not_eq_true,List.any_eq_false] at h2
   have h3:=h2 x hi
   cases hq:(allL p).find? (fun z:GClass=>decide (z.name=x)) with
   | none=>rw [hq] at h3;exact absurd rfl h3
   | some z =>
    rw [hq] at h3
    have hf:findC (allL p) x=some z:=hq
    unfold isCls at hc
    rw [clsN,hf] at hc
    simp only [Option.getD_some] at hc
    simp [hc] at h3
  ·split at hi
   ·cases hi
   ·rename_i hn
    simp only [List.mem_singleton] at hi
    have e:supN (allL p) y=x:=by rw [supN_cls hyn,hcy,hi]
    have hne:supN (allL p) y≠⟨#[]⟩:=by rw [e,hi];exact hn
    obtain ⟨h1,h2⟩:=ih (sup_isCls hp hP hyn hne).1
    exact ⟨h1,by rw [← e];exact row_sup hp hP ha y h2 hne⟩
theorem row_rch {a:ByteArray} (ha:a ∈ namesOf (allL p)):isCls p a→∀ s ∈ rowL (allL p) a,Rch (allL p) a s∧isCls p s:=by
 refine chain_ind hp hP (P:=fun a=>isCls p a→∀ s ∈ rowL (allL p) a,Rch (allL p) a s∧isCls p s) (fun y hy ih hc s hs=>?_) a ha
 rw [rowL_eq hp hP hy] at hs
 rcases List.mem_cons.mp hs with rfl | hs
 ·exact ⟨.refl,hc⟩
 ·split at hs
  ·cases hs
  ·rename_i e
   obtain ⟨h1,h2⟩:=ih e (sup_isCls hp hP hy e).2 s hs
   refine ⟨Rch.head ?_ h1,h2⟩
   obtain ⟨c,f1,f2,f3⟩:=find_name hy
   have hcy:clsN (allL p) y=c:=by rw [clsN,f1];rfl
   have e2:=supN_cls hy
   rw [hcy] at e2
   unfold nx
   rw [f1]
   simp only [Option.getD_some,nextP]
   rw [e2] at e ⊢
   rw [if_neg e]
   simp
theorem row_obj {a:ByteArray} (ha:a ∈ namesOf (allL p)):isCls p a→sObject ∈ rowL (allL p) a:=by
 refine chain_ind hp hP (P:=fun a=>isCls p a→sObject ∈ rowL (allL p) a) (fun y hy ih hc=>?_) a ha
 rw [rowL_eq hp hP hy]
 by_cases e:supN (allL p) y=⟨#[]⟩
 ·obtain ⟨c,f1,f2,f3⟩:=find_name hy
  have hcy:clsN (allL p) y=c:=by rw [clsN,f1];rfl
  rw [supN_cls hy] at e
  unfold isCls at hc
  rw [hcy] at e hc
  have:y=sObject:=by
   unfold superL at e
   split at e
   ·rename_i h
    rcases h with h | h
    ·rw [hc] at h;cases h
    ·rw [← f3];exact h
   ·split at e
    ·exact absurd e (by decide)
    ·rename_i h;exact absurd e h
  subst this
  exact List.mem_cons_self
 ·rw [if_neg e]
  exact List.mem_cons_of_mem _ (ih e (sup_isCls hp hP hy e).2)
theorem obj_cls:isCls p sObject:=by
 obtain ⟨c,hc⟩:∃ c,c ∈ allL p∧c.name=sObject∧c.iface=false:=⟨⟨sObject,false,⟨#[]⟩,[],[],[]⟩,List.mem_append_left _ (by simp [baseL]),rfl,rfl⟩
 unfold isCls
 rw [← hc.2.1,cls_self hp hP hc.1]
 exact hc.2.2
theorem under_row {a s:ByteArray} (ha:a ∈ namesOf (allL p)) (hc:isCls p a) (hs:isCls p s):underP p a s=true↔s ∈ rowL (allL p) a:=by
 rw [under_iff hp hP ha]
 constructor
 ·rintro (rfl | h)
  ·exact row_obj hp hP ha hc
  ·exact (rch_row hp hP ha h hs).2
 ·intro h
  exact .inr (row_rch hp hP ha hc s h).1
theorem under_iface {a s:ByteArray} (ha:a ∈ namesOf (allL p)) (hc:¬ isCls p a) (hs:isCls p s) (h:underP p a s=true):s=sObject:=by
 rcases (under_iff hp hP ha s).mp h with h | h
 ·exact h
 ·exact absurd (rch_row hp hP ha h hs).1 hc
theorem row_first {a:ByteArray} (ha:a ∈ namesOf (allL p)) (q:ByteArray→Bool):∀ s,(rowL (allL p) a).find? q=some s→∀ z ∈ rowL (allL p) a,q z=true→z ∈ rowL (allL p) s:=by
 refine chain_ind hp hP (P:=fun a=>∀ s,(rowL (allL p) a).find? q=some s→∀ z ∈ rowL (allL p) a,q z=true→z ∈ rowL (allL p) s) (fun y hy ih s hf z hz hq=>?_) a ha
 cases hqy:q y with
 | true =>
  have hrow:=rowL_eq hp hP hy
  rw [hrow,List.find?_cons,hqy] at hf
  cases hf
  exact hz
 | false =>
  rw [rowL_eq hp hP hy] at hf hz
  rw [List.find?_cons,hqy] at hf
  rcases List.mem_cons.mp hz with rfl | hz
  ·rw [hqy] at hq;cases hq
  ·split at hz
   ·cases hz
   ·rename_i e
    rw [if_neg e] at hf
    exact ih e s hf z hz hq
end
section
variable {p:GProgram} (hp:OkP p) (hE:layE p=0)
include hp hE
def metN (p:GProgram) (x y:ByteArray):ByteArray:=if x=y then x else if underP p x y=true then y else ((rowL (allL p) x).find? (underP p y)).getD sObject
theorem meet_33 (x y:ByteArray):meetT p ⟨3,x⟩ ⟨3,y⟩=⟨3,metN p x y⟩:=by
 unfold meetT metN
 by_cases e:x=y
 ·subst e;simp [sameT]
 ·have hs:sameT ⟨3,x⟩ ⟨3,y⟩=false:=by simp [sameT,e]
  rw [hs]
  simp only [Bool.false_eq_true,if_false,e]
  have h1:isRefB ⟨3,x⟩=true:=by simp [isRefB]
  have h2:isRefB ⟨3,y⟩=true:=by simp [isRefB]
  rw [h1,h2]
  by_cases u:underP p x y=true
  ·simp [u]
  ·simp only [u,Bool.true_eq_false,or_self,if_false]
   cases (rowL (allL p) x).find? (underP p y)<;>simp
theorem met_names {x y:ByteArray} (hx:x ∈ namesOf (allL p)) (hy:y ∈ namesOf (allL p)):metN p x y ∈ namesOf (allL p):=by
 have hP:=layE_hier hE
 unfold metN
 split
 ·exact hx
 ·split
  ·exact hy
  ·cases hf:(rowL (allL p) x).find? (underP p y) with
   | none=>exact obj_in p
   | some s=>exact rowL_sub hp hP hx s (List.mem_of_find?_eq_some hf)
theorem met_left {x y:ByteArray} (hx:x ∈ namesOf (allL p)) (hy:y ∈ namesOf (allL p)):underP p x (metN p x y)=true:=by
 have hP:=layE_hier hE
 unfold metN
 split
 ·exact under_refl hp hP hx
 ·split
  ·assumption
  ·cases hf:(rowL (allL p) x).find? (underP p y) with
   | none=>exact under_object hp hP hx
   | some s =>
    have hm:=List.mem_of_find?_eq_some hf
    by_cases hc:isCls p x
    ·exact (under_iff hp hP hx s).mpr (.inr (row_rch hp hP hx hc s hm).1)
    ·have hi:(clsN (allL p) x).iface=true:=by unfold isCls at hc;simpa using hc
     rw [iface_row hp hE hx hi] at hm
     simp only [List.mem_singleton] at hm
     subst hm
     exact under_refl hp hP hx
theorem met_right {x y:ByteArray} (hx:x ∈ namesOf (allL p)) (hy:y ∈ namesOf (allL p)):underP p y (metN p x y)=true:=by
 have hP:=layE_hier hE
 unfold metN
 split
 ·rename_i e;subst e;exact under_refl hp hP hx
 ·split
  ·exact under_refl hp hP hy
  ·cases hf:(rowL (allL p) x).find? (underP p y) with
   | none=>exact under_object hp hP hy
   | some s=>exact List.find?_some hf
theorem met_least {x y z:ByteArray} (hx:x ∈ namesOf (allL p)) (hy:y ∈ namesOf (allL p)) (cx:isCls p x) (cz:isCls p z) (h1:underP p x z=true) (h2:underP p y z=true):underP p (metN p x y) z=true:=by
 have hP:=layE_hier hE
 unfold metN
 split
 ·exact h1
 ·split
  ·exact h2
  ·have hz:=(under_row hp hP hx cx cz).mp h1
   cases hf:(rowL (allL p) x).find? (underP p y) with
   | none =>
    rw [List.find?_eq_none] at hf
    exact absurd h2 (hf z hz)
   | some s =>
    have hsn:=rowL_sub hp hP hx s (List.mem_of_find?_eq_some hf)
    have hcs:=(row_rch hp hP hx cx s (List.mem_of_find?_eq_some hf)).2
    exact (under_row hp hP hsn hcs cz).mpr (row_first hp hP hx _ s hf z hz h2)
theorem met_cls {x y:ByteArray} (hx:x ∈ namesOf (allL p)) (cx:isCls p x) (cy:isCls p y):isCls p (metN p x y):=by
 have hP:=layE_hier hE
 unfold metN
 split
 ·exact cx
 ·split
  ·exact cy
  ·cases hf:(rowL (allL p) x).find? (underP p y) with
   | none=>exact obj_cls hp hP
   | some s=>exact (row_rch hp hP hx cx s (List.mem_of_find?_eq_some hf)).2
theorem met_iface {x y:ByteArray} (hx:x ∈ namesOf (allL p)) (hy:y ∈ namesOf (allL p)) (cx:¬ isCls p x) (hxy:¬ x=y) (u1:¬ underP p x y=true) (u2:¬ underP p y x=true):metN p x y=sObject∧metN p y x=sObject:=by
 have hP:=layE_hier hE
 have hi:(clsN (allL p) x).iface=true:=by unfold isCls at cx;simpa using cx
 have hyx:¬ y=x:=fun e=>hxy e.symm
 unfold metN
 rw [if_neg hxy,if_neg hyx,if_neg u1,if_neg u2]
 have e1:(rowL (allL p) x).find? (underP p y)=none:=by
  rw [iface_row hp hE hx hi,List.find?_eq_none]
  intro z hz
  simp only [List.mem_singleton] at hz
  subst hz
  exact u2
 refine ⟨by rw [e1];rfl,?_⟩
 by_cases cy:isCls p y
 ·cases hf:(rowL (allL p) y).find? (underP p x) with
  | none=>rfl
  | some s =>
   have hcs:=(row_rch hp hP hy cy s (List.mem_of_find?_eq_some hf)).2
   exact under_iface hp hP hx cx hcs (List.find?_some hf)
 ·have hi2:(clsN (allL p) y).iface=true:=by unfold isCls at cy;simpa using cy
  have e2:(rowL (allL p) y).find? (underP p x)=none:=by
   rw [iface_row hp hE hy hi2,List.find?_eq_none]
   intro z hz
   simp only [List.mem_singleton] at hz
   subst hz
   exact u1
  rw [e2];rfl
theorem met_comm {x y:ByteArray} (hx:x ∈ namesOf (allL p)) (hy:y ∈ namesOf (allL p)):metN p x y=metN p y x:=by
 have hP:=layE_hier hE
 by_cases e:x=y
 ·subst e;rfl
 have e':¬ y=x:=fun h=>e h.symm
 by_cases u1:underP p x y=true
 ·have u2:¬ underP p y x=true:=fun h=>e (under_anti hp hP u1 h)
  have hr:(rowL (allL p) y).find? (underP p x)=some y:=by rw [rowL_eq hp hP hy,List.find?_cons,u1]
  unfold metN
  rw [if_neg e,if_neg e',if_pos u1,if_neg u2,hr];rfl
 by_cases u2:underP p y x=true
 ·have hr:(rowL (allL p) x).find? (underP p y)=some x:=by rw [rowL_eq hp hP hx,List.find?_cons,u2]
  unfold metN
  rw [if_neg e,if_neg e',if_neg u1,if_pos u2,hr];rfl
 by_cases cx:isCls p x
 ·by_cases cy:isCls p y
  ·exact under_anti hp hP (met_least hp hE hx hy cx (met_cls hp hE hy cy cx) (met_right hp hE hy hx) (met_left hp hE hy hx)) (met_least hp hE hy hx cy (met_cls hp hE hx cx cy) (met_right hp hE hx hy) (met_left hp hE hx hy))
  ·obtain ⟨a,b⟩:=met_iface hp hE hy hx cy e' u2 u1
   rw [a,b]
 ·obtain ⟨a,b⟩:=met_iface hp hE hx hy cx e u1 u2
  rw [a,b]
theorem met_under {x y:ByteArray} (u:underP p x y=true):metN p x y=y:=by
 unfold metN
 split
 ·assumption
 ·rfl
theorem right_seven {t:GType} (h:rightT p t=true) (hk:t.kind=2∨t.kind=4∨t.kind=6∨t.kind=7):t.name=⟨#[]⟩:=by
 unfold rightT at h
 simp only [Bool.and_eq_true] at h
 have h2:=h.2
 rw [if_pos hk] at h2
 simpa using h2
theorem ty_eq {a b:GType} (h:a.kind=b.kind) (h2:a.name=b.name):a=b:=by
 obtain ⟨ka,na⟩:=a
 obtain ⟨kb,nb⟩:=b
 simp only at h h2
 subst h h2;rfl
theorem meets_all {a b:GType} (r1:rightT p a=true) (r2:rightT p b=true):meetT p a b=meetT p b a∧rightT p (meetT p a b)=true∧fitsT p a (meetT p a b)=true∧fitsT p b (meetT p a b)=true∧(fitsT p a b=true→meetT p a b=b):=by
 have hP:=layE_hier hE
 have ro:rightT p tObject=true:=right_ref hp hE (.inl rfl) (obj_in p)
 have r7:rightT p ⟨7,⟨#[]⟩⟩=true:=right_plain hE (by simp)
 by_cases e:a=b
 ·subst e
  have hm:meetT p a a=a:=by unfold meetT;rw [if_pos ((same_iff a a).mpr rfl)]
  rw [hm]
  exact ⟨rfl,r1,(fits_iff r1 r1).mpr (.inr (.inl rfl)),(fits_iff r1 r1).mpr (.inr (.inl rfl)),fun _=>rfl⟩
 have s1:sameT a b=false:=by cases h:sameT a b with | false=>rfl | true=>exact absurd ((same_iff a b).mp h) e
 have s2:sameT b a=false:=by cases h:sameT b a with | false=>rfl | true=>exact absurd ((same_iff b a).mp h).symm e
 by_cases i:isRefB a=false∨isRefB b=false
 ·have m1:meetT p a b=⟨7,⟨#[]⟩⟩:=by unfold meetT;rw [s1,if_neg (by decide),if_pos i]
  have m2:meetT p b a=⟨7,⟨#[]⟩⟩:=by unfold meetT;rw [s2,if_neg (by decide),if_pos (Or.symm i)]
  rw [m1,m2]
  refine ⟨rfl,r7,(fits_iff r1 r7).mpr (.inl rfl),(fits_iff r2 r7).mpr (.inl rfl),fun hf=>?_⟩
  rcases (fits_iff r1 r2).mp hf with h | h | ⟨h6,hb⟩ | ⟨h3,h3',_⟩ | ⟨h3,_,h45⟩
  ·exact ty_eq hp hE h.symm (right_seven hp hE r2 (by omega)).symm
  ·exact absurd h e
  ·have ia:isRefB a=true:=by simp [isRefB,h6]
   rw [ia,hb] at i;simp at i
  ·have ia:isRefB a=true:=by simp [isRefB,h3]
   have ib:isRefB b=true:=by simp [isRefB,h3']
   rw [ia,ib] at i;simp at i
  ·have ia:isRefB a=true:=by rcases h45 with h | h<;>simp [isRefB,h]
   have ib:isRefB b=true:=by simp [isRefB,h3]
   rw [ia,ib] at i;simp at i
 have i':=i
 rw [not_or] at i'
 have ia:isRefB a=true:=by simpa using i'.1
 have ib:isRefB b=true:=by simpa using i'.2
 have b7:¬ b.kind=7:=fun h=>by simp [isRefB,h] at ib
 have i2:¬ (isRefB b=false∨isRefB a=false):=fun h=>i h.symm
 by_cases a6:a.kind=6
 ·have b6:¬ b.kind=6:=fun h=>e (ty_eq hp hE (by omega) (by rw [right_seven hp hE r1 (by omega),right_seven hp hE r2 (by omega)]))
  have m1:meetT p a b=b:=by unfold meetT;rw [s1,if_neg (by decide),if_neg i,if_pos a6]
  have m2:meetT p b a=b:=by unfold meetT;rw [s2,if_neg (by decide),if_neg i2,if_neg b6,if_pos a6]
  rw [m1,m2]
  exact ⟨rfl,r2,(fits_iff r1 r2).mpr (.inr (.inr (.inl ⟨a6,ib⟩))),(fits_iff r2 r2).mpr (.inr (.inl rfl)),fun _=>rfl⟩
 by_cases b6:b.kind=6
 ·have m1:meetT p a b=a:=by unfold meetT;rw [s1,if_neg (by decide),if_neg i,if_neg a6,if_pos b6]
  have m2:meetT p b a=a:=by unfold meetT;rw [s2,if_neg (by decide),if_neg i2,if_pos b6]
  rw [m1,m2]
  refine ⟨rfl,r1,(fits_iff r1 r1).mpr (.inr (.inl rfl)),(fits_iff r2 r1).mpr (.inr (.inr (.inl ⟨b6,ia⟩))),fun hf=>?_⟩
  rcases (fits_iff r1 r2).mp hf with h | h | ⟨h6,_⟩ | ⟨_,h3',_⟩ | ⟨h3,_,_⟩
  ·exact absurd h b7
  ·exact h
  ·exact absurd h6 a6
  ·omega
  ·omega
 by_cases h3:¬ a.kind=3∨¬ b.kind=3
 ·have m1:meetT p a b=tObject:=by unfold meetT;rw [s1,if_neg (by decide),if_neg i,if_neg a6,if_neg b6,if_pos h3]
  have m2:meetT p b a=tObject:=by unfold meetT;rw [s2,if_neg (by decide),if_neg i2,if_neg b6,if_neg a6,if_pos h3.symm]
  rw [m1,m2]
  have key:∀ t:GType,rightT p t=true→isRefB t=true→¬ t.kind=6→fitsT p t tObject=true:=fun t rt it t6=>by
   rw [fits_iff rt ro]
   rcases right_kind rt with k | k | k | k | k | k
   ·simp [isRefB,k] at it
   ·exact .inr (.inr (.inr (.inl ⟨k,rfl,under_object hp hP ((right_name rt).2 (.inl k))⟩)))
   ·exact .inr (.inr (.inr (.inr ⟨rfl,rfl,.inl k⟩)))
   ·exact .inr (.inr (.inr (.inr ⟨rfl,rfl,.inr k⟩)))
   ·exact absurd k t6
   ·simp [isRefB,k] at it
  refine ⟨rfl,ro,key a r1 ia a6,key b r2 ib b6,fun hf=>?_⟩
  rcases (fits_iff r1 r2).mp hf with h | h | ⟨h6,_⟩ | ⟨h,h3',_⟩ | ⟨k3,bo,_⟩
  ·exact absurd h b7
  ·exact absurd h e
  ·exact absurd h6 a6
  ·omega
  ·exact ty_eq hp hE k3.symm bo.symm
 ·have a3:a.kind=3:=by omega
  have b3:b.kind=3:=by omega
  have hx:=(right_name r1).2 (.inl a3)
  have hy:=(right_name r2).2 (.inl b3)
  obtain ⟨ka,x⟩:=a
  obtain ⟨kb,y⟩:=b
  simp only at a3 b3 hx hy
  subst a3 b3
  rw [meet_33 hp hE,meet_33 hp hE]
  have rt:=right_ref hp hE (k:=3) (.inl rfl) (met_names hp hE hx hy)
  refine ⟨by rw [met_comm hp hE hx hy],rt,(fits_iff r1 rt).mpr (.inr (.inr (.inr (.inl ⟨rfl,rfl,met_left hp hE hx hy⟩)))),(fits_iff r2 rt).mpr (.inr (.inr (.inr (.inl ⟨rfl,rfl,met_right hp hE hx hy⟩)))),fun hf=>?_⟩
  rcases (fits_iff r1 r2).mp hf with h | h | ⟨h6,_⟩ | ⟨_,_,u⟩ | ⟨_,_,h45⟩
  ·exact absurd h b7
  ·exact absurd h e
  ·exact absurd h6 a6
  ·rw [met_under hp hE u]
  ·simp at h45
end
end Go.Proofs.YtnpelfiggobdnaaGreatDoor.Am
