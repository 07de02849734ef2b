/- Lemmas that the rows' proofs rest on; each states its own conditions. -/
import Derived.Test.YtahmcphboodogaaGreatDoorLatMD
import Derived.Test.YtahmcphboodogaaGreatDoorLatMC
namespace Go.Proofs.YtahmcphboodogaaGreatDoor.Am
set_option linter.unusedSimpArgs false
set_option linter.unusedVariables false
set_option linter.unusedSectionVars false
open Go
section
variable {p:GProgram} (hp:OkP p) (hP:hierP p=0)
include hp hP
theorem slots_grow {s:ByteArray} (hs:s ∈ Jab (allL p)):JaD (allL p) s=JaD (allL p) (supN (allL p) s) ++ slN (allL p) s:=by
 unfold JaD
 rw [if_neg (JaZ hP hs),Jd3 hp hP hs]
 by_cases e:supN (allL p) s=⟨#[]⟩
 ·rw [if_pos e,if_pos e];simp [slotsR]
 ·rw [if_neg e,if_neg e];simp [slotsR]
theorem slots_owner {s:ByteArray} (hs:s ∈ Jab (allL p)):∀ x ∈ JaD (allL p) s,x.owner ∈ rowL (allL p) s:=by
 unfold JaD
 rw [if_neg (JaZ hP hs)]
 intro x hx
 unfold slotsR at hx
 obtain ⟨y,hy,hxy⟩:=List.mem_flatMap.mp hx
 unfold slN at hxy
 obtain ⟨f,_,rfl⟩:=List.mem_map.mp hxy
 simpa using hy
end
theorem none_of {F:GClass→Int} {l:List GClass} (h:(l.findSome? (errS F)).getD 0=0):∀ x ∈ l,F x=0:=by
 cases hq:l.findSome? (errS F) with
 | some r=>rw [hq] at h;exact absurd h (errS_some hq)
 | none =>
  intro x hx
  have:=List.findSome?_eq_none_iff.mp hq x hx
  unfold errS at this
  split at this
  ·assumption
  ·cases this
theorem lay_checks {p:GProgram} (hE:layE p=0):hierP p=0∧(∀ x ∈ p.classes,Jda p x=0)∧(∀ x ∈ p.classes,overT p (tabsL (allL p)) x=0)∧∀ x ∈ p.classes,keepsT p (tabsL (allL p)) x=0:=by
 have hP:hierP p=0:=by
  unfold layE at hE
  split at hE
  ·assumption
  ·exact hE
 unfold layE at hE
 rw [if_pos hP,chksT,chk_fold,chk_fold,chk_fold,if_pos rfl] at hE
 by_cases h1:(p.classes.findSome? (errS (Jda p))).getD 0=0
 ·rw [if_pos h1] at hE
  by_cases h2:(p.classes.findSome? (errS (overT p (tabsL (allL p))))).getD 0=0
  ·rw [if_pos h2] at hE
   exact ⟨hP,none_of h1,none_of h2,none_of hE⟩
  ·rw [if_neg h2] at hE;exact absurd hE h2
 ·rw [if_neg h1] at hE
  by_cases h2:(p.classes.findSome? (errS (Jda p))).getD 0=0
  ·exact absurd h2 h1
  ·rw [if_neg h2] at hE;exact absurd hE h1
theorem base_none {x:GClass} (hx:x ∈ baseL):x.fields=[]∧x.methods=[]:=by
 have:∀ c ∈ baseL,c.fields=[]∧c.methods=[]:=by decide
 exact this x hx
theorem slots_nodup {p:GProgram} (hp:OkP p) (hE:layE p=0) {s:ByteArray} (hs:s ∈ Jab (allL p)):(clsN (allL p) s).iface=false→((JaD (allL p) s).map (·.name)).Nodup:=by
 obtain ⟨hP,ha,ho,_⟩:=lay_checks hE
 refine JdS hp hP (P:=fun s=>(clsN (allL p) s).iface=false→((JaD (allL p) s).map (·.name)).Nodup) (fun s hs ih hc=>?_) s hs
 rw [slots_grow hp hP hs,List.map_append,List.nodup_append]
 obtain ⟨x,f1,f2,f3⟩:=JaN hs
 have hcl:clsN (allL p) s=x:=by rw [clsN,f1];rfl
 have hsup:supN (allL p) s=Jan x:=by rw [JdK hs,hcl]
 have hsl:slN (allL p) s=(x.fields.filter fun f=>!f.static_).map fun f=>⟨s,f.name,f.type_⟩:=by rw [slN,hcl]
 rw [hcl] at hc
 have first:((JaD (allL p) (supN (allL p) s)).map (·.name)).Nodup:=by
  by_cases e:supN (allL p) s=⟨#[]⟩
  ·unfold JaD;rw [if_pos e];simp
  ·exact ih e (by rw [hsup];exact sup_class hp hP f2 (by rw [← hsup];exact e))
 rcases List.mem_append.mp f2 with hb | hb
 ·have:slN (allL p) s=[]:=by rw [hsl,(base_none hb).1];rfl
  rw [this]
  exact ⟨first,by simp,by simp⟩
 ·have hal:=ha x hb
  have hov:=ho x hb
  have hf:dupB (x.fields.map (·.name))=false:=by
   unfold Jda at hal
   split at hal
   ·cases hal
   ·split at hal
    ·cases hal
    ·split at hal
     ·cases hal
     ·rename_i h
      simp only [Bool.or_eq_true,not_or,Bool.not_eq_true] at h
      exact h.1
  have hnd:=(dup_iff _).mp hf
  have hsn:(slN (allL p) s).map (·.name)=(x.fields.filter fun f=>!f.static_).map (·.name):=by rw [hsl];simp
  refine ⟨first,?_,?_⟩
  ·rw [hsn]
   exact hnd.sublist (List.Sublist.map _ List.filter_sublist)
  ·intro a h1 b h2 e
   subst e
   rw [hsn] at h2
   obtain ⟨f,g1,g2⟩:=List.mem_map.mp h2
   obtain ⟨y,g3,g4⟩:=List.mem_map.mp h1
   have g5:=List.mem_filter.mp g1
   rw [over_eq hp hP hb,hc] at hov
   simp only [Bool.false_eq_true,if_false] at hov
   unfold inhE at hov
   split at hov
   ·cases hov
   ·rename_i hn
    apply hn
    rw [List.any_eq_true]
    refine ⟨f,g5.1,?_⟩
    rw [List.any_eq_true,← hsup]
    refine ⟨y,g3,?_⟩
    simp only [Bool.and_eq_true,decide_eq_true_eq]
    exact ⟨g5.2,by rw [g4,g2]⟩
theorem met_own {p:GProgram} (hp:OkP p) (hP:hierP p=0) {s:ByteArray} (hs:s ∈ Jab (allL p)) (n:ByteArray):metO (allL p) s n=((clsN (allL p) s).methods.find? fun m=>decide (m.name=n)).elim (metO (allL p) (supN (allL p) s) n) fun m=>some (s,m):=by
 unfold metO
 rw [if_neg (JaZ hP hs),Jd3 hp hP hs,metR]
 cases (clsN (allL p) s).methods.find? fun m=>decide (m.name=n) with
 | some m=>rfl
 | none =>
  simp only [Option.elim]
  by_cases e:supN (allL p) s=⟨#[]⟩
  ·rw [if_pos e,if_pos e];rfl
  ·rw [if_neg e,if_neg e]
theorem keepM_pos {l:List GClass} {a:ByteArray} {m:GMethod} {r:Int} (h:keepM l a m=some r):r≠0:=by
 unfold keepM at h
 cases hq:metO l a m.name with
 | none=>rw [hq] at h;simp at h;omega
 | some y =>
  rw [hq] at h
  simp only [Option.elim] at h
  split at h
  ·simp at h;omega
  ·cases h
theorem keepI_pos {l:List GClass} {a:ByteArray} {y:GClass} {r:Int} (h:keepI l a y=some r):r≠0:=by
 unfold keepI at h
 split at h
 ·obtain ⟨m,_,hm⟩:=List.exists_of_findSome?_eq_some h
  exact keepM_pos hm
 ·cases h
theorem keep_faces {p:GProgram} (hp:OkP p) (hE:layE p=0) {x:GClass} (hx:x ∈ p.classes) (hi:x.iface=false) {y:GClass} (hy:y ∈ allL p) (yi:y.iface=true) (hu:y.name ∈ Ja8 (allL p) x.name) {m:GMethod} (hm:m ∈ y.methods) :
  ∃ r,metO (allL p) x.name m.name=some r∧r.2.static_=false∧likeB r.2 m=true:=by
 obtain ⟨hP,ha,_,hk⟩:=lay_checks hE
 have h0:=hk x hx
 rw [keeps_eq hp hP ha hx,hi] at h0
 simp only [Bool.false_eq_true,if_false] at h0
 unfold keepE at h0
 cases hq:(allL p).findSome? (keepI (allL p) x.name) with
 | some r =>
  obtain ⟨z,_,hz⟩:=List.exists_of_findSome?_eq_some hq
  rw [hq] at h0
  exact absurd h0 (keepI_pos hz)
 | none =>
  have h1:=List.findSome?_eq_none_iff.mp hq y hy
  unfold keepI at h1
  rw [yi,decide_eq_true hu] at h1
  simp only [Bool.and_self,if_true] at h1
  have h2:=List.findSome?_eq_none_iff.mp h1 m hm
  unfold keepM at h2
  cases hr:metO (allL p) x.name m.name with
  | none=>rw [hr] at h2;cases h2
  | some r =>
   rw [hr] at h2
   simp only [Option.elim] at h2
   split at h2
   ·cases h2
   ·rename_i h
    simp only [Bool.or_eq_true,Bool.not_eq_true',not_or,Bool.not_eq_true,Bool.not_eq_false] at h
    exact ⟨r,rfl,h.1,h.2⟩
def ownM (c:GClass) (n:ByteArray):Option GMethod:=c.methods.find? fun m=>decide (m.name=n)
def lookN (l:List GClass):Nat→ByteArray→ByteArray→Option GMethod
 | 0,_,_=>none
 | k+1,s,n=>(ownM (clsN l s) n).elim ((clsN l s).ifaces.findSome? fun x=>lookN l k x n) some
def lookL (l:List GClass) (s n:ByteArray):Option GMethod:=lookN l 200 s n
def JbQ (l:List GClass) (xs:List ByteArray) (n:ByteArray):Option GMethod:=xs.findSome? fun x=>lookL l x n
theorem some_same {α β:Type} {F G:α→Option β}:∀ {l:List α},(∀ x ∈ l,F x=G x)→l.findSome? F=l.findSome? G
 | [],_=>rfl
 | x :: l,h=>by
  rw [List.findSome?_cons,List.findSome?_cons,h x List.mem_cons_self,some_same fun y hy=>h y (List.mem_cons_of_mem _ hy)]
section
variable {p:GProgram} (hp:OkP p) (hP:hierP p=0)
include hp hP
theorem if_nx {s x:ByteArray} (hx:x ∈ (clsN (allL p) s).ifaces):x ∈ nx (allL p) s:=by
 unfold nx nextP
 exact List.mem_append_left _ hx
theorem if_names {s x:ByteArray} (hs:s ∈ Jab (allL p)) (hx:x ∈ (clsN (allL p) s).ifaces):x ∈ Jab (allL p):=(JbN hp hP).whole s hs x (if_nx hp hP hx)
theorem if_iface {s x:ByteArray} (hs:s ∈ Jab (allL p)) (hx:x ∈ (clsN (allL p) s).ifaces):(clsN (allL p) x).iface=true:=by
 obtain ⟨c,f1,f2,f3⟩:=JaN hs
 have hcl:clsN (allL p) s=c:=by rw [clsN,f1];rfl
 rw [hcl] at hx
 have:=lost_no hp hP
 rw [List.any_eq_false] at this
 have:=this c f2
 unfold lostB at this
 simp only [Bool.or_eq_true,not_or] at this
 have h2:=this.2
 rw [Bool.not_eq_true,List.any_eq_false] at h2
 have h3:=h2 x hx
 cases hq:(allL p).find? (fun y:GClass=>decide (y.name=x)) with
 | none=>rw [hq] at h3;exact absurd rfl h3
 | some y =>
  rw [hq] at h3
  have hf:findC (allL p) x=some y:=hq
  rw [clsN,hf]
  cases hi:y.iface
  ·simp [hi] at h3
  ·exact hi
theorem reach_less {s y:ByteArray} (hs:s ∈ Jab (allL p)) (hy:y ∈ nx (allL p) s):(Ja8 (allL p) y).length < (Ja8 (allL p) s).length:=by
 have hsn:=JbN hp hP
 have hc:=Jce hp
 have hyn:=hsn.whole s hs y hy
 have hb:Bf (allL p) y (Ja8 (allL p) y):=bfs_bf _ _ _ (bf_one _ _)
 have hnd:(s :: Ja8 (allL p) y).Nodup:=List.nodup_cons.mpr ⟨fun h=>hsn.noring s hs ⟨y,hy,(JcO hsn.len hc hsn.whole hyn s).mp h⟩,hb.nd⟩
 have:=nodup_sub hnd (b:=Ja8 (allL p) s) fun x hx=>by
  rw [JcO hsn.len hc hsn.whole hs]
  rcases List.mem_cons.mp hx with rfl | h
  ·exact .refl
  ·exact .head hy ((JcO hsn.len hc hsn.whole hyn x).mp h)
 simp only [List.length_cons] at this
 omega
theorem reach_le {s:ByteArray} (hs:s ∈ Jab (allL p)):(Ja8 (allL p) s).length≤100:=by
 have hsn:=JbN hp hP
 have hc:=Jce hp
 have hb:Bf (allL p) s (Ja8 (allL p) s):=bfs_bf _ _ _ (bf_one _ _)
 have:=nodup_sub hb.nd (b:=Jab (allL p)) fun x hx=>((JcO hsn.len hc hsn.whole hs x).mp hx).names hsn.whole hs
 have hl:=Ja7 hp
 simp only [Jab,List.length_map] at this
 omega
theorem above_ind {P:ByteArray→Prop} (h:∀ s ∈ Jab (allL p),(∀ y ∈ nx (allL p) s,P y)→P s):∀ s ∈ Jab (allL p),P s:=by
 have key:∀ (k:Nat) (s:ByteArray),s ∈ Jab (allL p)→(Ja8 (allL p) s).length≤k→P s:=by
  intro k
  induction k with
  | zero =>
   intro s hs hk
   have hsn:=JbN hp hP
   have:s ∈ Ja8 (allL p) s:=(JcO hsn.len (Jce hp) hsn.whole hs s).mpr .refl
   have:=List.length_pos_of_mem this
   omega
  | succ k ih =>
   intro s hs hk
   exact h s hs fun y hy=>ih y ((JbN hp hP).whole s hs y hy) (by have:=reach_less hp hP hs hy;omega)
 intro s hs
 exact key _ s hs (Nat.le_refl _)
theorem look_fuel (n:ByteArray):∀ (k:Nat) (s:ByteArray),s ∈ Jab (allL p)→(Ja8 (allL p) s).length≤k→lookN (allL p) (k+1) s n=lookN (allL p) k s n:=by
 intro k
 induction k with
 | zero =>
  intro s hs hk
  have hsn:=JbN hp hP
  have:s ∈ Ja8 (allL p) s:=(JcO hsn.len (Jce hp) hsn.whole hs s).mpr .refl
  have:=List.length_pos_of_mem this
  omega
 | succ k ih =>
  intro s hs hk
  rw [lookN]
  conv=>rhs;rw [lookN]
  congr 1
  exact some_same fun x hx=>ih x (if_names hp hP hs hx) (by have:=reach_less hp hP hs (if_nx hp hP hx);omega)
theorem look_step {s:ByteArray} (hs:s ∈ Jab (allL p)) (n:ByteArray) (k:Nat) (hk:100≤k):lookN (allL p) (k+1) s n=(ownM (clsN (allL p) s) n).elim ((clsN (allL p) s).ifaces.findSome? fun x=>lookN (allL p) (k+1) x n) some:=by
 rw [lookN,some_same (F:=fun x=>lookN (allL p) k x n) fun x hx=>(look_fuel hp hP n k x (if_names hp hP hs hx) (by have:=reach_le hp hP (if_names hp hP hs hx);omega)).symm]
theorem look_eq {s:ByteArray} (hs:s ∈ Jab (allL p)) (n:ByteArray):lookL (allL p) s n=(ownM (clsN (allL p) s) n).elim (JbQ (allL p) (clsN (allL p) s).ifaces n) some:=look_step hp hP hs n 199 (by decide)
theorem look_from {s:ByteArray} (hs:s ∈ Jab (allL p)) (n:ByteArray):∀ m,lookL (allL p) s n=some m→∃ y ∈ Jab (allL p),Rch (allL p) s y∧((clsN (allL p) s).iface=true→(clsN (allL p) y).iface=true)∧m ∈ (clsN (allL p) y).methods∧m.name=n:=by
 refine above_ind hp hP (P:=fun s=>∀ m,lookL (allL p) s n=some m→∃ y ∈ Jab (allL p),Rch (allL p) s y∧((clsN (allL p) s).iface=true→(clsN (allL p) y).iface=true)∧m ∈ (clsN (allL p) y).methods∧m.name=n) (fun s hs ih m hm=>?_) s hs
 rw [look_eq hp hP hs] at hm
 cases hq:ownM (clsN (allL p) s) n with
 | some x =>
  rw [hq] at hm
  cases hm
  unfold ownM at hq
  exact ⟨s,hs,.refl,fun h=>h,List.mem_of_find?_eq_some hq,by simpa using List.find?_some hq⟩
 | none =>
  rw [hq] at hm
  simp only [Option.elim] at hm
  unfold JbQ at hm
  obtain ⟨x,hx,hxm⟩:=List.exists_of_findSome?_eq_some hm
  obtain ⟨y,h1,h2,h3,h4⟩:=ih x (if_nx hp hP hx) m hxm
  exact ⟨y,h1,.head (if_nx hp hP hx) h2,fun _=>h3 (if_iface hp hP hs hx),h4⟩
end
def rawC (l:List GClass) (s n:ByteArray):Option GMethod:=if (clsN l s).iface then lookL l s n else ((metO l s n).map (·.2)).elim ((rowL l s).findSome? fun x=>JbQ l (clsN l x).ifaces n) some
def callE (l:List GClass) (s n:ByteArray):Option GMethod:=if s ∈ Jab l then (rawC l s n).elim none fun m=>if m.static_ then none else some m else none
def faceL (l:List GClass) (s n:ByteArray):Option GMethod:=if (clsN l s).iface then lookL l s n else (rowL l s).findSome? fun x=>JbQ l (clsN l x).ifaces n
def refC (l:List GClass) (s n:ByteArray):Option GMethod:=if s ∈ Jab l then (if (clsN l s).iface then faceL l s n else (metO l s n).elim (faceL l s n) fun r=>if r.2.static_ then none else some r.2) else none
theorem face_static {p:GProgram} (hp:OkP p) (hE:layE p=0) {x:GClass} (hx:x ∈ allL p) (hi:x.iface=true) {m:GMethod} (hm:m ∈ x.methods):m.static_=false:=by
 obtain ⟨hP,ha,_,_⟩:=lay_checks hE
 have hal:=ha x (base_class hp hP hx hi)
 unfold Jda at hal
 split at hal
 ·cases hal
 ·rename_i hf
  have:¬ formB x m=true:=fun h=>hf (List.any_eq_true.mpr ⟨m,hm,h⟩)
  unfold formB at this
  rw [hi] at this
  cases hs:m.static_
  ·rfl
  ·rw [hs] at this;simp at this
theorem look_static {p:GProgram} (hp:OkP p) (hE:layE p=0) {s n:ByteArray} (hs:s ∈ Jab (allL p)) (hi:(clsN (allL p) s).iface=true) {m:GMethod} (h:lookL (allL p) s n=some m):m.static_=false:=by
 have hP:=JaF hE
 obtain ⟨y,h1,_,h3,h4,_⟩:=look_from hp hP hs n m h
 obtain ⟨c,f1,f2,f3⟩:=JaN h1
 have hcl:clsN (allL p) y=c:=by rw [clsN,f1];rfl
 rw [hcl] at h3 h4
 exact face_static hp hE f2 (h3 hi) h4
theorem among_static {p:GProgram} (hp:OkP p) (hE:layE p=0) {s n:ByteArray} (hs:s ∈ Jab (allL p)) {m:GMethod} (h:JbQ (allL p) (clsN (allL p) s).ifaces n=some m):m.static_=false:=by
 have hP:=JaF hE
 unfold JbQ at h
 obtain ⟨x,hx,hxm⟩:=List.exists_of_findSome?_eq_some h
 exact look_static hp hE (if_names hp hP hs hx) (if_iface hp hP hs hx) hxm
theorem row_static {p:GProgram} (hp:OkP p) (hE:layE p=0) {s n:ByteArray} (hs:s ∈ Jab (allL p)) {m:GMethod} (h:((rowL (allL p) s).findSome? fun x=>JbQ (allL p) (clsN (allL p) x).ifaces n)=some m):m.static_=false:=by
 have hP:=JaF hE
 obtain ⟨x,hx,hxm⟩:=List.exists_of_findSome?_eq_some h
 exact among_static hp hE (JcZ hp hP hs x hx) hxm
theorem call_eq {p:GProgram} (hp:OkP p) (hE:layE p=0) (s n:ByteArray):callE (allL p) s n=refC (allL p) s n:=by
 unfold callE refC rawC faceL
 by_cases hs:s ∈ Jab (allL p)
 ·rw [if_pos hs,if_pos hs]
  cases hi:(clsN (allL p) s).iface with
  | true =>
   simp only [if_true]
   cases hq:lookL (allL p) s n with
   | none=>rfl
   | some m=>simp [look_static hp hE hs hi hq]
  | false =>
   simp only [Bool.false_eq_true,if_false]
   cases hm:metO (allL p) s n with
   | some r=>rfl
   | none =>
    simp only [Option.map_none,Option.elim]
    cases hq:(rowL (allL p) s).findSome? fun x=>JbQ (allL p) (clsN (allL p) x).ifaces n with
    | none=>rfl
    | some m=>simp [row_static hp hE hs hq]
 ·rw [if_neg hs,if_neg hs]
def stC (x:GClass):List GSlot:=(x.fields.filter fun f=>f.static_).map fun f=>⟨x.name,f.name,f.type_⟩
def stL (p:GProgram):List GSlot:=p.classes.flatMap stC
theorem flat_same {α β:Type} {F G:α→List β}:∀ {l:List α},(∀ x ∈ l,F x=G x)→l.flatMap F=l.flatMap G
 | [],_=>rfl
 | x :: l,h=>by rw [List.flatMap_cons,List.flatMap_cons,h x List.mem_cons_self,flat_same fun y hy=>h y (List.mem_cons_of_mem _ hy)]
theorem flat_none {α β:Type} {F:α→List β}:∀ {l:List α},(∀ x ∈ l,F x=[])→l.flatMap F=[]
 | [],_=>rfl
 | x :: l,h=>by rw [List.flatMap_cons,h x List.mem_cons_self,flat_none fun y hy=>h y (List.mem_cons_of_mem _ hy)];rfl
theorem sl_owner {l:List GClass} {s:ByteArray}:∀ x ∈ slN l s,x.owner=s:=by
 intro x hx
 unfold slN at hx
 obtain ⟨f,_,rfl⟩:=List.mem_map.mp hx
 rfl
section
variable {p:GProgram} (hp:OkP p) (hP:hierP p=0)
include hp hP
theorem st_eq:(tabsL (allL p)).st=stL p:=by
 rw [(JdV hp hP).st,Jab,List.flatMap_map]
 have e:(allL p).flatMap (fun x=>stN (allL p) x.name)=(allL p).flatMap stC:=flat_same fun x hx=>by
  unfold stN stC
  rw [Jd2 hp hP hx]
 rw [e]
 unfold allL stL
 rw [List.flatMap_append,flat_none (l:=baseL) fun x hx=>by unfold stC;rw [(base_none hx).1];rfl,List.nil_append]
theorem sup_not {s:ByteArray} (hs:s ∈ Jab (allL p)) (hc:isCls p s) (e:supN (allL p) s≠⟨#[]⟩):s ∉ rowL (allL p) (supN (allL p) s):=by
 intro h
 have hsn:=Jd9 hp hP hs e
 have h1:=(row_rch hp hP hsn (Jea hp hP hs e).2 s h).1
 have h2:Rch (allL p) s (supN (allL p) s):=(row_rch hp hP hs hc _ (by rw [Jd3 hp hP hs,if_neg e];exact List.mem_cons_of_mem _ (row_head hp hP hsn))).1
 rcases h2.split with h3 | ⟨y,hy,hr⟩
 ·have e2:=JdK hs
  obtain ⟨c,f1,f2,f3⟩:=JaN hs
  have hcs:clsN (allL p) s=c:=by rw [clsN,f1];rfl
  rw [hcs] at e2
  have:s ∈ nx (allL p) s:=by
   unfold nx
   rw [f1]
   simp only [Option.getD_some,nextP]
   rw [if_neg (by rw [← e2];exact e),← e2,← h3]
   simp
  exact (JbN hp hP).noring s hs ⟨s,this,.refl⟩
 ·exact (JbN hp hP).noring s hs ⟨y,hy,hr.trans h1⟩
theorem sup_owner {s:ByteArray} (hs:s ∈ Jab (allL p)) (hc:isCls p s):∀ x ∈ JaD (allL p) (supN (allL p) s),x.owner≠s:=by
 intro x hx e
 by_cases h:supN (allL p) s=⟨#[]⟩
 ·unfold JaD at hx;rw [if_pos h] at hx;cases hx
 ·have:=slots_owner hp hP (Jd9 hp hP hs h) x hx
  rw [e] at this
  exact sup_not hp hP hs hc h this
theorem own_count {s:ByteArray} (hs:s ∈ Jab (allL p)) (hc:isCls p s):((JaD (allL p) s).filter fun x=>decide (x.owner=s)).length=(slN (allL p) s).length:=by
 rw [slots_grow hp hP hs,List.filter_append]
 have h1:((JaD (allL p) (supN (allL p) s)).filter fun x=>decide (x.owner=s))=[]:=List.filter_eq_nil_iff.mpr fun x hx=>by simpa using sup_owner hp hP hs hc x hx
 have h2:((slN (allL p) s).filter fun x=>decide (x.owner=s))=slN (allL p) s:=List.filter_eq_self.mpr fun x hx=>by simpa using sl_owner x hx
 rw [h1,h2];rfl
theorem met_from {s n:ByteArray} (hs:s ∈ Jab (allL p)) {r:ByteArray × GMethod} (h:metO (allL p) s n=some r):r.1 ∈ rowL (allL p) s∧r.2 ∈ (clsN (allL p) r.1).methods∧r.2.name=n:=by
 unfold metO at h
 rw [if_neg (JaZ hP hs)] at h
 exact metR_mem h
end
theorem dup_first {p:GProgram} (hE:layE p=0) {x:GClass} (hx:x ∈ p.classes) {m:GMethod} (hm:m ∈ x.methods):ownM x m.name=some m:=by
 obtain ⟨hP,ha,_,_⟩:=lay_checks hE
 have hal:=ha x hx
 have hf:dupB (x.methods.map (·.name))=false:=by
  unfold Jda at hal
  split at hal
  ·cases hal
  ·split at hal
   ·cases hal
   ·split at hal
    ·cases hal
    ·rename_i h
     simp only [Bool.or_eq_true,not_or,Bool.not_eq_true] at h
     exact h.2
 have hnd:=(dup_iff _).mp hf
 unfold ownM
 revert hnd hm
 generalize x.methods=l
 induction l with
 | nil=>intro h;cases h
 | cons a l ih =>
  intro h hnd
  rw [List.find?_cons]
  rw [List.map_cons,List.nodup_cons] at hnd
  rcases List.mem_cons.mp h with rfl | h
  ·simp
  ·have:¬ a.name=m.name:=fun e=>hnd.1 (by rw [e];exact List.mem_map.mpr ⟨m,h,rfl⟩)
   rw [decide_eq_false this]
   exact ih h hnd.2
theorem not_abstract {p:GProgram} (hE:layE p=0) {x:GClass} (hx:x ∈ allL p) {m:GMethod} (hm:m ∈ x.methods):m.abstract_=x.iface:=by
 obtain ⟨hP,ha,_,_⟩:=lay_checks hE
 rcases List.mem_append.mp hx with hb | hb
 ·rw [(base_none hb).2] at hm;cases hm
 ·have hal:=ha x hb
  unfold Jda at hal
  split at hal
  ·cases hal
  ·rename_i hf
   have:¬ formB x m=true:=fun h=>hf (List.any_eq_true.mpr ⟨m,hm,h⟩)
   unfold formB at this
   simp only [Bool.or_eq_true,not_or,Bool.not_eq_true',decide_eq_false_iff_not,Decidable.not_not] at this
   exact this.1
section
attribute [local simp ↓] K_seq JdI JcH JbK JdG JdH K_ret JdF JdJ JcJ JcI JbR
attribute [local simp] JcG JcF JcD JcB JcC Jaa St.rd St.raw St.set St.took JbG V.down C.down Env.keep binV unV arith Jb0 strs intOf JbO Jbh JcP andK endOf frzV frz1 frzC frzCs frz1s resOf Jb3 JcN V.closed V.closed1 C.closed B.closed Ob.closed V.cells JaO rep chunk datas C.data JbS Jai Jcm JbD JbE JaC C.plain JbJ JcA Jcx Jcw Jcv Jcy Jcz Jcr Jcs Jcu Jct Jc8 Jch Jdx Jcg Jcj Jdy Jci Jck Jbp Jbz JbA vagg Jb8 Jbs Jb7 k_Int JdB k_Str JbC Jbc JbB Jbq Jdz Jba JbH JaX Ja4 Jco JaU Jbf JaK Ja3 Jcn JaT Jbe JaJ Ja5 Jcq JaW Jbg JaL JaQ JbF JaI Ja0 Jcp JaV JaE Jbd JaA Jbr JdA Jbb JbI JaY
theorem fn_slotsEq (a b:List GSlot) (ha:a.length≤1000000) (hb:b.length≤1000000) (σ:List Ob) (lo tr:Nat):Fn fns 21 [vsl a,vsl b] σ lo tr=some (vbool (decide (a=b)),σ):=by
 refine Jah t21 rfl (σ1:=[]) rfl rfl ?_ σ lo tr
 by_cases hl:a.length=b.length
 ·have hl':(a.length:Int)=b.length:=by omega
  have L:∀ k:AExit→St→Option (V × List Ob),K fns ⟨0,0⟩ f21_l0 ⟨[(0,vsl a),(1,vsl b),(5,vint 0)],[]⟩ k=if a=b then k (.exit 0) ⟨[],[]⟩ else k .ret ⟨[(4,vbool false)],[]⟩:=fun k =>
   scan_eq (a:=a) (b:=b) (X:=fun i=>K fns ⟨0,0⟩ f21_l0 ⟨[(0,vsl a),(1,vsl b),(5,vint i)],[]⟩ k) hl
    (fun i hi hj=>by
     have hw:=Jac (i:=i) (by omega)
     show K fns _ f21_l0 _ k=_
     rw [u21_l0]
     by_cases e:a[i]=b[i]
     ·simp [f21_b0,hi,hj,hw,e]
     ·simp [f21_b0,hi,hj,hw,e])
    (by show K fns _ f21_l0 _ k=_;rw [u21_l0];simp [f21_b0])
  by_cases e:a=b
  ·subst e
   simp [KF,params,f21,L]
  ·simp [KF,params,f21,hl',L,e]
 ·have hl':¬ (a.length:Int)=b.length:=by omega
  have e:¬ a=b:=fun e=>hl (by rw [e])
  simp [KF,params,f21,hl',e]
theorem got_R (t:Tabs) (k:ByteArray):∃ r,findKey [2] (vstr k) (encR t.rs) 0=some r∧((r=none∧lookA t.rs k=none)∨∃ i o,r=some (i,vsl o)∧lookA t.rs k=some o):=by
 rcases map_R t.rs k with ⟨k1,k2,_⟩ | ⟨j,v,hj,k1,hj2,k2,_,_⟩
 ·exact ⟨none,k1,.inl ⟨rfl,k2⟩⟩
 ·exact ⟨_,k1,.inr ⟨j,v,rfl,k2⟩⟩
theorem got_L (t:Tabs) (k:ByteArray):∃ r,findKey [2] (vstr k) (encL t.ls) 0=some r∧((r=none∧lookA t.ls k=none)∨∃ i o,r=some (i,.c (.osl 4 (rows (o:List GSlot))))∧lookA t.ls k=some o):=by
 rcases map_L t.ls k with ⟨k1,k2,_⟩ | ⟨j,v,hj,k1,hj2,k2,_,_⟩
 ·exact ⟨none,k1,.inl ⟨rfl,k2⟩⟩
 ·exact ⟨_,k1,.inr ⟨j,v,rfl,k2⟩⟩
theorem got_W (t:Tabs) (k:Key2):∃ r,findKey [2,2] (.agg [.b (.d (.str k.1)),.b (.d (.str k.2))]) (encW t.ws) 0=some r∧((r=none∧lookA t.ws k=none)∨∃ i o,r=some (i,vstr o)∧lookA t.ws k=some o):=by
 rcases map_W t.ws k with ⟨k1,k2,_⟩ | ⟨j,v,hj,k1,hj2,k2,_,_⟩
 ·exact ⟨none,k1,.inl ⟨rfl,k2⟩⟩
 ·exact ⟨_,k1,.inr ⟨j,v,rfl,k2⟩⟩
def clsB (p:GProgram) (s:ByteArray):Bool:=decide (s ∈ Jab (allL p)) && !(clsN (allL p) s).iface
theorem Ja6 {p:GProgram} {s:ByteArray}:clsB p s=true↔s ∈ Jab (allL p)∧(clsN (allL p) s).iface=false:=by
 unfold clsB;simp
theorem rs_cls {p:GProgram} (hp:OkP p) (hP:hierP p=0) (s:ByteArray):lookA (tabsL (allL p)).rs s=if clsB p s=true then some (rowL (allL p) s) else none:=by
 rw [(JdV hp hP).rs]
 by_cases h:clsB p s=true
 ·rw [if_pos h,if_pos (Ja6.mp h)]
 ·rw [if_neg h,if_neg fun h'=>h (Ja6.mpr h')]
theorem ls_cls {p:GProgram} (hp:OkP p) (hP:hierP p=0) (s:ByteArray):(lookA (tabsL (allL p)).ls s).getD []=if clsB p s=true then JaD (allL p) s else []:=by
 rw [(JdV hp hP).ls]
 by_cases h:clsB p s=true
 ·have h':=Ja6.mp h
  rw [if_pos h,if_pos h',JaD,if_neg (JaZ hP h'.1)]
 ·rw [if_neg h,if_neg fun h'=>h (Ja6.mpr h')]
theorem fs_cls {p:GProgram} (hp:OkP p) (hP:hierP p=0) (s n:ByteArray):lookA (tabsL (allL p)).fs (s,n)=if clsB p s=true then (metO (allL p) s n).map (·.2) else none:=by
 rw [(JdV hp hP).fs]
 by_cases h:clsB p s=true
 ·have h':=Ja6.mp h
  rw [if_pos h,if_pos h',metO,if_neg (JaZ hP h'.1)]
 ·rw [if_neg h,if_neg fun h'=>h (Ja6.mpr h')]
theorem ws_cls {p:GProgram} (hp:OkP p) (hP:hierP p=0) (s n:ByteArray):lookA (tabsL (allL p)).ws (s,n)=if clsB p s=true then (metO (allL p) s n).map (·.1) else none:=by
 rw [(JdV hp hP).ws]
 by_cases h:clsB p s=true
 ·have h':=Ja6.mp h
  rw [if_pos h,if_pos h',metO,if_neg (JaZ hP h'.1)]
 ·rw [if_neg h,if_neg fun h'=>h (Ja6.mpr h')]
theorem fn_cloneSl (l:List GSlot) (hs:l.length≤1000000) (σ:List Ob) (lo tr:Nat):Fn fns 44 [vsl l] σ lo tr=some (.c (.osl 4 (rows l)),σ):=by
 cases l with
 | nil=>exact fn_split t44 rfl rfl (v:=.c (.osl 4 [])) (σ1:=[]) (σ2:=[]) (by simp [KF,params,f44]) (by simp [KF,params,f44,Jao]) rfl σ lo tr
 | cons v l =>
  have h5:l.length+1≤70368744177664:=by simp at hs;omega
  have h6:(l.length+1) * 56≤70368744177664:=by simp at hs;omega
  refine Jah t44 rfl (σ1:=[]) rfl rfl ?_ σ lo tr
  have hr:rows (v :: l)=Rec.row v :: rows l:=rfl
  simp [KF,params,f44,hr,h5,h6]
section
variable {p:GProgram} {X:Nat} {S σ:List Ob}
theorem fn_tabSl (hp:OkP p) (h:Avail p X σ) (s:ByteArray):∃ S L,Fn fns 42 [vptr X,vstr s] σ 0 0=some (.tup [.c (.b (.d (.sl (rows (L:List GSlot))))),vbool (clsB p s && decide (layE p=0))],S)∧Done p X 1 0 S∧But X σ S∧(layE p=0→L=if clsB p s=true then JaD (allL p) s else []):=by
 obtain ⟨S,s1,s2,s3⟩:=made_av hp h
 have hX:=h.lt
 by_cases hP:hierP p=0
 ·obtain ⟨b,c,hT⟩:=s2.ok hP
  have h1:=Jaf hT.x
  have h2:=(List.getElem?_eq_some_iff.mp hT.x).2
  have r1:=Jaf hT.r
  have r2:=(List.getElem?_eq_some_iff.mp hT.r).2
  have l1:=Jaf hT.l
  have l2:=(List.getElem?_eq_some_iff.mp hT.l).2
  obtain ⟨r,k1,hr⟩:=got_R (tabsL (allL p)) s
  obtain ⟨q,k2,hq⟩:=got_L (tabsL (allL p)) s
  refine ⟨S,(lookA (tabsL (allL p)).ls s).getD [],?_,s2,s3,fun _=>ls_cls hp hP s⟩
  have hrs:=rs_cls hp hP s
  have hcl:clsB p s=(lookA (tabsL (allL p)).rs s).isSome:=by rw [hrs];cases clsB p s<;>rfl
  rw [hcl]
  rw [fn_eq t42 rfl rfl]
  generalize tabsL (allL p)=t at *
  by_cases hE:layE p=0
  all_goals
   rcases hr with ⟨rfl,r3⟩ | ⟨i,o,rfl,r3⟩<;>rcases hq with ⟨rfl,q3⟩ | ⟨j,v,rfl,q3⟩
   all_goals simp [KF,params,f42,Jao,hX,s1,h1,h2,r1,r2,l1,l2,mapOf,Jak,got,k1,k2,r3,q3,hE]
 ·obtain ⟨q,e,hx⟩:=s2.no hP
  have hE:¬ layE p=0:=fun h=>hP (JaF h)
  have h1:=Jaf hx
  have h2:=(List.getElem?_eq_some_iff.mp hx).2
  refine ⟨S,[],?_,s2,s3,fun h=>absurd h hE⟩
  rw [fn_eq t42 rfl rfl]
  simp [KF,params,f42,Jao,hX,s1,h1,h2,mapOf,Jak,got,hE,findKey]
theorem fn_tabSt (hp:OkP p) (h:Avail p X σ):∃ S V,Fn fns 45 [vptr X] σ 0 0=some (V,S)∧Done p X 1 0 S∧But X σ S∧V=if layE p=0 then .c (.b (.d (.sl (rows (stL p))))) else .c (.osl 4 []):=by
 obtain ⟨S,s1,s2,s3⟩:=fn_tabE hp h
 have hX:=h.lt
 refine ⟨S,_,?_,s2,s3,rfl⟩
 rw [fn_eq t45 rfl rfl]
 by_cases hE:layE p=0
 ·have hP:=JaF hE
  obtain ⟨b,c,hT⟩:=s2.ok hP
  have hx:=hT.x
  rw [st_eq hp hP] at hx
  have h1:=Jaf hx
  have h2:=(List.getElem?_eq_some_iff.mp hx).2
  simp [KF,params,f45,hX,s1,h1,h2,hE]
 ·simp [KF,params,f45,hX,s1,hE]
def metT (p:GProgram) (s n:ByteArray):Option (ByteArray × GMethod):=if layE p=0∧clsB p s=true then metO (allL p) s n else none
theorem made_box (hp:OkP p) (h:Avail p X σ) {cs:List C} (hc:∀ k,cs.all (C.closed (σ.length+(1+k)))=true):∃ S,Fn fns 69 [vptr X] (σ ++ [.cells cs]) 0 0=some (vptr X,S)∧Done p X 1 0 S∧But X (σ ++ [.cells cs]) S∧∀ o:Ob,(∀ k,o.closed (S.length+k)=true)→Done p X 1 0 (S.set σ.length o):=by
 have hX:=h.lt
 have hA:=h.cells hc
 rcases hA with ⟨h1,h2⟩ | hD
 ·obtain ⟨S,s1,s2,s3,s4⟩:=fn_made hp h1 h2
  exact ⟨S,s1,s2,s3,fun o ho=>s2.low s4 (by simp) (by omega) ho⟩
 ·refine ⟨_,fn_made1 hD 0 0,hD,⟨Nat.le_refl _,fun _ _ _=>rfl⟩,fun o ho=>?_⟩
  rcases h with ⟨h1,_⟩ | h
  ·obtain ⟨b,r1,r2,r3,r4,r5,_,hx,_⟩:=hD.at_
   rw [Jbk h1 _] at hx
   simp [cRow] at hx
  ·rw [List.set_append_right _ _ (Nat.le_refl _),Nat.sub_self,List.set_cons_zero]
   refine h.app _ fun k=>?_
   rw [List.all_append,List.length_append,List.length_singleton,Nat.add_assoc,h.cl]
   have:=ho k
   simp only [List.length_append,List.length_singleton,Nat.add_assoc] at this
   simpa using this
theorem fn_tabMe (hp:OkP p) (h:Avail p X σ) (s n:ByteArray):∃ S,Fn fns 46 [vptr X,vstr s,vstr n] σ 0 0=some (.tup [vstr ((metT p s n).elim ⟨#[]⟩ (·.1)),Jaq ((metT p s n).elim zM (·.2)),vbool (metT p s n).isSome],S)∧Done p X 1 0 S∧But X σ S:=by
 obtain ⟨S,s1,s2,s3,s4⟩:=made_box hp h (cs:=[.b (.d (.str ⟨#[]⟩)),.b (.d (.bool false)),.b (.d (.bool false)),.osl 2 [],.b (.d (.int .i64 0)),.b (.d (.str ⟨#[]⟩)),.b (.d (.int .i64 0)),.osl 4 [],.osl 4 []]) (fun k=>by simp [C.closed,B.closed])
 have hX:=h.lt
 have hz:=s3.box hX
 have z1:=Jaf hz
 have z2:=(List.getElem?_eq_some_iff.mp hz).2
 have n1:¬ σ.length=X:=by omega
 have n2:¬ X=σ.length:=by omega
 have n3:¬ S.length≤σ.length:=by omega
 have hbut:∀ o:Ob,But X σ (S.set σ.length o):=fun o=>⟨by rw [List.length_set];omega,fun i a b=>by rw [List.getElem?_set_ne (by omega)];exact s3.old.2 i a b⟩
 by_cases hP:hierP p=0
 ·obtain ⟨b,c,hT⟩:=s2.ok hP
  have h1:=Jaf hT.x
  have h2:=(List.getElem?_eq_some_iff.mp hT.x).2
  have r1:=Jaf hT.f
  have r2:=(List.getElem?_eq_some_iff.mp hT.f).2
  have l1:=Jaf hT.w
  have l2:=(List.getElem?_eq_some_iff.mp hT.w).2
  have hbc:=hT.bc
  have hxb:=hT.xb
  obtain ⟨r,k1,hr⟩:=got_F (tabsL (allL p)) (s,n)
  obtain ⟨q,k2,hq⟩:=got_W (tabsL (allL p)) (s,n)
  have hfs:=fs_cls hp hP s n
  have hws:=ws_cls hp hP s n
  unfold metT
  generalize tabsL (allL p)=t at *
  by_cases hE:layE p=0
  ·by_cases hc:clsB p s=true
   ·rw [if_pos hc] at hfs hws
    rw [if_pos ⟨hE,hc⟩]
    cases hm:metO (allL p) s n with
    | none =>
     rw [hm] at hfs hws
     simp only [Option.map_none] at hfs hws
     refine ⟨_,?_,s4 zOb (fun k=>by simp [Ob.closed,C.closed,B.closed]),hbut _⟩
     rw [fn_eq t46 rfl rfl]
     rcases hr with ⟨rfl,r3⟩ | ⟨i,o,rfl,r3⟩
     ·simp [KF,params,f46,Jao,hX,s1,h1,h2,r1,r2,l1,l2,z1,z2,n1,n2,n3,mapOf,Jak,got,k1,hE,List.getElem_set,List.set_set]
     ·rw [hfs] at r3;cases r3
    | some x =>
     rw [hm] at hfs hws
     simp only [Option.map_some] at hfs hws
     refine ⟨_,?_,s4 (cM x.2) (fun k=>by simp [Ob.closed,C.closed,B.closed]),hbut _⟩
     rw [fn_eq t46 rfl rfl]
     rcases hr with ⟨rfl,r3⟩ | ⟨i,o,rfl,r3⟩
     ·rw [hfs] at r3;cases r3
     rcases hq with ⟨rfl,q3⟩ | ⟨j,w,rfl,q3⟩
     ·rw [hws] at q3;cases q3
     rw [hfs] at r3
     rw [hws] at q3
     cases r3
     cases q3
     have m1:¬ σ.length=c+2:=fun e=>by have:=hT.f;rw [← e,hz] at this;cases this
     have m2:¬ σ.length=c+3:=fun e=>by have:=hT.w;rw [← e,hz] at this;cases this
     simp [KF,params,f46,Jao,hX,s1,h1,h2,r1,r2,l1,l2,z1,z2,n1,n2,n3,m1,m2,mapOf,Jak,got,k1,k2,hE,List.getElem_set,List.set_set]
   ·rw [if_neg hc] at hfs
    rw [if_neg fun h=>hc h.2]
    refine ⟨_,?_,s4 zOb (fun k=>by simp [Ob.closed,C.closed,B.closed]),hbut _⟩
    rw [fn_eq t46 rfl rfl]
    rcases hr with ⟨rfl,r3⟩ | ⟨i,o,rfl,r3⟩
    ·simp [KF,params,f46,Jao,hX,s1,h1,h2,r1,r2,l1,l2,z1,z2,n1,n2,n3,mapOf,Jak,got,k1,hE,List.getElem_set,List.set_set]
    ·rw [hfs] at r3;cases r3
  ·rw [if_neg fun h=>hE h.1]
   refine ⟨_,?_,s4 zOb (fun k=>by simp [Ob.closed,C.closed,B.closed]),hbut _⟩
   rw [fn_eq t46 rfl rfl]
   rcases hr with ⟨rfl,r3⟩ | ⟨i,o,rfl,r3⟩
   all_goals simp [KF,params,f46,Jao,hX,s1,h1,h2,r1,r2,l1,l2,z1,z2,n1,n2,n3,mapOf,Jak,got,k1,hE,List.getElem_set,List.set_set]
 ·obtain ⟨q,e,hx⟩:=s2.no hP
  have hE:¬ layE p=0:=fun h=>hP (JaF h)
  have h1:=Jaf hx
  have h2:=(List.getElem?_eq_some_iff.mp hx).2
  refine ⟨_,?_,s4 zOb (fun k=>by simp [Ob.closed,C.closed,B.closed]),hbut _⟩
  unfold metT
  rw [if_neg fun h=>hE h.1]
  rw [fn_eq t46 rfl rfl]
  simp [KF,params,f46,Jao,hX,s1,h1,h2,z1,z2,n1,n2,n3,mapOf,Jak,got,findKey,List.getElem_set,List.set_set]
end
theorem slots_len {p:GProgram} (hp:OkP p) (hP:hierP p=0) {s:ByteArray} (hs:clsB p s=true):(JaD (allL p) s).length≤100000:=by
 have h1:=ls_cls hp hP s
 rw [if_pos hs] at h1
 have:=(small_all hp hP).ls s
 unfold slotsT at this
 rw [h1] at this
 exact Nat.le_trans this (by decide)
theorem st_len {p:GProgram} (hp:OkP p):(stL p).length≤1000:=by
 have key:∀ l:List GClass,(∀ c ∈ l,OkC c)→(l.flatMap stC).length≤14 * l.length:=by
  intro l
  induction l with
  | nil=>simp
  | cons c t ih =>
   intro h
   have h1:=ih fun c hc=>h c (List.mem_cons_of_mem _ hc)
   have h2:=(h c List.mem_cons_self).fields
   have h3:(stC c).length≤14:=by
    have:=List.length_filter_le (fun f:GField=>f.static_) c.fields
    simp only [stC,List.length_map];omega
   rw [List.flatMap_cons,List.length_append,List.length_cons];omega
 have:=key p.classes hp.cs
 have:=hp.len
 unfold stL
 omega
def Jc7 (p:GProgram) (s:ByteArray):List GSlot:=if layE p=0∧clsB p s=true then JaD (allL p) s else []
def Jc6 (p:GProgram) (s:ByteArray):Int:=if layE p=0 then (if clsB p s=true then 0 else 5) else layE p
theorem JdO (p:GProgram) (hp:OkP p) (s:ByteArray) (σ:List Ob) (lo tr:Nat):Fn fns 13 [Jar p,vstr s] σ lo tr=some (.tup [vsl (Jc7 p s),vint (Jc6 p s)],σ):=by
 obtain ⟨S,L,s1,s2,s3,s4⟩:=fn_tabSl hp (av_new p [cP p] (fun k=>by simp [Ob.closed,C.closed,B.closed])) s
 have hof:=fn_layOf p
 have hE1:=fun lo tr=>fn_tabE1 s2 lo tr
 refine Jah t13 rfl (σ1:=[]) rfl rfl ?_ σ lo tr
 simp only [List.length_cons,List.length_nil,Nat.zero_add,Nat.reduceAdd,List.cons_append,List.nil_append] at s1 hE1
 unfold Jc7 Jc6
 by_cases hE:layE p=0
 ·have hP:=JaF hE
  have h4:=s4 hE
  by_cases hc:clsB p s=true
  ·rw [if_pos hc] at h4
   have hcl:=fn_cloneSl L (by rw [h4];exact Nat.le_trans (slots_len hp hP hc) (by decide))
   rw [h4] at hcl s1
   simp [KF,params,f13,hof,s1,hE1,hE,hc,hcl]
  ·simp [KF,params,f13,hof,s1,hE1,hE,hc,Jao]
 ·simp [KF,params,f13,hof,s1,hE1,hE,Jao]
def statP (p:GProgram):List GSlot:=if layE p=0 then stL p else []
theorem fn_layStatics (p:GProgram) (hp:OkP p) (σ:List Ob) (lo tr:Nat):Fn fns 14 [Jar p] σ lo tr=some (.tup [vsl (statP p),vint (layE p)],σ):=by
 obtain ⟨S,V,s1,s2,s3,s4⟩:=fn_tabSt hp (av_new p [cP p] (fun k=>by simp [Ob.closed,C.closed,B.closed]))
 have hof:=fn_layOf p
 have hE1:=fun lo tr=>fn_tabE1 s2 lo tr
 have hcl:=fn_cloneSl (stL p) (by have:=st_len hp;omega)
 have hcn:=fn_cloneSl [] (by simp)
 refine Jah t14 rfl (σ1:=[]) rfl rfl ?_ σ lo tr
 simp only [List.length_cons,List.length_nil,Nat.zero_add,Nat.reduceAdd,List.cons_append,List.nil_append] at s1 hE1
 unfold statP
 rw [s4] at s1
 by_cases hE:layE p=0
 ·rw [if_pos hE] at s1
  simp [KF,params,f14,hof,s1,hE1,hE,hcl]
 ·rw [if_neg hE] at s1
  simp only [vsl,Jao] at hcn
  simp [KF,params,f14,hof,s1,hE1,hE,hcn,Jao]
theorem Jbv (p:GProgram) (hp:OkP p) (s n:ByteArray) (σ:List Ob) (lo tr:Nat):Fn fns 15 [Jar p,vstr s,vstr n] σ lo tr=some (.tup [vstr ((metT p s n).elim ⟨#[]⟩ (·.1)),Jaq ((metT p s n).elim zM (·.2)),vbool (metT p s n).isSome],σ):=by
 obtain ⟨S,s1,s2,s3⟩:=fn_tabMe hp (av_new p [cP p,zOb] (fun k=>by simp [Ob.closed,C.closed,B.closed])) s n
 have hof:=fn_layOf p
 have htw:=Jd6 ((metT p s n).elim zM (·.2)) (by
  unfold metT
  split
  ·rename_i h
   have hP:=JaF h.1
   cases hm:metO (allL p) s n with
   | none=>exact okM (by decide)
   | some r =>
    have hs:=(Ja6.mp h.2).1
    obtain ⟨h1,h2,_⟩:=met_from hp hP hs hm
    exact (cls_ok hp r.1).ms _ h2
  ·exact okM (by decide))
 have hz:S[1]?=some zOb:=by
  rw [s3.2 1 (by simp) (by simp)];rfl
 have z1:=Jaf hz
 have z2:=(List.getElem?_eq_some_iff.mp hz).2
 refine Jah t15 rfl (σ1:=[]) rfl rfl ?_ σ lo tr
 simp only [List.length_cons,List.length_nil,Nat.zero_add,Nat.reduceAdd,List.cons_append,List.nil_append] at s1
 generalize (metT p s n).elim zM (·.2)=m at *
 simp [KF,params,f15,hof,s1,htw,z1,z2]
theorem Jdj (p:GProgram) (hp:OkP p) (σ:List Ob) (lo tr:Nat):Fn fns 17 [Jar p] σ lo tr=some (vint (layE p),σ):=by
 obtain ⟨S,s1,s2,s3⟩:=fn_tabE hp (av_new p [cP p] (fun k=>by simp [Ob.closed,C.closed,B.closed]))
 have hof:=fn_layOf p
 refine Jah t17 rfl (σ1:=[]) rfl rfl ?_ σ lo tr
 simp only [List.length_cons,List.length_nil,Nat.zero_add,Nat.reduceAdd,List.cons_append,List.nil_append] at s1
 simp [KF,params,f17,hof,s1]
end
abbrev sA:ByteArray:=⟨#[65]⟩
abbrev sB:ByteArray:=⟨#[66]⟩
abbrev sI:ByteArray:=⟨#[73]⟩
abbrev sF:ByteArray:=⟨#[102]⟩
abbrev sX:ByteArray:=⟨#[120]⟩
abbrev sY:ByteArray:=⟨#[121]⟩
abbrev sS:ByteArray:=⟨#[115]⟩
abbrev wInt:GType:=⟨2,⟨#[]⟩⟩
abbrev wM:GMethod:=⟨sF,false,false,[],wInt,1,[⟨1,1,⟨#[]⟩,⟨#[]⟩⟩,⟨41,0,⟨#[]⟩,⟨#[]⟩⟩],[]⟩
abbrev wMI:GMethod:=⟨sF,false,true,[],wInt,0,[],[]⟩
def pSome:GProgram:=⟨[⟨sI,true,⟨#[]⟩,[],[],[wMI]⟩,⟨sA,false,⟨#[]⟩,[sI],[⟨sX,wInt,false⟩,⟨sS,wInt,true⟩],[wM]⟩,⟨sB,false,sA,[],[⟨sY,wInt,false⟩],[]⟩]⟩
theorem some_heavy:heavy pSome=false:=by kernel_rfl
theorem some_ok:OkP pSome:=okP some_heavy
theorem some_lay:layE pSome=0:=by kernel_rfl
theorem some_slots:JaD (allL pSome) sB=[⟨sA,sX,wInt⟩,⟨sB,sY,wInt⟩]:=by kernel_rfl
theorem some_st:stL pSome=[⟨sA,sS,wInt⟩]:=by kernel_rfl
theorem some_met:metO (allL pSome) sB sF=some (sA,wM):=by kernel_rfl
theorem some_call:callE (allL pSome) sI sF=some wMI:=by kernel_rfl
def pBad:GProgram:=⟨[⟨⟨#[]⟩,false,⟨#[]⟩,[],[],[]⟩]⟩
theorem bad_ok:OkP pBad:=okP (by kernel_rfl)
theorem bad_lay:layE pBad=4:=by kernel_rfl
end Go.Proofs.YtahmcphboodogaaGreatDoor.Am
