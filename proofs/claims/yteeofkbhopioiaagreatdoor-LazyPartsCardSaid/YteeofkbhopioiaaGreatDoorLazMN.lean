/- Lemmas that the rows' proofs rest on; each states its own conditions. -/
import Derived.Test.YteeofkbhopioiaaGreatDoorLazMK
import Derived.Test.YteeofkbhopioiaaGreatDoorLazMA
namespace Go.Proofs.YteeofkbhopioiaaGreatDoor.Am
set_option linter.unusedSimpArgs false
set_option linter.unusedVariables false
set_option linter.unusedSectionVars false
open Go
section
attribute [local simp ↓] K_seq K_cond K_block K_region K_skip K_exit K_ret K_wrap KA_nil KA_none KA_some str_eq
attribute [local simp] beq_int bne_int dec_eqN dec_ltN dec_leN stepOp St.rd St.raw St.set St.took get_cons V.down C.down Env.keep binV unV arith isShift strs intOf optInt wrapEnd keptAt andK endOf frzV frz1 frzC frzCs frz1s resOf resOne resAll V.closed V.closed1 C.closed B.closed Ob.closed V.cells partsIn rep chunk datas C.data rowsOf getCells put_nil put_zero put_succ mayWrite C.plain eqV_bool eqV_agg eqV_pnn eqV_pnp eqV_ppn eqV_mnn eqV_mmn eqV_snn eqV_sen eqV_san eqV_sdn rs_len rs_getE rs_app rs_take rs_drop rs_all rs_each row_len str_nilP str_nilE str_nilB vagg row_Int row_Bool row_Str k_Int k_Bool k_Str snoc_Int snoc_Bool snoc_Str row_Type k_Type snoc_Type eta_Type sames_Type row_Field k_Field snoc_Field eta_Field sames_Field row_Instr k_Instr snoc_Instr eta_Instr sames_Instr row_Catch k_Catch snoc_Catch eta_Catch sames_Catch row_Method k_Method snoc_Method row_Class k_Class snoc_Class row_Program k_Program snoc_Program row_Slot k_Slot snoc_Slot eta_Slot sames_Slot row_Way k_Way snoc_Way eta_Way sames_Way
def partB (met:List GType) (null:Bool) (at_ n:Int) (real t:GType) (w:GWay):Bool :=
 if null=true then decide (w.kind=1) else if (0 < met.length∧0≤at_)∧at_ < met.length then decide (w.kind=2) && decide (w.n=at_) else if real.kind=3 then decide (w.kind=3) && decide (w.type_=⟨3,real.name⟩) else decide (w.kind=4) && (decide (w.n=n) && decide (w.type_=t))
set_option maxRecDepth 4000 in
set_option maxHeartbeats 4000000 in
theorem parts_loop (p:GProgram) (met:List GType) (null:Bool) (at_ n:Int) (real t:GType) (l:List GWay) (hl:l.length≤100000) (is:Bool) (k:AExit→St→Option (V × List Ob)):∀ (m i c:Nat),i+m=l.length→c+m≤200000 →
  K fns ⟨0,0⟩ f5_l0 ⟨[(2,vsl met),(4,vbool null),(5,vint at_),(7,vint n),(8,vptr 0),(11,vptr 1),(17,vptr 2),(18,vsl l),(20,vptr 3),(21,vbool is),(22,vint c),(23,vint i)],[cP p,cTy real,cTy t,cTy ⟨3,real.name⟩]⟩ k =
   k (.exit 0) ⟨[(2,vsl met),(4,vbool null),(5,vint at_),(8,vptr 0),(17,vptr 2),(21,vbool is),(22,vint ((c+(l.drop i).countP (partB met null at_ n real t):Nat):Int))],[cP p,cTy real,cTy t,cTy ⟨3,real.name⟩]⟩:=by
 intro m
 induction m with
 | zero =>
  intro i c hi _
  have hi':i=l.length:=by omega
  subst hi'
  rw [List.drop_length,List.countP_nil,Nat.add_zero,u5_l0]
  simp [f5_b0]
 | succ m ih =>
  intro i c hi hc
  have hlt:i < l.length:=by omega
  have hw:=wrap_succ (i:=i) (by omega)
  have hwc:=wrap_succ (i:=c) (by omega)
  have hdr:l.drop i=l[i] :: l.drop (i+1):=List.drop_eq_getElem_cons hlt
  rw [hdr,List.countP_cons]
  obtain ⟨b,hb⟩:∃ b,l[i]=b:=⟨_,rfl⟩
  simp only [hb]
  have e:c+((l.drop (i+1)).countP (partB met null at_ n real t)+if partB met null at_ n real t b=true then 1 else 0)=(if partB met null at_ n real t b=true then c+1 else c)+(l.drop (i+1)).countP (partB met null at_ n real t):=by split<;>omega
  rw [e,← ih (i+1) _ (by omega) (by split<;>omega),u5_l0]
  obtain ⟨bk,bn,btk,btn⟩:=b
  obtain ⟨rk,rn⟩:=real
  obtain ⟨tk,tn⟩:=t
  unfold partB
  cases null with
  | true =>
   by_cases h:bk=1<;>simp [f5_b0,hlt,hb,hw,hwc,h]
  | false =>
   by_cases hin:(0 < met.length∧0≤at_)∧at_ < met.length
   ·obtain ⟨⟨m0,a0⟩,a1⟩:=hin
    by_cases h2:bk=2
    ·subst h2
     by_cases h:bn=at_
     ·subst h
      simp [f5_b0,hlt,hb,hw,hwc,m0,a0,a1]
     ·simp [f5_b0,hlt,hb,hw,hwc,m0,a0,a1,h]
    ·simp [f5_b0,hlt,hb,hw,hwc,m0,a0,a1,h2]
   ·have hin':(¬ 0 < met.length)∨(0 < met.length∧¬ 0≤at_)∨(0 < met.length∧0≤at_∧¬ at_ < met.length):=by omega
    simp only [if_neg hin,Bool.false_eq_true,if_false]
    by_cases r3:rk=3
    ·subst r3
     simp only [if_true]
     by_cases h3:bk=3
     ·subst h3
      by_cases h:(⟨btk,btn⟩:GType)=⟨3,rn⟩
      ·cases h
       rcases hin' with g | ⟨g1,g⟩ | ⟨g1,g2,g⟩
       ·simp [f5_b0,hlt,hb,hw,hwc,g]
       ·simp [f5_b0,hlt,hb,hw,hwc,g1,g]
       ·simp [f5_b0,hlt,hb,hw,hwc,g1,g2,g]
      ·rcases hin' with g | ⟨g1,g⟩ | ⟨g1,g2,g⟩
       ·simp [f5_b0,hlt,hb,hw,hwc,g,h]
       ·simp [f5_b0,hlt,hb,hw,hwc,g1,g,h]
       ·simp [f5_b0,hlt,hb,hw,hwc,g1,g2,g,h]
     ·rcases hin' with g | ⟨g1,g⟩ | ⟨g1,g2,g⟩
      ·simp [f5_b0,hlt,hb,hw,hwc,g,h3]
      ·simp [f5_b0,hlt,hb,hw,hwc,g1,g,h3]
      ·simp [f5_b0,hlt,hb,hw,hwc,g1,g2,g,h3]
    ·simp only [if_neg r3]
     by_cases h4:bk=4
     ·subst h4
      by_cases h5:bn=n
      ·subst h5
       by_cases h:(⟨btk,btn⟩:GType)=⟨tk,tn⟩
       ·cases h
        rcases hin' with g | ⟨g1,g⟩ | ⟨g1,g2,g⟩
        ·simp [f5_b0,hlt,hb,hw,hwc,r3,g]
        ·simp [f5_b0,hlt,hb,hw,hwc,r3,g1,g]
        ·simp [f5_b0,hlt,hb,hw,hwc,r3,g1,g2,g]
       ·rcases hin' with g | ⟨g1,g⟩ | ⟨g1,g2,g⟩
        ·simp [f5_b0,hlt,hb,hw,hwc,r3,g,h]
        ·simp [f5_b0,hlt,hb,hw,hwc,r3,g1,g,h]
        ·simp [f5_b0,hlt,hb,hw,hwc,r3,g1,g2,g,h]
      ·rcases hin' with g | ⟨g1,g⟩ | ⟨g1,g2,g⟩
       ·simp [f5_b0,hlt,hb,hw,hwc,r3,g,h5]
       ·simp [f5_b0,hlt,hb,hw,hwc,r3,g1,g,h5]
       ·simp [f5_b0,hlt,hb,hw,hwc,r3,g1,g2,g,h5]
     ·rcases hin' with g | ⟨g1,g⟩ | ⟨g1,g2,g⟩
      ·simp [f5_b0,hlt,hb,hw,hwc,r3,g,h4]
      ·simp [f5_b0,hlt,hb,hw,hwc,r3,g1,g,h4]
      ·simp [f5_b0,hlt,hb,hw,hwc,r3,g1,g2,g,h4]
theorem kinds_mem {p:GProgram} (hp:OkP p) (hP:hierP p=0) (s a:ByteArray):(ownB p s && (clsB p s && underP p s a))=decide (s ∈ kindsP p a):=by
 rw [Bool.eq_iff_iff]
 unfold kindsP
 rw [if_pos hP,decide_eq_true_eq,List.mem_filter]
 have e:(namesOf (allL p)).drop 8=p.classes.map (·.name):=rfl
 rw [e]
 unfold ownB
 simp only [Bool.and_eq_true,decide_eq_true_eq]
 constructor
 ·rintro ⟨h1,h2,h3⟩
  have:=(cls_iff.mp h2).2
  refine ⟨h1,?_,h3⟩
  unfold plainP
  have h4:((findC (allL p) s).getD noC).iface=false:=this
  rw [h4];rfl
 ·rintro ⟨h1,h2,h3⟩
  have hn:s ∈ namesOf (allL p):=under_names h3
  refine ⟨h1,cls_iff.mpr ⟨hn,?_⟩,h3⟩
  unfold plainP at h2
  simpa using h2
theorem part_null {met:List GType} {at_ n:Int} {real t:GType}:partB met true at_ n real t=fun w=>decide (w.kind=1):=by
 funext w;unfold partB;rw [if_pos rfl]
theorem part_met {met:List GType} {at_ n:Int} {real t:GType} (h:(0 < met.length∧0≤at_)∧at_ < met.length):partB met false at_ n real t=fun w=>decide (w.kind=2) && decide (w.n=at_):=by
 funext w;unfold partB;rw [if_neg (by simp),if_pos h]
theorem part_new {met:List GType} {at_ n:Int} {rn:ByteArray} {t:GType} (h:¬ ((0 < met.length∧0≤at_)∧at_ < met.length)):partB met false at_ n ⟨3,rn⟩ t=fun w=>decide (w.kind=3) && decide (w.type_=⟨3,rn⟩):=by
 funext w;unfold partB;rw [if_neg (by simp),if_neg h,if_pos rfl]
theorem part_row {met:List GType} {at_ n:Int} {real t:GType} (h:¬ ((0 < met.length∧0≤at_)∧at_ < met.length)) (hk:real.kind≠3):partB met false at_ n real t=fun w=>decide (w.kind=4) && (decide (w.n=n) && decide (w.type_=t)):=by
 funext w;unfold partB;rw [if_neg (by simp),if_neg h,if_neg hk]
end
end Go.Proofs.YteeofkbhopioiaaGreatDoor.Am
