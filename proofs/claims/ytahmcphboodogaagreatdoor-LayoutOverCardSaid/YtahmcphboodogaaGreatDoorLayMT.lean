/- Lemmas that the rows' proofs rest on; each states its own conditions. -/
import Derived.Test.YtahmcphboodogaaGreatDoorLayMB
namespace Go.Proofs.YtahmcphboodogaaGreatDoor.Am
set_option linter.unusedSimpArgs false
set_option linter.unusedVariables false
set_option linter.unusedSectionVars false
open Go
section
attribute [local simp ↓] K_seq JdI JcH JbK JdG JdH K_ret JdF JdJ JcJ JcI JbR
attribute [local simp] JcG JcF JcD JcB JcC Jaa St.rd St.raw St.set St.took JbG V.down C.down Env.keep binV unV arith Jb0 strs intOf JbO Jbh JcP andK endOf frzV frz1 frzC frzCs frz1s resOf Jb3 JcN V.closed V.closed1 C.closed B.closed Ob.closed V.cells JaO rep chunk datas C.data JbS Jai Jcm JbD JbE JaC C.plain JbJ JcA Jcx Jcw Jcv Jcy Jcz Jcr Jcs Jcu Jct Jc8 Jch Jdx Jcg Jcj Jdy Jci Jck Jbp Jbz JbA vagg Jb8 Jbs Jb7 k_Int JdB k_Str JbC Jbc JbB Jbq Jdz Jba JbH JaX Ja4 Jco JaU Jbf JaK Ja3 Jcn JaT Jbe JaJ Ja5 Jcq JaW Jbg JaL JaQ JbF JaI Ja0 Jcp JaV JaE Jbd JaA Jbr JdA Jbb JbI JaY
abbrev sC:ByteArray:=⟨#[67]⟩
abbrev mOv (k:Int) (ps:List GType) (r:GType):GMethod:=⟨sF,false,false,ps,r,1,[⟨1,k,⟨#[]⟩,⟨#[]⟩⟩,⟨41,0,⟨#[]⟩,⟨#[]⟩⟩],[]⟩
def pOv (o:GMethod):GProgram:=⟨[⟨sA,false,⟨#[]⟩,[],[],[mOv 1 [] wInt]⟩,⟨sB,false,sA,[],[],[o]⟩,⟨sC,false,sB,[],[],[]⟩]⟩
abbrev o0:GMethod:=mOv 2 [] wInt
abbrev o1:GMethod:=mOv 2 [] ⟨3,sA⟩
abbrev o2:GMethod:=mOv 2 [wInt] wInt
theorem ov0_ok:OkP (pOv o0):=okP (by kernel_rfl)
theorem ov1_ok:OkP (pOv o1):=okP (by kernel_rfl)
theorem ov2_ok:OkP (pOv o2):=okP (by kernel_rfl)
theorem ov0_lay:layE (pOv o0)=0:=by kernel_rfl
theorem ov1_lay:layE (pOv o1)=8:=by kernel_rfl
theorem ov2_lay:layE (pOv o2)=8:=by kernel_rfl
theorem ov0_c:clsB (pOv o0) sC=true:=by kernel_rfl
theorem ov0_a:clsB (pOv o0) sA=true:=by kernel_rfl
theorem ov0_mc:metO (allL (pOv o0)) sC sF=some (sB,o0):=by kernel_rfl
theorem ov0_ma:metO (allL (pOv o0)) sA sF=some (sA,mOv 1 [] wInt):=by kernel_rfl
theorem fn_told (k:Int) (σ:List Ob) (lo tr:Nat):Fn fns 28 [vint k] σ lo tr=some (.c (.osl 4 [[.int .i64 1,.int .i64 k,.str ⟨#[]⟩,.str ⟨#[]⟩],[.int .i64 41,.int .i64 0,.str ⟨#[]⟩,.str ⟨#[]⟩]]),σ):=by
 refine Jah t28 rfl (σ1:=[]) rfl rfl ?_ σ lo tr
 simp [KF,params,f28]
def dOv (o:List D):List (List D):=[[.str sA,.bool false,.str ⟨#[]⟩,.sl [],.sl [],.sl [[.str sF,.bool false,.bool false,.sl [],.int .i64 2,.str ⟨#[]⟩,.int .i64 1,.sl [[.int .i64 1,.int .i64 1,.str ⟨#[]⟩,.str ⟨#[]⟩],[.int .i64 41,.int .i64 0,.str ⟨#[]⟩,.str ⟨#[]⟩]],.sl []]]],[.str sB,.bool false,.str sA,.sl [],.sl [],.sl [o]],[.str sC,.bool false,.str sB,.sl [],.sl [],.sl []]]
theorem row_ov (o:GMethod):rows (pOv o).classes=dOv (Rec.row o):=rfl
theorem mod3 (a:Int):(IntKind.u64.wrap a).tmod 3=0∨(IntKind.u64.wrap a).tmod 3=1∨(IntKind.u64.wrap a).tmod 3=2:=by
 have g0:0≤IntKind.u64.wrap a:=by simp [IntKind.wrap,IntKind.signed,IntKind.bits];omega
 rw [Int.tmod_eq_emod_of_nonneg g0]
 omega
set_option maxRecDepth 4000 in
theorem fn_overLaw (a:Int) (σ:List Ob) (lo tr:Nat):Fn fns 6 [vint a] σ lo tr=some (vbool true,σ):=by
 refine Jah t6 rfl (σ1:=[]) rfl rfl ?_ σ lo tr
 have ht:=fn_told
 rcases mod3 a with h | h | h
 ·have h1:=Jdj _ ov0_ok
  have h2:=Jbv _ ov0_ok sC sF
  have h3:=Jbv _ ov0_ok sA sF
  have e1:metT (pOv o0) sC sF=some (sB,o0):=by unfold metT;rw [if_pos ⟨ov0_lay,ov0_c⟩];exact ov0_mc
  have e2:metT (pOv o0) sA sF=some (sA,mOv 1 [] wInt):=by unfold metT;rw [if_pos ⟨ov0_lay,ov0_a⟩];exact ov0_ma
  rw [ov0_lay] at h1
  rw [e1] at h2
  rw [e2] at h3
  simp only [Jar,row_ov,Option.elim,Option.isSome_some,Jaq] at h1 h2 h3
  simp only [dOv,Rec.row,rows,List.map_cons,List.map_nil] at h1 h2 h3
  simp [KF,params,f6,Jao,List.getElem?_append_left,List.getElem?_append_right,List.set_append_left,List.set_append_right,ht,h,h1,h2,h3,Ja1,Jai]
 ·have h1:=Jdj _ ov1_ok
  have h2:=Jbv _ ov1_ok sC sF
  have e1:metT (pOv o1) sC sF=none:=by unfold metT;rw [if_neg fun h=>by have:=h.1;rw [ov1_lay] at this;cases this]
  rw [ov1_lay] at h1
  rw [e1] at h2
  simp only [Jar,row_ov,Option.elim,Option.isSome_none,Jaq,Jao] at h1 h2
  simp only [dOv,Rec.row,rows,List.map_cons,List.map_nil] at h1 h2
  simp [KF,params,f6,Jao,List.getElem?_append_left,List.getElem?_append_right,List.set_append_left,List.set_append_right,ht,h,h1,h2,Ja1,Jai]
 ·have h1:=Jdj _ ov2_ok
  have h2:=Jbv _ ov2_ok sC sF
  have e1:metT (pOv o2) sC sF=none:=by unfold metT;rw [if_neg fun h=>by have:=h.1;rw [ov2_lay] at this;cases this]
  rw [ov2_lay] at h1
  rw [e1] at h2
  simp only [Jar,row_ov,Option.elim,Option.isSome_none,Jaq,Jao] at h1 h2
  simp only [dOv,Rec.row,rows,List.map_cons,List.map_nil] at h1 h2
  simp [KF,params,f6,Jao,List.getElem?_append_left,List.getElem?_append_right,List.set_append_left,List.set_append_right,ht,h,h1,h2,Ja1,Jai]
end
end Go.Proofs.YtahmcphboodogaaGreatDoor.Am
