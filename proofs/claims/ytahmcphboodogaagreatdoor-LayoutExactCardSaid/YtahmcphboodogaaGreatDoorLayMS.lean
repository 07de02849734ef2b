/- Lemmas that the rows' proofs rest on; each states its own conditions. -/
import Derived.Test.YtahmcphboodogaaGreatDoorLayMB
import Derived.Test.YtahmcphboodogaaGreatDoorLayMC
namespace Go.Proofs.YtahmcphboodogaaGreatDoor.Am
set_option linter.unusedSimpArgs false
set_option linter.unusedVariables false
set_option linter.unusedSectionVars false
open Go
section
attribute [local simp ↓] K_seq JdI JcH JbK JdG JdH K_ret JdF JdJ JcJ JcI JbR
attribute [local simp] JcG JcF JcD JcB JcC Jaa St.rd St.raw St.set St.took JbG V.down C.down Env.keep binV unV arith Jb0 strs intOf JbO Jbh JcP andK endOf frzV frz1 frzC frzCs frz1s resOf Jb3 JcN V.closed V.closed1 C.closed B.closed Ob.closed V.cells JaO rep chunk datas C.data JbS Jai Jcm JbD JbE JaC C.plain JbJ JcA Jcx Jcw Jcv Jcy Jcz Jcr Jcs Jcu Jct Jc8 Jch Jdx Jcg Jcj Jdy Jci Jck Jbp Jbz JbA vagg Jb8 Jbs Jb7 k_Int JdB k_Str JbC Jbc JbB Jbq Jdz Jba JbH JaX Ja4 Jco JaU Jbf JaK Ja3 Jcn JaT Jbe JaJ Ja5 Jcq JaW Jbg JaL JaQ JbF JaI Ja0 Jcp JaV JaE Jbd JaA Jbr JdA Jbb JbI JaY
theorem call_ok {p:GProgram} (hp:OkP p) (s n:ByteArray):OkM ((callP p s n).getD zM):=by
 rw [call_raw]
 cases hq:rawP p s n with
 | none=>exact zM_ok
 | some m =>
  have hE:layE p=0:=by
   unfold rawP at hq
   split at hq
   ·rename_i h;exact h.1
   ·cases hq
  simp only [Option.elim]
  cases m.static_ with
  | true=>exact zM_ok
  | false=>exact call_in hp hE hq
set_option maxRecDepth 8000 in
set_option maxHeartbeats 1600000 in
theorem fn_exactLaw5 (p:GProgram) (s n:ByteArray) (σ:List Ob) (lo tr:Nat):Fn fns 3 [Jar p,vstr s,vstr n] σ lo tr=some (vbool true,σ):=by
 refine Jah t3 rfl (σ1:=[]) rfl rfl ?_ σ lo tr
 cases hv:heavy p
 case true=>simp [KF,params,f3,JaB,hv]
 by_cases la:(60:Int) < s.size
 ·simp [KF,params,f3,JaB,hv,la]
 by_cases lb:(60:Int) < n.size
 ·simp [KF,params,f3,JaB,hv,la,lb]
 have hp:=okP hv
 have hly:=Jdt p hp
 rw [← lay_eq hp] at hly
 have htw:=fn_twinProgram p hp
 have hpr:=fn_programR p hp
 have h1:=JdO p hp s
 have h2:=fn_layStatics p hp
 have h3:=Jbv p hp s n
 have h4:=fn_layCall p hp s n
 have h5:=Jdj p hp
 by_cases hE:layE p=0
 case neg =>
  have e1:Jc7 p s=[]:=by unfold Jc7;rw [if_neg fun h=>hE h.1]
  have e2:Jc6 p s=layE p:=by unfold Jc6;rw [if_neg hE]
  have e3:statP p=[]:=by unfold statP;rw [if_neg hE]
  have e4:metT p s n=none:=by unfold metT;rw [if_neg fun h=>hE h.1]
  have e5:callP p s n=none:=by unfold callP;rw [if_neg hE]
  rw [e1,e2] at h1
  rw [e3] at h2
  rw [e4] at h3
  rw [e5] at h4
  have hz:=Jdi zM zM_ok
  have w0:IntKind.i64.wrap 0=0:=by decide
  simp only [Option.elim,Option.getD_none,Option.isSome_none,Jaq,vsl,Jao] at h1 h2 h3 h4 hz
  simp [KF,params,f3,Jao,List.getElem?_append_left,List.getElem?_append_right,List.set_append_left,List.set_append_right,JaB,hv,la,lb,hly,htw,hpr,h1,h2,h3,h4,h5,hE,hz,w0,Ja1]
 case pos =>
  have hP:=JaF hE
  have hrs:=fn_refStatics p hp
  have hrc:=fn_refClass p hp s
  have hrm:=fn_refMethod_ p hp hE s n
  have hrk:=fn_refCall p hp hE s n
  have e3:statP p=stL p:=by unfold statP;rw [if_pos hE]
  rw [e3] at h2
  rw [hE] at h2 hly h5
  have hl:=st_len hp
  have heq:=fn_slotsEq (stL p) (stL p) (by omega) (by omega)
  simp only [decide_true] at heq
  have hko:=Jdi _ (call_ok hp s n)
  generalize stL p=st at *
  by_cases hc:clsB p s=true
  ·have hs:=(Ja6.mp hc).1
   have e1:Jc7 p s=JaD (allL p) s:=by unfold Jc7;rw [if_pos ⟨hE,hc⟩]
   have e2:Jc6 p s=0:=by unfold Jc6;rw [if_pos hE,if_pos hc]
   have e4:metT p s n=metO (allL p) s n:=by unfold metT;rw [if_pos ⟨hE,hc⟩]
   rw [e1,e2] at h1
   rw [e4] at h3 hrm
   have hrl:=fn_refSlots p hp hP s hs
   have hlen:=slots_len hp hP hc
   have heq2:=fn_slotsEq (JaD (allL p) s) (JaD (allL p) s) (by omega) (by omega)
   simp only [decide_true] at heq2
   have hmo:=Jdi _ (met_ok hp hP (n:=n) hs)
   generalize JaD (allL p) s=sl at *
   rw [hc] at hrc
   obtain ⟨m2,g2⟩:∃ m2,(callP p s n).getD zM=m2:=⟨_,rfl⟩
   obtain ⟨b2,g3⟩:∃ b2,(callP p s n).isSome=b2:=⟨_,rfl⟩
   rw [g2] at h4 hrk hko
   rw [g3] at h4 hrk
   cases hm:metO (allL p) s n with
   | none =>
    rw [hm] at h3 hrm hmo
    simp only [Option.elim,Option.isSome_none,Jaq,Jao] at h3 hrm hmo
    cases b2
    all_goals simp [KF,params,f3,Jao,List.getElem?_append_left,List.getElem?_append_right,List.set_append_left,List.set_append_right,JaB,hv,la,lb,hly,htw,hpr,h1,h2,h3,h4,h5,hE,hrs,hrc,hrm,hrk,heq,heq2,hrl,hmo,hko,Ja1]
   | some r =>
    have hne:¬ r.1=⟨#[]⟩:=fun h=>by
     have:=JcZ hp hP hs _ (met_from hp hP hs hm).1
     exact JaZ hP this h
    rw [hm] at h3 hrm hmo
    simp only [Option.elim,Option.isSome_some,Jaq] at h3 hrm hmo
    cases b2
    all_goals simp [KF,params,f3,Jao,List.getElem?_append_left,List.getElem?_append_right,List.set_append_left,List.set_append_right,JaB,hv,la,lb,hly,htw,hpr,h1,h2,h3,h4,h5,hE,hrs,hrc,hrm,hrk,heq,heq2,hrl,hmo,hko,hne,Ja1]
  ·have e1:Jc7 p s=[]:=by unfold Jc7;rw [if_neg fun h=>hc h.2]
   have e2:Jc6 p s=5:=by unfold Jc6;rw [if_pos hE,if_neg hc]
   have e4:metT p s n=none:=by unfold metT;rw [if_neg fun h=>hc h.2]
   have hcf:clsB p s=false:=by simpa using hc
   rw [e1,e2] at h1
   rw [e4] at h3
   rw [hcf] at hrc
   simp only [Option.elim,Option.isSome_none,Jaq,vsl,Jao] at h1 h3
   obtain ⟨m2,g2⟩:∃ m2,(callP p s n).getD zM=m2:=⟨_,rfl⟩
   obtain ⟨b2,g3⟩:∃ b2,(callP p s n).isSome=b2:=⟨_,rfl⟩
   rw [g2] at h4 hrk hko
   rw [g3] at h4 hrk
   cases b2
   all_goals simp [KF,params,f3,Jao,List.getElem?_append_left,List.getElem?_append_right,List.set_append_left,List.set_append_right,JaB,hv,la,lb,hly,htw,hpr,h1,h2,h3,h4,h5,hE,hrs,hrc,hrk,heq,hko,Ja1]
end
end Go.Proofs.YtahmcphboodogaaGreatDoor.Am
