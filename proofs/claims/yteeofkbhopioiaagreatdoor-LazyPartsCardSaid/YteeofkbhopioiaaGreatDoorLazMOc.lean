/- Lemmas that the rows' proofs rest on; each states its own conditions. -/
import Derived.Test.YteeofkbhopioiaaGreatDoorLazMN
namespace Go.Proofs.YteeofkbhopioiaaGreatDoor.Am
set_option linter.unusedSimpArgs false
set_option linter.unusedVariables false
set_option linter.unusedSectionVars false
open Go
section
attribute [local simp ↓] K_seq K_cond K_block K_region K_skip K_exit K_ret K_wrap KA_nil KA_none KA_some str_eq
attribute [local simp] beq_int bne_int dec_eqN dec_ltN dec_leN stepOp St.rd St.raw St.set St.took get_cons V.down C.down Env.keep binV unV arith isShift strs intOf optInt wrapEnd keptAt andK endOf frzV frz1 frzC frzCs frz1s resOf resOne resAll V.closed V.closed1 C.closed B.closed Ob.closed V.cells partsIn rep chunk datas C.data rowsOf getCells put_nil put_zero put_succ mayWrite C.plain eqV_bool eqV_agg eqV_pnn eqV_pnp eqV_ppn eqV_mnn eqV_mmn eqV_snn eqV_sen eqV_san eqV_sdn rs_len rs_getE rs_app rs_take rs_drop rs_all rs_each row_len str_nilP str_nilE str_nilB vagg row_Int row_Bool row_Str k_Int k_Bool k_Str snoc_Int snoc_Bool snoc_Str row_Type k_Type snoc_Type eta_Type sames_Type row_Field k_Field snoc_Field eta_Field sames_Field row_Instr k_Instr snoc_Instr eta_Instr sames_Instr row_Catch k_Catch snoc_Catch eta_Catch sames_Catch row_Method k_Method snoc_Method row_Class k_Class snoc_Class row_Program k_Program snoc_Program row_Slot k_Slot snoc_Slot eta_Slot sames_Slot row_Way k_Way snoc_Way eta_Way sames_Way
set_option maxRecDepth 8000 in
set_option maxHeartbeats 6400000 in
theorem parts_c (p:GProgram) (name:ByteArray) (met:List GType) (rn:ByteArray) (at_ long n:Int) (hv:heavy p=false) (la:¬ (60:Int) < name.size) (hE:layE p=0) (hm3:met.length < 3) (hrr:rightR p ⟨3,name⟩=true) (hin:¬ ((0 < met.length∧0≤at_)∧at_ < met.length)) (σ:List Ob) (lo tr:Nat):Fn fns 5 [vProgram p,vstr name,vsl met,vType ⟨3,rn⟩,vbool false,vint at_,vint long,vint n] σ lo tr=some (vbool true,σ):=by
 refine fn_gen t5 rfl (σ1:=[]) rfl rfl ?_ σ lo tr
 have hp:=okP hv
 have hly:=fn_refLayout p hp
 rw [← lay_eq hp,hE] at hly
 have hP:=layE_hier hE
 have lc:¬ (3:Int)≤met.length:=by omega
 have lc':¬ 3≤met.length:=by omega
 have hr:=fn_refRight p hp ⟨3,name⟩
 rw [hrr] at hr
 obtain ⟨m,hm1,hm2⟩:=mod4 long
 obtain ⟨q,hq1,hq2⟩:=mod4 n
 have hnm:namedT p ⟨3,name⟩=true:=by rw [named_right,hrr];rfl
 have hat:=fn_at p.classes rn (by have:=hp.len;omega)
 have hao:=at_own p rn
 have hrc:=fn_refClass p hp rn
 have hun:=fn_under p hp
 have hX:waysX p ⟨3,name⟩ met 3 m=0:=by unfold waysX;rw [if_pos hE,if_pos hnm,if_neg (by omega)]
 have hW:waysP p ⟨3,name⟩ met 3 m=waysI p ⟨3,name⟩ met 3 m:=by unfold waysP;rw [if_pos hX]
 have h1:=fn_lazyWays p hp ⟨3,name⟩ met (by omega) 3 m
 rw [hX,hW] at h1
 have hlen:(waysI p ⟨3,name⟩ met 3 m).length≤1000:=by
  have h1:=there_len p ⟨3,name⟩ met 0
  have h2:=kinds_len hp name
  unfold waysI newF
  rw [List.length_cons,List.length_append,if_neg (by omega),if_pos rfl,List.length_map]
  simp only
  omega
 have Lo:=fun is k=>parts_loop p met false at_ q ⟨3,rn⟩ ⟨3,name⟩ (waysI p ⟨3,name⟩ met 3 m) (by omega) is k _ 0 0 (Nat.zero_add _) (by omega)
 rw [List.drop_zero,Nat.zero_add] at Lo
 simp only [Int.natCast_zero] at Lo
 have hu:=hun rn name
 have cn:=count_new (long:=(m:Int)) hp hP hm3 (t:=⟨3,name⟩) rfl rn
 simp only at cn
 have km:=kinds_mem hp hP rn name
 have hin':(¬ 0 < met.length)∨(0 < met.length∧¬ 0≤at_)∨(0 < met.length∧0≤at_∧¬ at_ < met.length):=by omega
 have e:(if rn ∈ kindsP p name then 1 else 0:Nat)=if (decide (0≤atI p.classes rn) && (clsB p rn && underP p rn name))=true then 1 else 0:=by
  rw [hao,km];simp
 rw [part_new hin,cn,e] at Lo
 clear cn km e hao
 generalize waysI p ⟨3,name⟩ met 3 m=W at *
 generalize underP p rn name=un at *
 generalize atI p.classes rn=a at *
 rcases hin' with g | ⟨g1,g⟩ | ⟨g1,g2,g⟩
 ·by_cases a0:0≤a
  ·cases hc:clsB p rn<;>rw [hc] at hrc Lo<;>cases un<;>simp [KF,params,f5,List.getElem?_append_left,List.getElem?_append_right,List.set_append_left,List.set_append_right,fn_heavy,hv,la,hly,lc,lc',hr,hm2,hq2,h1,hat,a0,hrc,hu,g,Lo,fn_wakesL]
  ·simp [KF,params,f5,List.getElem?_append_left,List.getElem?_append_right,List.set_append_left,List.set_append_right,fn_heavy,hv,la,hly,lc,lc',hr,hm2,hq2,h1,hat,a0,g,Lo,fn_wakesL]
 ·by_cases a0:0≤a
  ·cases hc:clsB p rn<;>rw [hc] at hrc Lo<;>cases un<;>simp [KF,params,f5,List.getElem?_append_left,List.getElem?_append_right,List.set_append_left,List.set_append_right,fn_heavy,hv,la,hly,lc,lc',hr,hm2,hq2,h1,hat,a0,hrc,hu,g1,g,Lo,fn_wakesL]
  ·simp [KF,params,f5,List.getElem?_append_left,List.getElem?_append_right,List.set_append_left,List.set_append_right,fn_heavy,hv,la,hly,lc,lc',hr,hm2,hq2,h1,hat,a0,g1,g,Lo,fn_wakesL]
 ·by_cases a0:0≤a
  ·cases hc:clsB p rn<;>rw [hc] at hrc Lo<;>cases un<;>simp [KF,params,f5,List.getElem?_append_left,List.getElem?_append_right,List.set_append_left,List.set_append_right,fn_heavy,hv,la,hly,lc,lc',hr,hm2,hq2,h1,hat,a0,hrc,hu,g1,g2,g,Lo,fn_wakesL]
  ·simp [KF,params,f5,List.getElem?_append_left,List.getElem?_append_right,List.set_append_left,List.set_append_right,fn_heavy,hv,la,hly,lc,lc',hr,hm2,hq2,h1,hat,a0,g1,g2,g,Lo,fn_wakesL]
end
end Go.Proofs.YteeofkbhopioiaaGreatDoor.Am
