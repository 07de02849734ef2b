/- Lemmas that the rows' proofs rest on; each states its own conditions. -/
import Derived.Test.YteeofkbhopioiaaGreatDoorProg
import Derived.Test.YteeofkbhopioiaaGreatDoorMachC
import Derived.Tactics
import Derived.Tactics2
import Derived.Defers
import Derived.Laws.Pointers
import Derived.Laws.LoneSync
import Derived.RegionTactic
import Derived.RegionCalls
import Derived.ChangeAlike
import Derived.KernelRfl
set_option linter.unusedVariables false
set_option linter.unusedSimpArgs false
set_option linter.unusedSectionVars false
namespace Go.Proofs.YteeofkbhopioiaaGreatDoor.Am
open Go
set_option maxRecDepth 100000
set_option maxHeartbeats 1600000
theorem o_disable (w:World):(callFunc 169 #[]).run Tryz.prog w=.ok (.value (.tuple #[])) w:=run_call_mark0 Tryz.func169 (by kernel_rfl) (by kernel_rfl) (by kernel_rfl) .disable (by kernel_rfl) w
theorem o_enable (w:World):(callFunc 171 #[]).run Tryz.prog w=.ok (.value (.tuple #[])) w:=run_call_mark0 Tryz.func171 (by kernel_rfl) (by kernel_rfl) (by kernel_rfl) .enable (by kernel_rfl) w
theorem o_acquire (a:Addr) (w:World):(callFunc 172 #[.pointer (some a)]).run Tryz.prog w=.ok (.value (.tuple #[])) w:=run_call_marked Tryz.func172 (by kernel_rfl) (by kernel_rfl) (by kernel_rfl) .acquire (by kernel_rfl) a w
theorem o_release (a:Addr) (w:World):(callFunc 174 #[.pointer (some a)]).run Tryz.prog w=.ok (.value (.tuple #[])) w:=run_call_marked Tryz.func174 (by kernel_rfl) (by kernel_rfl) (by kernel_rfl) .releaseMerge (by kernel_rfl) a w
theorem o_store (a:Addr) (x:Value) (u:FrameMode) (w:World) (hc:w.cell? a=some x) (hz:w.frozen? a=false) :
  CallsD Tryz.prog 115 #[.pointer (some a),.bool true] u w fun e u' w'=>u'=u∧(e=.returned (.tuple #[])∧w'=w.drew.setCell a (.int .u32 1)):=by
 have hc':w.drew.cell? a=some x:=by go_simp
 have hz':w.drew.frozen? a=false:=by go_simp
 have hst:=run_call_store (P:=Tryz.prog) Tryz.func146 (by kernel_rfl) (by kernel_rfl) (by kernel_rfl) (by kernel_rfl) (k:=.u32) (y:=1) hc' hz'
 go_enter_d Tryz.func115,Tryz.ntmps115
 go_wp2
 go_region_calls
 all_goals (go_end0;exact ⟨rfl,rfl⟩)
theorem o_unlock (a:Addr) (u:FrameMode) (w:World) (hc:w.cell? a=some (.int .i32 1)) (hz:w.frozen? a=false) :
  CallsD Tryz.prog 114 #[.pointer (some a)] u w fun e u' w'=>u'=u∧(e=.returned (.tuple #[])∧w'=w.setCell a (.int .i32 0)):=by
 have hd:=o_disable
 have he:=o_enable
 have hr:=o_release
 have hadd:=run_call_add (P:=Tryz.prog) Tryz.func175 (by kernel_rfl) (by kernel_rfl) (by kernel_rfl) .i32 (by kernel_rfl) (y:=-1) (s:=0) hc hz (by simp [go_sem];rfl)
 have hcv:=run_convert_to_unsafe (P:=Tryz.prog) (src:=230) (dst:=234) Tryz.underlying230 Tryz.underlying234 (by kernel_rfl) hc
 go_enter_d Tryz.func114,Tryz.ntmps114
 go_wp2
 go_end0
 go_wp2
 go_end0
 exact ⟨rfl,rfl⟩
theorem o_lock (a:Addr) (w:World) (hc:w.cell? a=some (.int .i32 0)) (hz:w.frozen? a=false) :
  Calls Tryz.prog 113 #[.pointer (some a)] w fun e w'=>e=.returned (.tuple #[])∧w'=w.setCell a (.int .i32 1):=by
 have hd:=o_disable
 have he:=o_enable
 have ha:=o_acquire
 have hcas:=run_call_cas_hit (P:=Tryz.prog) Tryz.func170 (by kernel_rfl) (by kernel_rfl) (by kernel_rfl) .i32 (by kernel_rfl) (y:=1) hc hz
 have hc':(w.setCell a (.int .i32 1)).cell? a=some (.int .i32 1):=World.cell?_setCell_same w a _ hc
 have hcv:=run_convert_to_unsafe (P:=Tryz.prog) (src:=230) (dst:=234) Tryz.underlying230 Tryz.underlying234 (by kernel_rfl) hc'
 go_enter Tryz.func113,Tryz.ntmps113
 go_wp2
 first | go_end0 | (simp only [Exit.inBlock,Exit.then];refine bodyPost_ret (results_none rfl _ _ _) rfl ?_) | refine bodyPost_ret (results_none rfl _ _ _) rfl ?_
 go_wp2
 go_end0
 exact ⟨rfl,rfl⟩
theorem o_done (a:Addr) (d:Int) (fv:Value) (w:World) (hd:¬ d=0) (h0:w.cell? a=some (.int .u32 d)) :
  Calls Tryz.prog 72 #[.pointer (some a),fv] w fun e w'=>e=.returned (.tuple #[])∧w'=w:=by
 have hl:=run_call_load (P:=Tryz.prog) Tryz.func112 (by kernel_rfl) (by kernel_rfl) (by kernel_rfl) .u32 (by kernel_rfl) h0
 have hnot:∀ (x:Bool) (w:World),(Op.unary .not (.bool x)).run Tryz.prog w=.ok (.bool (!x)) w:=fun _ _=>rfl
 have hd':(d != 0)=true:=by simp [hd]
 go_enter Tryz.func72,Tryz.ntmps72
 go_wp2
 go_end0
 exact ⟨rfl,rfl⟩
set_option maxRecDepth 100000 in
set_option maxHeartbeats 1600000 in
theorem o_slow (b o k:Nat) (xs ys:Array Value) (w:World) (R:Ending→World→Prop) (hk:entered Tryz.prog k=true)
  (h0:w.cell? ⟨b,o,none⟩=some (.int .u32 0)) (h1:w.cell? ⟨b,o+1,none⟩=some (.int .i32 0)) (f0:w.frozen? ⟨b,o,none⟩=false) (f1:w.frozen? ⟨b,o+1,none⟩=false)
  (hc:Calls Tryz.prog k (xs ++ ys) (w.setCell ⟨b,o+1,none⟩ (.int .i32 1)) R)
  (hR:∀ e w',R e w'→(∃ u,e=.returned u)∧w'.cell? ⟨b,o,none⟩=some (.int .u32 0)∧w'.cell? ⟨b,o+1,none⟩=some (.int .i32 1)∧w'.frozen? ⟨b,o,none⟩=false∧w'.frozen? ⟨b,o+1,none⟩=false) :
  Calls Tryz.prog 90 #[.pointer (some ⟨b,o,none⟩),.func (.func k) xs ys] w fun e w'=>e=.returned (.tuple #[])∧∃ e1 w1,R e1 w1∧w'=(w1.drew.setCell ⟨b,o,none⟩ (.int .u32 1)).setCell ⟨b,o+1,none⟩ (.int .i32 0):=by
 have hl:=run_call_load (P:=Tryz.prog) Tryz.func112 (by kernel_rfl) (by kernel_rfl) (by kernel_rfl) .u32 (by kernel_rfl) (w:=w.setCell ⟨b,o+1,none⟩ (.int .i32 1)) (a:=⟨b,o,none⟩) (x:=0) ((World.cell?_setCell_other _ ⟨b,o+1,none⟩ ⟨b,o,none⟩ _ (by simp)).trans h0)
 have hnot:∀ (x:Bool) (w:World),(Op.unary .not (.bool x)).run Tryz.prog w=.ok (.bool (!x)) w:=fun _ _=>rfl
 have hcf:∀ (vs:Array Value) (w:World),(callFunc k vs).run Tryz.prog w=.ok (.enter k vs) w:=fun vs w=>run_callFunc hk
 go_enter_defers Tryz.func90,Tryz.ntmps90
 go_wp2_with (go_at_call 113;refine (o_lock ⟨b,o+1,none⟩ _ (by go_simp) (by go_simp)).mono ?_;rintro e w' ⟨rfl,rfl⟩)
 go_wp2
 refine hc.mono ?_
 rintro e w1 hr
 obtain ⟨⟨u,rfl⟩,c0,c1,z0,z1⟩:=hR e w1 hr
 go_wp2
 refine leaves_cons (f:=115) (args:=#[.pointer (some ⟨b,o,none⟩),.bool true]) (by simp) (by simp [go_sem]) ?_
 refine (o_store ⟨b,o,none⟩ (.int .u32 0) .returning _ c0 z0).mono ?_
 rintro e u' w'' ⟨rfl,rfl,rfl⟩
 refine leaves_cons (f:=114) (args:=#[.pointer (some ⟨b,o+1,none⟩)]) (by simp [settle]) (by simp [go_sem]) ?_
 refine (o_unlock ⟨b,o+1,none⟩ _ _ ?_ (by simp [z1])).mono ?_
 ·refine (World.cell?_setCell_other _ ⟨b,o,none⟩ ⟨b,o+1,none⟩ _ (by simp)).trans ?_
  rw [World.cell?_drew]
  exact c1
 rintro e u' w'' ⟨rfl,rfl,rfl⟩
 simp [Leaves,settle,results,Tryz.results90]
 exact ⟨_,w1,hr,rfl⟩
theorem o_first (b o k:Nat) (xs ys:Array Value) (w:World) (R:Ending→World→Prop) (hk:entered Tryz.prog k=true)
  (h0:w.cell? ⟨b,o,none⟩=some (.int .u32 0)) (h1:w.cell? ⟨b,o+1,none⟩=some (.int .i32 0)) (f0:w.frozen? ⟨b,o,none⟩=false) (f1:w.frozen? ⟨b,o+1,none⟩=false)
  (hc:Calls Tryz.prog k (xs ++ ys) (w.setCell ⟨b,o+1,none⟩ (.int .i32 1)) R)
  (hR:∀ e w',R e w'→(∃ u,e=.returned u)∧w'.cell? ⟨b,o,none⟩=some (.int .u32 0)∧w'.cell? ⟨b,o+1,none⟩=some (.int .i32 1)∧w'.frozen? ⟨b,o,none⟩=false∧w'.frozen? ⟨b,o+1,none⟩=false) :
  Calls Tryz.prog 72 #[.pointer (some ⟨b,o,none⟩),.func (.func k) xs ys] w fun e w'=>e=.returned (.tuple #[])∧∃ e1 w1,R e1 w1∧w'=(w1.drew.setCell ⟨b,o,none⟩ (.int .u32 1)).setCell ⟨b,o+1,none⟩ (.int .i32 0):=by
 have hl:=run_call_load (P:=Tryz.prog) Tryz.func112 (by kernel_rfl) (by kernel_rfl) (by kernel_rfl) .u32 (by kernel_rfl) h0
 have hnot:∀ (x:Bool) (w:World),(Op.unary .not (.bool x)).run Tryz.prog w=.ok (.bool (!x)) w:=fun _ _=>rfl
 have hs:=o_slow b o k xs ys w R hk h0 h1 f0 f1 hc hR
 go_enter Tryz.func72,Tryz.ntmps72
 go_wp2_with (first | (go_at_call 90;refine hs.mono ?_;rintro e w' ⟨rfl,e1,w1,hr,rfl⟩) | (go_at_call 89;go_in))
 go_end0
 exact ⟨rfl,e1,w1,hr,rfl⟩
theorem onceLaw:OnceLaw Tryz.prog 72:=⟨fun a d fv w hd h0=>o_done a d fv w hd h0,fun b o k xs ys w R hk h0 h1 f0 f1 hc hR=>o_first b o k xs ys w R hk h0 h1 f0 f1 hc hR⟩
end Go.Proofs.YteeofkbhopioiaaGreatDoor.Am
