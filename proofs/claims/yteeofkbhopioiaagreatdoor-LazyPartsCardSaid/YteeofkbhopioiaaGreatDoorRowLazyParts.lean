/- The law LazyParts holds of the program: for each input it returns true, and each argument reads behind the call as it read before. Conditions: none. -/
import Derived.Test.YteeofkbhopioiaaGreatDoorRows
import Derived.Test.YteeofkbhopioiaaGreatDoorCards
import Derived.Test.YteeofkbhopioiaaGreatDoorTie
import Derived.Test.YteeofkbhopioiaaGreatDoorLazMP
import Derived.Test.YteeofkbhopioiaaGreatDoorMachF
import Derived.ProofKit
import Derived.OpenShut
import Derived.LaidMore
import Derived.Lay
import Derived.SevenTiedAt
import Derived.Stop.Joined
namespace Go.Proofs.YteeofkbhopioiaaGreatDoor.lazyParts
set_option linter.unusedSimpArgs false
set_option linter.unusedVariables false
set_option linter.unusedSectionVars false
open Go Go.ChangeShapes Go.WideShapes Go.ChangeAt Go.RowKit Am
set_option linter.unusedVariables false
theorem own:ownKnob Tryz.prog.godebug=none:=by kernel_rfl
theorem opn_9:Opn Tryz.prog 9 1 (fun x:ByteArray=>Rec.row x):=(Opn.str (t:=9) (by kernel_rfl) (by kernel_rfl))
theorem opn_26:Opn Tryz.prog 26 2 (fun x:GType=>Rec.row x) :=
 (Opn.struct (fs:=[(3,0),(9,1)]) (by kernel_rfl) (by kernel_rfl) (by decide) (OpnFs.cons (Opn.int (t:=3) (by kernel_rfl) (by kernel_rfl)) (OpnFs.cons (Opn.str (t:=9) (by kernel_rfl) (by kernel_rfl)) OpnFs.nil))).map (fun b=>(⟨b.1,b.2.1⟩:GType)) (fun _=>rfl) (fun _=>rfl)
theorem opn_64:Opn Tryz.prog 64 4 (fun x:GField=>Rec.row x) :=
 (Opn.struct (fs:=[(9,0),(26,1),(4,3)]) (by kernel_rfl) (by kernel_rfl) (by decide) (OpnFs.cons (Opn.str (t:=9) (by kernel_rfl) (by kernel_rfl)) (OpnFs.cons opn_26 (OpnFs.cons (Opn.bool (t:=4) (by kernel_rfl) (by kernel_rfl)) OpnFs.nil)))).map (fun b=>(⟨b.1,b.2.1,b.2.2.1⟩:GField)) (fun _=>rfl) (fun _=>rfl)
theorem opn_70:Opn Tryz.prog 70 4 (fun x:GInstr=>Rec.row x) :=
 (Opn.struct (fs:=[(3,0),(3,1),(9,2),(9,3)]) (by kernel_rfl) (by kernel_rfl) (by decide) (OpnFs.cons (Opn.int (t:=3) (by kernel_rfl) (by kernel_rfl)) (OpnFs.cons (Opn.int (t:=3) (by kernel_rfl) (by kernel_rfl)) (OpnFs.cons (Opn.str (t:=9) (by kernel_rfl) (by kernel_rfl)) (OpnFs.cons (Opn.str (t:=9) (by kernel_rfl) (by kernel_rfl)) OpnFs.nil))))).map (fun b=>(⟨b.1,b.2.1,b.2.2.1,b.2.2.2.1⟩:GInstr)) (fun _=>rfl) (fun _=>rfl)
theorem opn_72:Opn Tryz.prog 72 4 (fun x:GCatch=>Rec.row x) :=
 (Opn.struct (fs:=[(9,0),(3,1),(3,2),(3,3)]) (by kernel_rfl) (by kernel_rfl) (by decide) (OpnFs.cons (Opn.str (t:=9) (by kernel_rfl) (by kernel_rfl)) (OpnFs.cons (Opn.int (t:=3) (by kernel_rfl) (by kernel_rfl)) (OpnFs.cons (Opn.int (t:=3) (by kernel_rfl) (by kernel_rfl)) (OpnFs.cons (Opn.int (t:=3) (by kernel_rfl) (by kernel_rfl)) OpnFs.nil))))).map (fun b=>(⟨b.1,b.2.1,b.2.2.1,b.2.2.2.1⟩:GCatch)) (fun _=>rfl) (fun _=>rfl)
theorem opn_68:Opn Tryz.prog 68 9 (fun x:GMethod=>Rec.row x) :=
 (Opn.struct (fs:=[(9,0),(4,1),(4,2),(27,3),(26,4),(3,6),(65,7),(66,8)]) (by kernel_rfl) (by kernel_rfl) (by decide) (OpnFs.cons (Opn.str (t:=9) (by kernel_rfl) (by kernel_rfl)) (OpnFs.cons (Opn.bool (t:=4) (by kernel_rfl) (by kernel_rfl)) (OpnFs.cons (Opn.bool (t:=4) (by kernel_rfl) (by kernel_rfl)) (OpnFs.cons (Opn.slice (t:=27) (e:=26) (α:=GType) (by kernel_rfl) (by kernel_rfl) opn_26) (OpnFs.cons opn_26 (OpnFs.cons (Opn.int (t:=3) (by kernel_rfl) (by kernel_rfl)) (OpnFs.cons (Opn.slice (t:=65) (e:=70) (α:=GInstr) (by kernel_rfl) (by kernel_rfl) opn_70) (OpnFs.cons (Opn.slice (t:=66) (e:=72) (α:=GCatch) (by kernel_rfl) (by kernel_rfl) opn_72) OpnFs.nil))))))))).map (fun b=>(⟨b.1,b.2.1,b.2.2.1,b.2.2.2.1,b.2.2.2.2.1,b.2.2.2.2.2.1,b.2.2.2.2.2.2.1,b.2.2.2.2.2.2.2.1⟩:GMethod)) (fun _=>rfl) (fun _=>rfl)
theorem opn_56:Opn Tryz.prog 56 6 (fun x:GClass=>Rec.row x) :=
 (Opn.struct (fs:=[(9,0),(4,1),(9,2),(49,3),(53,4),(54,5)]) (by kernel_rfl) (by kernel_rfl) (by decide) (OpnFs.cons (Opn.str (t:=9) (by kernel_rfl) (by kernel_rfl)) (OpnFs.cons (Opn.bool (t:=4) (by kernel_rfl) (by kernel_rfl)) (OpnFs.cons (Opn.str (t:=9) (by kernel_rfl) (by kernel_rfl)) (OpnFs.cons (Opn.slice (t:=49) (e:=9) (α:=ByteArray) (by kernel_rfl) (by kernel_rfl) opn_9) (OpnFs.cons (Opn.slice (t:=53) (e:=64) (α:=GField) (by kernel_rfl) (by kernel_rfl) opn_64) (OpnFs.cons (Opn.slice (t:=54) (e:=68) (α:=GMethod) (by kernel_rfl) (by kernel_rfl) opn_68) OpnFs.nil))))))).map (fun b=>(⟨b.1,b.2.1,b.2.2.1,b.2.2.2.1,b.2.2.2.2.1,b.2.2.2.2.2.1⟩:GClass)) (fun _=>rfl) (fun _=>rfl)
theorem opn_24:Opn Tryz.prog 24 1 (fun x:GProgram=>Rec.row x) :=
 (Opn.struct (fs:=[(22,0)]) (by kernel_rfl) (by kernel_rfl) (by decide) (OpnFs.cons (Opn.slice (t:=22) (e:=56) (α:=GClass) (by kernel_rfl) (by kernel_rfl) opn_56) OpnFs.nil)).map (fun b=>(⟨b.1⟩:GProgram)) (fun _=>rfl) (fun _=>rfl)
theorem glob_ok {W:World} (h:laidMetH Tryz.prog Rows.lazyPartsRow.laid W):GlobOk ((g0 W).st W):=by
 rw [MakeChecks.laidMetH_plain _ _ _ (by kernel_rfl)] at h
 obtain ⟨ps,⟨_,_,_,_,_,_,_,_,_,_,⟨g,t,cs,fuel,p,q,hg,ht,hv,hd,_,_⟩,_⟩,_,_⟩:=h
 obtain rfl:=Option.some.inj ((show Tryz.prog.globalNamed "strings.asciiSpace" = some 0 by kernel_rfl).symm.trans hg)
 obtain rfl:=Option.some.inj ((show (Tryz.prog.globals[0]?).map (·.type)=some 168 by kernel_rfl).symm.trans ht)
 obtain ⟨xs,m,_,ex,_,hl,hel⟩:=DataW.trod_array (show Tryz.prog.underlying 168=some (.array 256 5) by kernel_rfl) hd
 have c5:Tryz.prog.cellsOf 5=1:=by kernel_rfl
 have u5:Tryz.prog.underlying 5=some (.int .u8):=by kernel_rfl
 have hbits:Rows.laid_strings_asciiSpace (H:=Unit)=.agg ((List.range 256).map fun i=>.lit (.int .u8 (if (9≤i && i≤13) || i == 32 then 1 else 0))):=by kernel_rfl
 have e3:(xs.map (·.1))=(List.range 256).map fun i=>DataW.lit (.int .u8 (if (9≤i && i≤13) || i == 32 then 1 else 0)):=by
  have:=(Prod.mk.inj ex).1
  rw [hbits] at this
  exact (DataW.agg.inj this).symm
 intro pr hpr
 simp only [gtab,List.mem_singleton] at hpr
 subst hpr
 refine ⟨fun j=>.int .u8 (if (9≤j && j≤13) || j == 32 then 1 else 0),fun j d hj=>?_⟩
 simp only [List.getElem?_map,Option.map_eq_some_iff] at hj
 obtain ⟨i,hi,rfl⟩:=hj
 have hj256:j < 256:=by have:=(List.getElem?_eq_some_iff.mp hi).1;simpa using this
 have hij:i=j:=by
  rw [List.getElem?_range hj256] at hi
  exact (Option.some.inj hi).symm
 subst hij
 refine ⟨g0_cells W _ _ ?_,RepD.int _ _⟩
 show W.cell? ⟨0,i,none⟩=some (Value.int .u8 (if (9≤i && i≤13) || i == 32 then 1 else 0))
 have hE:=hel i hj256
 rw [c5,Nat.mul_one,List.getElem?_eq_getElem (by omega)] at hE
 obtain ⟨z,e1,e2,_⟩:=DataW.trod_int u5 hE
 have e4:(xs.map (·.1))[i]?=((List.range 256).map fun i=>(DataW.lit (.int .u8 (if (9≤i && i≤13) || i == 32 then 1 else 0)):DataW Unit))[i]?:=by rw [e3]
 rw [List.getElem?_map,List.getElem?_map,List.getElem?_eq_getElem (by omega:i < xs.length),List.getElem?_range hj256,e2] at e4
 have hz:z=if (9≤i && i≤13) || i == 32 then 1 else 0:=by
  simpa only [Option.map_some,Option.some.injEq,DataW.lit.injEq,Lit.int.injEq,true_and] using e4
 rw [World.var?_cell hg hv i,← hz]
 have:cs.toList[i]?=some (.int .u8 z):=by
  have h0:((cs.toList.drop i).take 1)[0]?=some (.int .u8 z):=by rw [e1];rfl
  simpa using h0
 simpa using this
set_option maxRecDepth 100000 in
theorem lifted (os:Os) (started:os.Started) (H:Type) (enc:TypeId × Value→H) :
  ReturnsInHanded {} Tryz.checked os 5 .any (fun w args=>(Rows.lazyPartsSpec.pre enc Tryz.prog Tryz.f5 Rows.lazyPartsRow.domain false w args∧laidMetH Tryz.prog Rows.lazyPartsRow.laid w)∧sizedMet enc Tryz.prog Tryz.f5 (OpenSpec.ofChange Rows.lazyPartsSpec) false w args) (Rows.lazyPartsSpec.post enc Tryz.prog Tryz.f5 false true false false):=by
 refine returnsInHanded_of_change_and (C:=Tryz.checked) (X:=fun w _=>laidMetH Tryz.prog Rows.lazyPartsRow.laid w) (fun _ _ _ hh h=>h.of_heap hh) own started (by kernel_rfl) Tryz.func5
  (ChangeSpec.witness_shaped (enc:=enc) (C:=Tryz.checked) (os:=os) (X:=fun w _=>laidMetH Tryz.prog Rows.lazyPartsRow.laid w) false (World.laidAll Tryz.prog os Rows.lazyPartsRow.laid) #[.agg #[.slice none 0 0],.string ⟨#[]⟩,.slice none 0 0,.agg #[.int .i64 0,.string ⟨#[]⟩],.bool false,.int .i64 0,.int .i64 0,.int .i64 0] 8 (World.laidAll_os _ _ _)
   (World.shaped_of_ZipB (by kernel_rfl) (by kernel_rfl)) (by kernel_rfl) (by kernel_rfl) (by kernel_rfl)
   (by rw [MakeChecks.laidMetH_plain _ _ _ (by kernel_rfl)];exact laidMet_laidAll _ (by kernel_rfl) (by kernel_rfl))) ?_
 intro W base args ds gs before hval0 hW hcnd hsz0 hL _
 have hval:∀ (j:Nat) t v,Tryz.f5.params[j]?=some t→args[j]?=some v→Value.okWide Tryz.prog W .any base t v:=hval0
 have hW':=hW
 obtain ⟨p,q,hA0,hV,rfl,hfz,hnd⟩:=hW
 have hA:DataW.TrodAll enc Tryz.prog W 0 (fun _=>true) true Tryz.f5.params.toList args.toList ds p:=hA0
 have hA1:=hA
 rw [Tryz.params5] at hA hval
 obtain ⟨v0,vs0,d0,ds0,p0,q0,hargs,rfl,rfl,h0,r0⟩:=trodAll_cons hA
 obtain ⟨v1,vs1,d1,ds1,p1,q1,rfl,rfl,rfl,h1,r1⟩:=trodAll_cons r0
 obtain ⟨v2,vs2,d2,ds2,p2,q2,rfl,rfl,rfl,h2,r2⟩:=trodAll_cons r1
 obtain ⟨v3,vs3,d3,ds3,p3,q3,rfl,rfl,rfl,h3,r3⟩:=trodAll_cons r2
 obtain ⟨v4,vs4,d4,ds4,p4,q4,rfl,rfl,rfl,h4,r4⟩:=trodAll_cons r3
 obtain ⟨v5,vs5,d5,ds5,p5,q5,rfl,rfl,rfl,h5,r5⟩:=trodAll_cons r4
 obtain ⟨v6,vs6,d6,ds6,p6,q6,rfl,rfl,rfl,h6,r6⟩:=trodAll_cons r5
 obtain ⟨v7,vs7,d7,ds7,p7,q7,rfl,rfl,rfl,h7,r7⟩:=trodAll_cons r6
 obtain ⟨rfl,rfl,rfl⟩:=trodAll_nil r7
 obtain rfl:args = #[v0,v1,v2,v3,v4,v5,v6,v7]:=by cases args;simp_all
 obtain ⟨rfl,rfl⟩:=trodVars_none hV
 obtain ⟨x0,y0⟩:=arg_agg (α:=GProgram) (fs:=[(22,0)]) (by kernel_rfl) opn_24 (hval 0 24 v0 rfl rfl) h0
 obtain ⟨x1,y1⟩:=arg_str (by kernel_rfl) (by kernel_rfl) (hval 1 9 v1 rfl rfl) h1
 obtain ⟨x2,y2⟩:=arg_sl (α:=GType) (e:=26) (by kernel_rfl) (by kernel_rfl) opn_26 (hval 2 27 v2 rfl rfl) h2
 obtain ⟨x3,y3⟩:=arg_agg (α:=GType) (fs:=[(3,0),(9,1)]) (by kernel_rfl) opn_26 (hval 3 26 v3 rfl rfl) h3
 obtain ⟨x4,y4⟩:=arg_bool (by kernel_rfl) (by kernel_rfl) (hval 4 4 v4 rfl rfl) h4
 obtain ⟨x5,y5⟩:=arg_int (by kernel_rfl) (by kernel_rfl) (hval 5 3 v5 rfl rfl) h5
 obtain ⟨x6,y6⟩:=arg_int (by kernel_rfl) (by kernel_rfl) (hval 6 3 v6 rfl rfl) h6
 obtain ⟨x7,y7⟩:=arg_int (by kernel_rfl) (by kernel_rfl) (hval 7 3 v7 rfl rfl) h7
 obtain ⟨m,hrun⟩:=fn_iff.mp (fn_lazParts x0 x1 x2 x3 x4 x5 x6 x7 [] 0 0)
 have hargs:Args (g0 W) W (Old W) [vagg x0,vstr x1,vsl x2,vagg x3,vbool x4,vint x5,vint x6,vint x7] #[v0,v1,v2,v3,v4,v5,v6,v7]:=args_of rfl fun i x v hi hv=>by
  match i,hi,hv with
  | 0,hi,hv=>cases hi;cases hv;exact ⟨rfl,y0⟩
  | 1,hi,hv=>cases hi;cases hv;exact ⟨rfl,y1⟩
  | 2,hi,hv=>cases hi;cases hv;exact ⟨rfl,y2⟩
  | 3,hi,hv=>cases hi;cases hv;exact ⟨rfl,y3⟩
  | 4,hi,hv=>cases hi;cases hv;exact ⟨rfl,y4⟩
  | 5,hi,hv=>cases hi;cases hv;exact ⟨rfl,y5⟩
  | 6,hi,hv=>cases hi;cases hv;exact ⟨rfl,y6⟩
  | 7,hi,hv=>cases hi;cases hv;exact ⟨rfl,y7⟩
  | n+8,hi,_=>simp at hi
 refine (walk (f:=5) (glob_ok hL) (run_ok m) hrun hargs).mono fun e W' ⟨he,bel⟩=>?_
 subst he
 exact ⟨_,rfl,_,_,_,[],_,[],hW',trodAll_mk1 (shut_bool (t:=4) (by kernel_rfl) _),trodAll_stays (by kernel_rfl) bel (by kernel_rfl) hA1,rfl,bel.frame _,fun h=>by cases h⟩
theorem over:Rows.lazyPartsRow.holds Tryz.pinned (OpenSpec.ofChange Rows.lazyPartsSpec) :=
 OpenClaim.holds_of_wide 5 Tryz.f5 rfl rfl rfl rfl rfl rfl rfl ⟨rfl,rfl,rfl,rfl,rfl⟩ rfl rfl rfl rfl rfl (by kernel_rfl) Tryz.func5 (by kernel_rfl)
  (of_decide_eq_true (by kernel_rfl)) (by unfold Func.isWrapper;first | (rw [if_pos (by decide +kernel)];kernel_rfl) | (rw [if_neg (by decide +kernel)];exact ⟨rfl,rfl⟩))
  (fun os started H enc _=>lifted os started H enc)
theorem card_holds:Rows.LazyPartsCardSaid :=
 Claim7.holds_tied_plain_at .later [] [.listed,.data] true (true,"c87c44f41003e22e256316fabf253fc35e4c882916a236426b7764c118a61f47") false over (fun _ h=>by cases h) (by kernel_rfl) (fun _ h=>by cases h) Go.Proofs.YteeofkbhopioiaaGreatDoor.lazyParts_row_tie rfl ⟨rfl,rfl⟩ (by kernel_rfl) rfl
  (fun f fn hf hfn=>by
   obtain rfl:f=5:=Option.some.inj ((show Tryz.prog.funcNamed "delver/delverlaw18.LazyParts" = some 5 by kernel_rfl).symm.trans hf) |>.symm
   obtain rfl:fn=Tryz.f5:=(Option.some.inj (Tryz.func5.symm.trans hfn)).symm
   exact ⟨by kernel_rfl,fun j t ht=>by
    rw [Tryz.params5] at ht
    have hm:t ∈ [24,9,27,26,4,3]:=by simpa using Array.mem_of_getElem? ht
    have hall:([24,9,27,26,4,3].all fun u=>!Tryz.prog.wantsStandIn u)=true:=by kernel_rfl
    exact (show Tryz.prog.wantsStandIn t=false by simpa using List.all_eq_true.1 hall t hm)⟩)
  (by kernel_rfl)
end Go.Proofs.YteeofkbhopioiaaGreatDoor.lazyParts
namespace Go.Proofs.YteeofkbhopioiaaGreatDoor
set_option linter.unusedSimpArgs false
set_option linter.unusedVariables false
set_option linter.unusedSectionVars false
theorem lazyParts_holds:Rows.LazyPartsCardSaid:=lazyParts.card_holds
end Go.Proofs.YteeofkbhopioiaaGreatDoor
