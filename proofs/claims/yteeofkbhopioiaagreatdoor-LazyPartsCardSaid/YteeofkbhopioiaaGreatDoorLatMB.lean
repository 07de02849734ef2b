/- Lemmas that the rows' proofs rest on; each states its own conditions. -/
import Derived.Test.YteeofkbhopioiaaGreatDoorLatMA
namespace Go.Proofs.YteeofkbhopioiaaGreatDoor.Am
set_option linter.unusedSimpArgs false
set_option linter.unusedVariables false
set_option linter.unusedSectionVars false
open Go
theorem bl_asymm:∀ (x y:List UInt8),Op.bytesLess x y=true→Op.bytesLess y x=false
 | x,[],h=>by cases x<;>simp [Op.bytesLess] at h
 | [],b :: y,_=>rfl
 | a :: x,b :: y,h=>by
  simp only [Op.bytesLess,Bool.or_eq_true,decide_eq_true_eq,Bool.and_eq_true,beq_iff_eq] at h
  simp only [Op.bytesLess,Bool.or_eq_false_iff,decide_eq_false_iff_not,Bool.and_eq_false_iff]
  rcases h with h | ⟨rfl,h⟩
  ·have h:=UInt8.lt_iff_toNat_lt.mp h
   refine ⟨fun h'=>by have:=UInt8.lt_iff_toNat_lt.mp h';omega,.inl ?_⟩
   simp only [beq_eq_false_iff_ne]
   rintro rfl
   omega
  ·exact ⟨fun h'=>by have:=UInt8.lt_iff_toNat_lt.mp h';omega,.inr (bl_asymm x y h)⟩
theorem bl_eq:∀ (x y:List UInt8),Op.bytesLess x y=false→Op.bytesLess y x=false→x=y
 | [],[],_,_=>rfl
 | [],b :: y,h,_=>by simp [Op.bytesLess] at h
 | a :: x,[],_,h=>by simp [Op.bytesLess] at h
 | a :: x,b :: y,h,h'=>by
  simp only [Op.bytesLess,Bool.or_eq_false_iff,decide_eq_false_iff_not,Bool.and_eq_false_iff,beq_eq_false_iff_ne] at h h'
  have e:a=b:=by
   have h1:=h.1
   have h2:=h'.1
   rw [UInt8.lt_iff_toNat_lt] at h1 h2
   exact UInt8.toNat_inj.mp (by omega)
  subst e
  rw [bl_eq x y (h.2.resolve_left (by simp)) (h'.2.resolve_left (by simp))]
theorem bl_trans:∀ (a b c:List UInt8),Op.bytesLess b a=false→Op.bytesLess c b=false→Op.bytesLess c a=false
 | [],b,c,_,_=>by cases c<;>rfl
 | a :: x,[],c,h,_=>by simp [Op.bytesLess] at h
 | a :: x,b :: y,[],_,h=>by simp [Op.bytesLess] at h
 | a :: x,b :: y,c :: z,h,h'=>by
  simp only [Op.bytesLess,Bool.or_eq_false_iff,decide_eq_false_iff_not,Bool.and_eq_false_iff,beq_eq_false_iff_ne] at h h' ⊢
  have h1:=h.1
  have h2:=h'.1
  rw [UInt8.lt_iff_toNat_lt] at h1 h2
  refine ⟨by rw [UInt8.lt_iff_toNat_lt];omega,?_⟩
  by_cases e:c=a
  ·subst e
   have e2:b=c:=UInt8.toNat_inj.mp (by omega)
   subst e2
   exact .inr (bl_trans x y z (h.2.resolve_left (by simp)) (h'.2.resolve_left (by simp)))
  ·exact .inl e
def ltS (a b:ByteArray):Bool:=Op.bytesLess a.toList b.toList
theorem ltS_asymm {a b:ByteArray} (h:ltS a b=true):ltS b a=false:=bl_asymm _ _ h
theorem ltS_eq {a b:ByteArray} (h:ltS a b=false) (h':ltS b a=false):a=b:=by
 have:=bl_eq _ _ h h'
 have h2:(a.toList == b.toList)=true:=by rw [this];simp
 rw [str_eq] at h2
 exact of_decide_eq_true h2
theorem ltS_trans {a b c:ByteArray} (h:ltS b a=false) (h':ltS c b=false):ltS c a=false:=bl_trans _ _ _ h h'
def insS (x:ByteArray):List ByteArray→List ByteArray
 | []=>[x]
 | y :: r=>if ltS x y then y :: insS x r else x :: y :: r
def sortR (c:List ByteArray):List ByteArray:=c.foldl (fun r x=>insS x r) []
def sortS (c:List ByteArray):List ByteArray:=(sortR c).reverse
theorem insS_perm (x:ByteArray):∀ r,(insS x r).Perm (x :: r)
 | []=>.refl _
 | y :: r=>by
  simp only [insS]
  split
  ·exact ((insS_perm x r).cons y).trans (.swap x y r)
  ·exact .refl _
theorem insS_mem {x z:ByteArray} {r:List ByteArray}:z ∈ insS x r↔z=x∨z ∈ r:=by
 rw [(insS_perm x r).mem_iff,List.mem_cons]
theorem insS_len (x:ByteArray) (r:List ByteArray):(insS x r).length=r.length+1:=(insS_perm x r).length_eq
theorem insS_falls (x:ByteArray):∀ {r:List ByteArray},r.Pairwise (fun a b=>ltS a b=false)→(insS x r).Pairwise (fun a b=>ltS a b=false)
 | [],_=>by simp [insS]
 | y :: r,h=>by
  rw [List.pairwise_cons] at h
  simp only [insS]
  split
  ·rename_i hx
   rw [List.pairwise_cons]
   refine ⟨fun z hz=>?_,insS_falls x h.2⟩
   rcases insS_mem.mp hz with rfl | hz
   ·exact ltS_asymm hx
   ·exact h.1 z hz
  ·rename_i hx
   have hx:ltS x y=false:=by simpa using hx
   rw [List.pairwise_cons]
   refine ⟨fun z hz=>?_,List.pairwise_cons.mpr h⟩
   rcases List.mem_cons.mp hz with rfl | hz
   ·exact hx
   ·exact ltS_trans (h.1 z hz) hx
theorem sortR_all:∀ (c r:List ByteArray),r.Pairwise (fun a b=>ltS a b=false)→(c.foldl (fun r x=>insS x r) r).Pairwise (fun a b=>ltS a b=false)∧(c.foldl (fun r x=>insS x r) r).Perm (c ++ r)
 | [],r,h=>⟨h,.refl _⟩
 | x :: c,r,h=>by
  obtain ⟨h1,h2⟩:=sortR_all c (insS x r) (insS_falls x h)
  refine ⟨h1,h2.trans ?_⟩
  exact ((insS_perm x r).append_left c).trans List.perm_middle
theorem sortS_perm (c:List ByteArray):(sortS c).Perm c:=by
 have:=(sortR_all c [] (by simp)).2
 rw [List.append_nil] at this
 exact (List.reverse_perm _).trans this
theorem sortS_rises (c:List ByteArray):(sortS c).Pairwise (fun a b=>ltS b a=false):=by
 rw [sortS,List.pairwise_reverse]
 exact (sortR_all c [] (by simp)).1
theorem sortS_len (c:List ByteArray):(sortS c).length=c.length:=(sortS_perm c).length_eq
def adjB:List ByteArray→Bool
 | a :: b :: r=>decide (b=a) || adjB (b :: r)
 | _=>false
theorem adj_nodup:∀ {s:List ByteArray},s.Pairwise (fun a b=>ltS b a=false)→(adjB s=false↔s.Nodup)
 | [],_=>by simp [adjB]
 | [a],_=>by simp [adjB]
 | a :: b :: r,h=>by
  rw [List.pairwise_cons] at h
  have ih:=adj_nodup h.2
  simp only [adjB,Bool.or_eq_false_iff,decide_eq_false_iff_not,ih,List.nodup_cons (a:=a)]
  constructor
  ·rintro ⟨h1,h2⟩
   refine ⟨fun hm=>?_,h2⟩
   rcases List.mem_cons.mp hm with rfl | hm
   ·exact h1 rfl
   ·have h3:=(List.pairwise_cons.mp h.2).1 a hm
    exact h1 (ltS_eq (h.1 b List.mem_cons_self) h3)
  ·rintro ⟨h1,h2⟩
   exact ⟨fun e=>h1 (e ▸ List.mem_cons_self),h2⟩
def dupB (c:List ByteArray):Bool:=adjB (sortS c)
theorem dup_iff (c:List ByteArray):dupB c=false↔c.Nodup:=by
 rw [dupB,adj_nodup (sortS_rises c)]
 exact (sortS_perm c).nodup_iff
section
attribute [local simp ↓] K_seq K_cond K_block K_region K_skip K_exit K_ret K_wrap KA_nil KA_none KA_some str_eq
attribute [local simp] beq_int bne_int dec_eqN dec_ltN dec_leN stepOp St.rd St.raw St.set St.took get_cons V.down C.down Env.keep binV unV arith isShift strs intOf optInt wrapEnd keptAt andK endOf frzV frz1 frzC frzCs frz1s resOf resOne resAll V.closed V.closed1 C.closed B.closed Ob.closed V.cells partsIn rep chunk datas C.data rowsOf getCells put_nil put_zero put_succ mayWrite C.plain eqV_bool eqV_agg eqV_pnn eqV_pnp eqV_ppn eqV_mnn eqV_mmn eqV_snn eqV_sen eqV_san eqV_sdn rs_len rs_getE rs_app rs_take rs_drop rs_all rs_each row_len str_nilP str_nilE str_nilB vagg row_Int row_Bool row_Str k_Int k_Bool k_Str snoc_Int snoc_Bool snoc_Str row_Type k_Type snoc_Type eta_Type sames_Type row_Field k_Field snoc_Field eta_Field sames_Field row_Instr k_Instr snoc_Instr eta_Instr sames_Instr row_Catch k_Catch snoc_Catch eta_Catch sames_Catch row_Method k_Method snoc_Method row_Class k_Class snoc_Class row_Program k_Program snoc_Program row_Slot k_Slot snoc_Slot eta_Slot sames_Slot row_Way k_Way snoc_Way eta_Way sames_Way
abbrev vArr (l n:Nat):V:=.c (.b (.arr 1 l 0 n))
abbrev strC (s:ByteArray):C:=.b (.d (.str s))
theorem fn_nan (a:ByteArray) (σ:List Ob) (lo tr:Nat):Fn fns 205 [vstr a] σ lo tr=some (vbool false,σ):=by
 refine fn_gen t205 rfl (σ1:=[]) rfl rfl ?_ σ lo tr
 simp [KF,params,f205]
theorem fn_less (a b:ByteArray) (σ:List Ob) (lo tr:Nat):Fn fns 195 [vstr a,vstr b] σ lo tr=some (vbool (ltS a b),σ):=by
 refine fn_gen t195 rfl (σ1:=[]) rfl rfl ?_ σ lo tr
 cases h:ltS a b<;>simp only [ltS] at h<;>simp [KF,params,f195,fn_nan,h]
theorem put_mid {pre post:List C} {z c:C} {off:Nat} (h:pre.length=off):putAt (pre ++ z :: post) off [c]=some (pre ++ c :: post):=by
 subst h
 simp [putAt]
theorem set_same {σ:List Ob} {l:Nat} {o:Ob} (h:σ[l]?=some o):σ.set l o=σ:=by
 apply List.ext_getElem?
 intro j
 by_cases e:l=j
 ·subst e;rw [List.getElem?_set_self (get_lt h),h]
 ·rw [List.getElem?_set_ne e]
section
variable {l n lo tr:Nat} {k:AExit→St→Option (V × List Ob)}
theorem sort_in (hn:n≤1000) (hlo:lo≤l) (i:Nat):∀ (r:List ByteArray) (x:ByteArray) (q:List ByteArray) (σ:List Ob),σ[l]?=some (.cells ((r.reverse ++ x :: q).map strC))→n=r.length+1+q.length→σ.all (Ob.closed σ.length)=true →
  K fns ⟨lo,tr⟩ f189_l0 ⟨[(0,vArr l n),(1,vint 0),(2,vint n),(6,vint i),(7,vint r.length)],σ⟩ k=k (.exit 2) ⟨[(0,vArr l n),(1,vint 0),(2,vint n),(6,vint i)],σ.set l (.cells (((insS x r).reverse ++ q).map strC))⟩:=by
 intro r
 induction r with
 | nil =>
  intro x q σ hσ hl hcl
  have h1:=get_lt hσ
  have h2:=(List.getElem?_eq_some_iff.mp hσ).2
  have e:σ.set l (.cells (((insS x []).reverse ++ q).map strC))=σ:=set_same (by simpa [insS] using hσ)
  rw [e,u189_l0]
  simp [f189_b0,hcl,h1]
 | cons y r ih =>
  intro x q σ hσ hl hcl
  have h1:=get_lt hσ
  have hlen:(y :: r).length=r.length+1:=rfl
  have hls:=fn_less x y
  have e0:((y :: r).reverse ++ x :: q).map strC=r.reverse.map strC ++ strC y :: strC x :: q.map strC:=by simp
  rw [e0] at hσ
  have h2:=(List.getElem?_eq_some_iff.mp hσ).2
  have g0:(r.reverse.map strC ++ strC y :: strC x :: q.map strC)[r.length]?=some (strC y):=by simp
  have g1:(r.reverse.map strC ++ strC y :: strC x :: q.map strC)[r.length+1]?=some (strC x):=by simp [List.getElem?_append_right]
  have p1:putAt (r.reverse.map strC ++ strC y :: strC x :: q.map strC) (r.length+1) [strC y]=some (r.reverse.map strC ++ strC y :: strC y :: q.map strC):=by
   have:=put_mid (pre:=r.reverse.map strC ++ [strC y]) (post:=q.map strC) (z:=strC x) (c:=strC y) (off:=r.length+1) (by simp)
   simpa using this
  have p2:putAt (r.reverse.map strC ++ strC y :: strC y :: q.map strC) r.length [strC x]=some (r.reverse.map strC ++ strC x :: strC y :: q.map strC):=put_mid (by simp)
  have e3:r.reverse.map strC ++ strC x :: strC y :: q.map strC=(r.reverse ++ x :: y :: q).map strC:=by simp
  rw [e3] at p2
  have hw0:IntKind.i64.wrap (r.length:Int)=r.length:=wrap_nat (by omega) (by omega)
  have hz1:(0:Int)≤(r.length:Int)+1:=by omega
  have hr1:r.length+1 < n:=by rw [hl,hlen];omega
  have hr0:r.length < n:=by omega
  have hr1':(r.length:Int)+1 < n:=by omega
  have hr0':(r.length:Int) < n:=by omega
  generalize hM:r.reverse.map strC ++ strC y :: strC y :: q.map strC=cs1 at p1 p2
  generalize hA:r.reverse.map strC ++ strC y :: strC x :: q.map strC=cs at *
  rw [hlen,u189_l0]
  cases hb:ltS x y<;>rw [hb] at hls
  ·have e:σ.set l (.cells (((insS x (y :: r)).reverse ++ q).map strC))=σ:=set_same (by rw [hσ,← hA];simp [insS,hb])
   rw [e]
   simp [f189_b0,hcl,h1,h2,hw0,hz1,hr1,hr0,hr1',hr0',g0,g1,hls]
  ·have ih:=ih x (y :: q) (σ.set l (.cells ((r.reverse ++ x :: y :: q).map strC))) (by rw [List.getElem?_set_self h1]) (by simp only [List.length_cons] at hl ⊢;omega) (by
    rw [List.length_set]
    exact all_set hcl (by simp [Ob.closed,C.closed,B.closed]))
   rw [List.set_set] at ih
   have e4:(insS x (y :: r)).reverse ++ q=(insS x r).reverse ++ y :: q:=by simp [insS,hb]
   rw [e4,← ih]
   have hcl2:(σ.set l (.cells ((r.reverse ++ x :: y :: q).map strC))).all (Ob.closed σ.length)=true:=all_set hcl (by simp [Ob.closed,C.closed,B.closed])
   have htk:∀ o,List.take σ.length (σ.set l o)=σ.set l o:=fun o=>List.take_of_length_le (by simp)
   generalize hB:(r.reverse ++ x :: y :: q).map strC=cs2 at *
   simp [f189_b0,htk,hcl,hcl2,h1,h2,hw0,hz1,hr1,hr0,hr1',hr0',g0,g1,hls,p1,p2,hlo,List.getElem?_set_self,List.set_set]
theorem fn_insort (ns:List ByteArray) (hn:ns.length≤1000) {σ:List Ob} (hσ:σ[l]?=some (.cells (ns.map strC))) (hlo:lo≤l) (hcl:σ.all (Ob.closed σ.length)=true) :
  Fn fns 189 [vArr l ns.length,vint 0,vint ns.length] σ lo tr=some (.tup [],σ.set l (.cells ((sortS ns).map strC))):=by
 rw [fn_eq t189 rfl rfl]
 have h1:=get_lt hσ
 cases ns with
 | nil =>
  have e:σ.set l (.cells ((sortS []).map strC))=σ:=set_same (by simpa [sortS,sortR] using hσ)
  rw [e]
  have hw:IntKind.i64.wrap 1=1:=by decide
  simp [KF,params,f189,hw]
  rw [u189_l1]
  simp [f189_b1,h1,hcl]
 | cons x0 ns =>
  have L:∀ (t':Nat) (k:AExit→St→Option (V × List Ob)),∀ (q:List ByteArray) (r:List ByteArray) (σ:List Ob),σ[l]?=some (.cells ((r.reverse ++ q).map strC))→r.length+q.length=(x0 :: ns).length→1≤r.length→σ.all (Ob.closed σ.length)=true →
    K fns ⟨lo,t'⟩ f189_l1 ⟨[(0,vArr l (x0 :: ns).length),(1,vint 0),(2,vint (x0 :: ns).length),(6,vint r.length)],σ⟩ k=k (.exit 0) ⟨[],σ.set l (.cells ((q.foldl (fun r x=>insS x r) r).reverse.map strC))⟩:=by
   intro t' k q
   induction q with
   | nil =>
    intro r σ hσ hl h1r hcl
    have h1:=get_lt hσ
    have e:σ.set l (.cells ((([]:List ByteArray).foldl (fun r x=>insS x r) r).reverse.map strC))=σ:=set_same (by simpa using hσ)
    rw [e,u189_l1]
    have hl':r.length=ns.length+1:=by simpa using hl
    simp [f189_b1,h1,hcl,hl']
   | cons x q ih =>
    intro r σ hσ hl h1r hcl
    have h1:=get_lt hσ
    have hin:=fun k=>sort_in (tr:=t') (k:=k) hn hlo r.length r x q σ hσ (by rw [← hl];simp;omega) hcl
    have hcl2:(σ.set l (.cells (((insS x r).reverse ++ q).map strC))).all (Ob.closed σ.length)=true:=all_set hcl (by simp [Ob.closed,C.closed,B.closed])
    have ih:=ih (insS x r) (σ.set l (.cells (((insS x r).reverse ++ q).map strC))) (by rw [List.getElem?_set_self h1]) (by rw [insS_len,← hl];simp;omega) (by rw [insS_len];omega) (by rw [List.length_set];exact hcl2)
    rw [List.set_set,insS_len] at ih
    rw [List.foldl_cons,← ih,u189_l1]
    have hlt:(r.length:Int) < (x0 :: ns).length:=by rw [← hl];simp;omega
    have hw:=wrap_succ (i:=r.length) (by simp at hl hn;omega)
    have htk:∀ o,List.take σ.length (σ.set l o)=σ.set l o:=fun o=>List.take_of_length_le (by simp)
    generalize (x0 :: ns).length=m at *
    generalize ((insS x r).reverse ++ q).map strC=csX at *
    simp [f189_b1,h1,hcl,hcl2,hlt,hw,hin,htk,-List.all_eq_true]
  have hs:sortS (x0 :: ns)=(ns.foldl (fun r x=>insS x r) [x0]).reverse:=rfl
  rw [hs]
  have htk:∀ o,List.take σ.length (σ.set l o)=σ.set l o:=fun o=>List.take_of_length_le (by simp)
  have L1:∀ (t':Nat) (k:AExit→St→Option (V × List Ob)),K fns ⟨lo,t'⟩ f189_l1 ⟨[(0,vArr l (x0 :: ns).length),(1,vint 0),(2,vint (x0 :: ns).length),(6,vint 1)],σ⟩ k=k (.exit 0) ⟨[],σ.set l (.cells ((ns.foldl (fun r x=>insS x r) [x0]).reverse.map strC))⟩:=fun t' k=>L t' k ns [x0] σ (by simpa using hσ) (by simp;omega) (by simp) hcl
  generalize (ns.foldl (fun r x=>insS x r) [x0]).reverse.map strC=csX at *
  have hw:IntKind.i64.wrap 1=1:=by decide
  generalize (x0 :: ns).length=m at *
  simp [KF,params,f189,hw,L1,htk]
end
def isI:Option (V × List Ob)→Bool
 | some (.c (.b (.d (.int .i64 _))),[])=>true
 | _=>false
theorem isI_eq {x:Option (V × List Ob)} (h:isI x=true):∃ m,x=some (vint m,[]):=by
 unfold isI at h
 split at h
 ·exact ⟨_,rfl⟩
 ·cases h
theorem bits_run:(List.range 13).all (fun n=>isI (evf fns 40 178 [.c (.b (.d (.int .u64 n)))] [] 0 0))=true:=by kernel_rfl
theorem fn_bits {n:Nat} (h:n≤12):∃ m,∀ σ lo tr,Fn fns 178 [.c (.b (.d (.int .u64 n)))] σ lo tr=some (vint m,σ):=by
 obtain ⟨m,hm⟩:=isI_eq (List.all_eq_true.mp bits_run n (List.mem_range.mpr (by omega)))
 exact ⟨m,fun σ lo tr=>fn_run t178 rfl rfl hm σ lo tr⟩
section
variable {l lo tr:Nat}
theorem fn_pdq (ns:List ByteArray) (hn:ns.length≤12) (lim:Int) {σ:List Ob} (hσ:σ[l]?=some (.cells (ns.map strC))) (hlo:lo≤l) (hcl:σ.all (Ob.closed σ.length)=true) :
  Fn fns 177 [vArr l ns.length,vint 0,vint ns.length,vint lim] σ lo tr=some (.tup [],σ.set l (.cells ((sortS ns).map strC))):=by
 rw [fn_eq t177 rfl rfl]
 have h1:=get_lt hσ
 have hin:=fun tr=>fn_insort (tr:=tr) ns (by omega) hσ hlo hcl
 have hw0:IntKind.i64.wrap (ns.length:Int)=ns.length:=wrap_nat (by omega) (by omega)
 have hn':(ns.length:Int)≤12:=by omega
 have htk:∀ o,List.take σ.length (σ.set l o)=σ.set l o:=fun o=>List.take_of_length_le (by simp)
 have hcl2:(σ.set l (.cells ((sortS ns).map strC))).all (Ob.closed σ.length)=true:=all_set hcl (by simp [Ob.closed,C.closed,B.closed])
 generalize (sortS ns).map strC=csX at *
 simp [KF,params,f177]
 rw [u177_l0]
 simp [f177_b0,h1,hw0,hn',hin,hcl2,htk,-List.all_eq_true]
theorem fn_sortS (ns:List ByteArray) (hn:ns.length≤12) {σ:List Ob} (hσ:σ[l]?=some (.cells (ns.map strC))) (hlo:lo≤l) (hcl:σ.all (Ob.closed σ.length)=true) :
  Fn fns 151 [vArr l ns.length] σ lo tr=some (.tup [],σ.set l (.cells ((sortS ns).map strC))):=by
 rw [fn_eq t151 rfl rfl]
 have h1:=get_lt hσ
 obtain ⟨m,hm⟩:=fn_bits hn
 have hpd:=fun tr=>fn_pdq (tr:=tr) ns hn m hσ hlo hcl
 have hw0:IntKind.u64.wrap (ns.length:Int)=ns.length:=by simp [IntKind.wrap,IntKind.signed,IntKind.bits];omega
 have htk:∀ o,List.take σ.length (σ.set l o)=σ.set l o:=fun o=>List.take_of_length_le (by simp)
 simp [KF,params,f151,hw0,hm,hpd,htk]
theorem putS {zs:List ByteArray} {off:Nat} (h:off < zs.length) (s:ByteArray):putAt (zs.map strC) off [.b (.d (.str s))]=some ((zs.set off s).map strC):=by
 unfold putAt
 rw [if_pos (by simp;omega),List.map_set]
 congr 1
 rw [List.set_eq_take_append_cons_drop,if_pos (by simpa using h)]
 simp
theorem str_cl (zs:List ByteArray) (n:Nat):Ob.closed n (.cells (zs.map strC))=true:=by simp [Ob.closed,C.closed,B.closed]
theorem comp_in (n k0:Nat) (hn:n≤1000) (hk0:1≤k0) (hlo:lo≤l) (t':Nat):∀ (f j kk:Nat) (zs:List ByteArray) (σ:List Ob),j+f=n - k0→1≤j→kk+1≤k0+j→1≤kk→zs.length=n→σ[l]?=some (.cells (zs.map strC))→σ.all (Ob.closed σ.length)=true →
  ∃ (kk':Nat) (zs':List ByteArray),kk'+1≤n∧1≤kk'∧zs'.length=n∧∀ k:AExit→St→Option (V × List Ob),
   K fns ⟨lo,t'⟩ f152_l0 ⟨[(0,vArr l n),(3,vint kk),(4,.c (.b (.arr 1 l k0 (n - k0)))),(5,vint j)],σ⟩ k=k (.exit 2) ⟨[(0,vArr l n),(3,vint kk')],σ.set l (.cells (zs'.map strC))⟩:=by
 intro f
 induction f with
 | zero =>
  intro j kk zs σ hj hj1 hkk hk1 hz hσ hcl
  have h1:=get_lt hσ
  refine ⟨kk,zs,by omega,hk1,hz,fun k=>?_⟩
  rw [set_same hσ,u152_l0]
  have hjn:j=n - k0:=by omega
  subst hjn
  simp [f152_b0,h1,hcl]
 | succ f ih =>
  intro j kk zs σ hj hj1 hkk hk1 hz hσ hcl
  have h1:=get_lt hσ
  have h2:=(List.getElem?_eq_some_iff.mp hσ).2
  have hjn:j < n - k0:=by omega
  have hjn':(j:Int) < ((n - k0:Nat):Int):=by omega
  have hw1:=wrap_succ (i:=j) (by omega)
  have hw2:=wrap_succ (i:=kk) (by omega)
  have hw3:IntKind.i64.wrap ((j:Int) - 1)=((j - 1:Nat):Int):=by rw [wrap_nat (by omega) (by omega)];omega
  have hj1n:j - 1 < n - k0:=by omega
  have ha:k0+j < zs.length:=by omega
  have hb:k0+(j - 1) < zs.length:=by omega
  have hkn:kk < n:=by omega
  by_cases he:zs[k0+j]=zs[k0+(j - 1)]
  ·obtain ⟨kk',zs',r1,r2,r3,r4⟩:=ih (j+1) kk zs σ (by omega) (by omega) (by omega) hk1 hz hσ hcl
   refine ⟨kk',zs',r1,r2,r3,fun k=>?_⟩
   rw [← r4 k,u152_l0]
   simp [f152_b0,h1,h2,hcl,hjn,hjn',hw1,hw3,hj1n,ha,hb,he]
  ·have hcl2:(σ.set l (.cells ((zs.set kk zs[k0+j]).map strC))).all (Ob.closed σ.length)=true:=all_set hcl (str_cl _ _)
   obtain ⟨kk',zs',r1,r2,r3,r4⟩:=ih (j+1) (kk+1) (zs.set kk zs[k0+j]) (σ.set l (.cells ((zs.set kk zs[k0+j]).map strC))) (by omega) (by omega) (by omega) (by omega) (by simpa using hz) (by rw [List.getElem?_set_self h1]) (by rw [List.length_set];exact hcl2)
   refine ⟨kk',zs',r1,r2,r3,fun k=>?_⟩
   have r4:=r4 k
   rw [List.set_set] at r4
   rw [← r4,u152_l0]
   have hp:=putS (zs:=zs) (off:=kk) (by omega) zs[k0+j]
   have htk:∀ o,List.take σ.length (σ.set l o)=σ.set l o:=fun o=>List.take_of_length_le (by simp)
   generalize (zs.set kk zs[k0+j]).map strC=csX at *
   simp [f152_b0,h1,h2,hcl,hcl2,htk,hjn,hjn',hw1,hw2,hw3,hj1n,ha,hb,he,hkn,hp,hlo,-List.all_eq_true]
theorem putRep {zs:List ByteArray} {off n:Nat} (h:off+n=zs.length):putAt (zs.map strC) off (List.replicate n (.b (.d (.str ⟨#[]⟩))))=some ((zs.take off ++ List.replicate n (⟨#[]⟩:ByteArray)).map strC):=by
 unfold putAt
 rw [if_pos (by simp;omega)]
 simp [List.drop_eq_nil_of_le,h]
theorem adj_drop {ns:List ByteArray} {k:Nat} (hk:1≤k) (hn:k < ns.length):adjB (ns.drop (k - 1))=(decide (ns[k]=ns[k - 1]) || adjB (ns.drop k)):=by
 have h1:ns.drop (k - 1)=ns[k - 1] :: ns.drop (k - 1+1):=List.drop_eq_getElem_cons (by omega)
 have h2:k - 1+1=k:=by omega
 rw [h2] at h1
 have h3:ns.drop k=ns[k] :: ns.drop (k+1):=List.drop_eq_getElem_cons hn
 rw [h1,h3]
 rfl
theorem comp_out (ns:List ByteArray) (hn:ns.length≤1000) (hlo:lo≤l) (t':Nat) {σ:List Ob} (hσ:σ[l]?=some (.cells (ns.map strC))) (hcl:σ.all (Ob.closed σ.length)=true):∀ (f j:Nat),j+f=ns.length→1≤j →
  (adjB (ns.drop (j - 1))=false→∀ k:AExit→St→Option (V × List Ob),K fns ⟨lo,t'⟩ f152_l1 ⟨[(0,vArr l ns.length),(3,vint j)],σ⟩ k=k (.exit 0) ⟨[(0,vArr l ns.length)],σ⟩) ∧
  (adjB (ns.drop (j - 1))=true→∃ (m:Nat) (zs:List ByteArray),m+1≤ns.length∧zs.length=ns.length∧∀ k:AExit→St→Option (V × List Ob),K fns ⟨lo,t'⟩ f152_l1 ⟨[(0,vArr l ns.length),(3,vint j)],σ⟩ k=k .ret ⟨[(2,vArr l m)],σ.set l (.cells (zs.map strC))⟩):=by
 have h1:=get_lt hσ
 have h2:=(List.getElem?_eq_some_iff.mp hσ).2
 intro f
 induction f with
 | zero =>
  intro j hj hj1
  have hjn:j=ns.length:=by omega
  subst hjn
  have hd:adjB (ns.drop (ns.length - 1))=false:=by
   cases hq:ns.drop (ns.length - 1) with
   | nil=>rfl
   | cons a r =>
    have:=congrArg List.length hq
    simp at this
    have hr:r=[]:=List.length_eq_zero_iff.mp (by omega)
    subst hr;rfl
  refine ⟨fun _ k=>?_,fun h=>by rw [hd] at h;cases h⟩
  rw [u152_l1]
  simp [f152_b1,h1,hcl]
 | succ f ih =>
  intro j hj hj1
  have hjn:j < ns.length:=by omega
  have hjn':(j:Int) < ns.length:=by omega
  have hw1:=wrap_succ (i:=j) (by omega)
  have hw3:IntKind.i64.wrap ((j:Int) - 1)=((j - 1:Nat):Int):=by rw [wrap_nat (by omega) (by omega)];omega
  have hj1n:j - 1 < ns.length:=by omega
  rw [adj_drop hj1 hjn]
  by_cases he:ns[j]=ns[j - 1]
  ·refine ⟨fun h=>by simp [he] at h,fun _=>?_⟩
   obtain ⟨kk,zs,r1,r2,r3,r4⟩:=comp_in ns.length j hn hj1 hlo t' (ns.length - j - 1) 1 j ns σ (by omega) (Nat.le_refl _) (by omega) hj1 rfl hσ hcl
   refine ⟨kk,zs.take kk ++ List.replicate (ns.length - kk) (⟨#[]⟩:ByteArray),r1,by simp;omega,fun k=>?_⟩
   have hp:=putRep (zs:=zs) (off:=kk) (n:=ns.length - kk) (by omega)
   have hcl2:(σ.set l (.cells ((zs.take kk ++ List.replicate (ns.length - kk) (⟨#[]⟩:ByteArray)).map strC))).all (Ob.closed σ.length)=true:=all_set hcl (str_cl _ _)
   have htk:∀ o,List.take σ.length (σ.set l o)=σ.set l o:=fun o=>List.take_of_length_le (by simp)
   have hkn:kk < ns.length:=by omega
   have hkn':(kk:Int)≤ns.length:=by omega
   have hkn2:(kk:Int) < ns.length:=by omega
   have hjl:(j:Int)≤ns.length:=by omega
   have hne:¬ (ns.length - kk=0):=by omega
   have h0:0 < ns.length:=by omega
   have r4:∀ k:AExit→St→Option (V × List Ob),K fns ⟨lo,t'⟩ f152_l0 ⟨[(0,vArr l ns.length),(3,vint j),(4,.c (.b (.arr 1 l j (ns.length - j)))),(5,vint 1)],σ⟩ k=k (.exit 2) ⟨[(0,vArr l ns.length),(3,vint kk)],σ.set l (.cells (zs.map strC))⟩:=r4
   rw [u152_l1]
   generalize (zs.take kk ++ List.replicate (ns.length - kk) (⟨#[]⟩:ByteArray)).map strC=csX at *
   simp [f152_b1,h1,h2,hcl,hcl2,htk,hjn,hjn',hw1,hw3,hj1n,he,hlo,Int.toNat_sub,r4,hkn,hkn',hkn2,hjl,hne,h0,hp,-List.all_eq_true]
  ·have ih:=ih (j+1) (by omega) (by omega)
   rw [Nat.add_sub_cancel] at ih
   simp only [he,decide_false,Bool.false_or]
   have step:∀ k:AExit→St→Option (V × List Ob),K fns ⟨lo,t'⟩ f152_l1 ⟨[(0,vArr l ns.length),(3,vint j)],σ⟩ k=K fns ⟨lo,t'⟩ f152_l1 ⟨[(0,vArr l ns.length),(3,vint (j+1:Nat))],σ⟩ k:=fun k=>by
    rw [u152_l1]
    simp [f152_b1,h1,h2,hcl,hjn,hjn',hw1,hw3,hj1n,he,hlo]
   refine ⟨fun h k=>by rw [step];exact ih.1 h k,fun h=>?_⟩
   obtain ⟨m,zs,r1,r2,r3⟩:=ih.2 h
   exact ⟨m,zs,r1,r2,fun k=>by rw [step];exact r3 k⟩
theorem fn_compact (ns:List ByteArray) (hn:ns.length≤1000) {σ:List Ob} (hσ:σ[l]?=some (.cells (ns.map strC))) (hlo:lo≤l) (hcl:σ.all (Ob.closed σ.length)=true) :
  ∃ (m:Nat) (zs:List ByteArray),decide (m < ns.length)=adjB ns∧zs.length=ns.length∧Fn fns 152 [vArr l ns.length] σ lo tr=some (vArr l m,σ.set l (.cells (zs.map strC))):=by
 rw [fn_eq t152 rfl rfl]
 have h1:=get_lt hσ
 have htk:∀ o,List.take σ.length (σ.set l o)=σ.set l o:=fun o=>List.take_of_length_le (by simp)
 have hnl:¬ σ.length≤l:=by omega
 by_cases h2:ns.length < 2
 ·refine ⟨ns.length,ns,?_,rfl,?_⟩
  ·cases ns with
   | nil=>rfl
   | cons a r =>
    have hr:r=[]:=List.length_eq_zero_iff.mp (by simp at h2;omega)
    subst hr;simp [adjB]
  ·have h2':(ns.length:Int) < 2:=by omega
   rw [set_same hσ]
   simp [KF,params,f152,hnl,h1,h2']
 ·have h2':¬ (ns.length:Int) < 2:=by omega
  have hd:ns.drop (1 - 1)=ns:=rfl
  cases ha:adjB ns with
  | false =>
   refine ⟨ns.length,ns,by simp,rfl,?_⟩
   have L:∀ (t':Nat) (k:AExit→St→Option (V × List Ob)),K fns ⟨lo,t'⟩ f152_l1 ⟨[(0,vArr l ns.length),(3,vint 1)],σ⟩ k=k (.exit 0) ⟨[(0,vArr l ns.length)],σ⟩:=fun t' k=>(comp_out ns hn hlo t' hσ hcl (ns.length - 1) 1 (by omega) (Nat.le_refl _)).1 (by rw [hd];exact ha) k
   rw [set_same hσ]
   simp [KF,params,f152,hnl,h1,h2',L]
  | true =>
   obtain ⟨m,zs,r1,r2,r3⟩:=(comp_out ns hn hlo (max tr σ.length) hσ hcl (ns.length - 1) 1 (by omega) (Nat.le_refl _)).2 (by rw [hd];exact ha)
   have r3:∀ (k:AExit→St→Option (V × List Ob)),K fns ⟨lo,max tr σ.length⟩ f152_l1 ⟨[(0,vArr l ns.length),(3,vint 1)],σ⟩ k=k .ret ⟨[(2,vArr l m)],σ.set l (.cells (zs.map strC))⟩:=r3
   refine ⟨m,zs,by simp;omega,r2,?_⟩
   generalize zs.map strC=csX at *
   simp [KF,params,f152,hnl,h1,h2',r3,htk]
theorem fn_twice (ns:List ByteArray) (hn:ns.length≤12) {σ:List Ob} (hσ:σ[l]?=some (.cells (ns.map strC))) (hlo:lo≤l) (hcl:σ.all (Ob.closed σ.length)=true) :
  ∃ (zs:List ByteArray),zs.length=ns.length∧Fn fns 121 [vArr l ns.length] σ lo tr=some (vbool (dupB ns),σ.set l (.cells (zs.map strC))):=by
 have h1:=get_lt hσ
 have hso:=fun tr=>fn_sortS (tr:=tr) ns hn hσ hlo hcl
 have hcl2:(σ.set l (.cells ((sortS ns).map strC))).all (Ob.closed (σ.set l (.cells ((sortS ns).map strC))).length)=true:=by rw [List.length_set];exact all_set hcl (str_cl _ _)
 obtain ⟨m,zs,r1,r2,r3⟩:=fn_compact (tr:=max tr σ.length) (lo:=lo) (sortS ns) (by rw [sortS_len];omega) (σ:=σ.set l (.cells ((sortS ns).map strC))) (by rw [List.getElem?_set_self h1]) hlo hcl2
 rw [sortS_len,List.set_set] at r3
 rw [sortS_len] at r1 r2
 have htk:∀ o,List.take σ.length (σ.set l o)=σ.set l o:=fun o=>List.take_of_length_le (by simp)
 refine ⟨zs,r2,?_⟩
 rw [fn_eq t121 rfl rfl,dupB,← r1]
 generalize zs.map strC=csX at *
 generalize (sortS ns).map strC=csY at *
 simp [KF,params,f121,hso,r3,htk]
theorem fn_twice0 {σ:List Ob} (hcl:σ.all (Ob.closed σ.length)=true) (lo tr:Nat):Fn fns 121 [.c (.b .nils)] σ lo tr=some (vbool false,σ):=by
 have hw:IntKind.i64.wrap 1=1:=by decide
 have hw0:IntKind.i64.wrap 0=0:=by decide
 have hu0:IntKind.u64.wrap 0=0:=by decide
 have i0:∀ lo tr,Fn fns 189 [.c (.b .nils),vint 0,vint 0] σ lo tr=some (.tup [],σ):=fun lo tr=>by
  rw [fn_eq t189 rfl rfl]
  simp [KF,params,f189,hw]
  rw [u189_l1]
  simp [f189_b1,hcl]
 have p0:∀ (lim:Int) lo tr,Fn fns 177 [.c (.b .nils),vint 0,vint 0,vint lim] σ lo tr=some (.tup [],σ):=fun lim lo tr=>by
  rw [fn_eq t177 rfl rfl]
  simp [KF,params,f177]
  rw [u177_l0]
  simp [f177_b0,hw0,i0,hcl]
 obtain ⟨m,hm⟩:=fn_bits (n:=0) (by omega)
 have hm:∀ σ lo tr,Fn fns 178 [.c (.b (.d (.int .u64 0)))] σ lo tr=some (vint m,σ):=hm
 have s0:∀ lo tr,Fn fns 151 [.c (.b .nils)] σ lo tr=some (.tup [],σ):=fun lo tr=>by
  rw [fn_eq t151 rfl rfl]
  simp [KF,params,f151,hu0,hm,p0]
 have c0:∀ lo tr,Fn fns 152 [.c (.b .nils)] σ lo tr=some (.c (.b (.d (.sl []))),σ):=fun lo tr=>by
  rw [fn_eq t152 rfl rfl]
  simp [KF,params,f152]
 rw [fn_eq t121 rfl rfl]
 simp [KF,params,f121,s0,c0]
end
theorem fn_contT0 (l:List GType) (g:Nat) (hs:l.length≤1000000) (p:GType→Bool) (hp:∀ x σ lo tr,Fn fns g [vType x] σ lo tr=some (vbool (p x),σ)) (σ:List Ob) (lo tr:Nat):Fn fns 119 [vsl l,.c (.fn g [] [])] σ lo tr=some (vbool (l.any p),σ):=by
 have hi:∀ (σ:List Ob) (lo tr:Nat),Fn fns 150 [vsl l,.c (.fn g [] [])] σ lo tr=some (vint (idxI p l),σ):=fun σ lo tr=>by
  refine fn_gen t150 rfl (σ1:=[]) rfl rfl ?_ σ lo tr
  have L:∀ (k:AExit→St→Option (V × List Ob)),K fns ⟨0,0⟩ f150_l0 ⟨[(0,vsl l),(1,.c (.fn g [] [])),(7,vint l.length),(8,vint 0)],[]⟩ k=match l.findIdx? p with | some i=>k .ret ⟨[(4,vint i)],[]⟩ | none=>k (.exit 0) ⟨[],[]⟩:=fun k =>
   scan_find (l:=l) (p:=p) (X:=fun i=>K fns ⟨0,0⟩ f150_l0 ⟨[(0,vsl l),(1,.c (.fn g [] [])),(7,vint l.length),(8,vint i)],[]⟩ k)
    (r:=fun i=>k .ret ⟨[(4,vint i)],[]⟩)
    (fun i hi=>by
     have hw:=wrap_succ (i:=i) (by omega)
     have h1:=hp l[i]
     show K fns _ f150_l0 _ k=_
     rw [u150_l0]
     cases hq:p l[i]<;>simp only [hq] at h1<;>simp [f150_b0,hi,hw,h1])
    (by show K fns _ f150_l0 _ k=_;rw [u150_l0];simp [f150_b0])
  unfold idxI
  cases hq:l.findIdx? p<;>simp [KF,params,f150,L,hq]
 refine fn_gen t119 rfl (σ1:=[]) rfl rfl ?_ σ lo tr
 rw [← idxI_ge]
 simp [KF,params,f119,hi]
def ArrAt (m:Nat) (σ:List Ob) (v:V) (ns:List ByteArray):Prop:=(ns=[]∧v=.c (.b .nils))∨∃ l,m < l∧v=vArr l ns.length∧σ[l]?=some (.cells (ns.map strC))
structure AlSt (S:List Ob) (x:GClass) (σ:List Ob):Prop where
 pre:∃ J,σ=S ++ cC x :: J
 cl:∀ k,σ.all (Ob.closed (σ.length+k))=true
section
variable {p:GProgram} {X b c:Nat} {S σ:List Ob} {d m e:Int} {t:Tabs} {x:GClass} {lo tr:Nat}
theorem AlSt.box (h:AlSt S x σ):σ[S.length]?=some (cC x)∧S.length < σ.length:=by
 obtain ⟨J,rfl⟩:=h.pre
 exact ⟨by simp,by simp⟩
theorem AlSt.app (h:AlSt S x σ) {o:Ob} (ho:∀ k,o.closed (σ.length+(1+k))=true):AlSt S x (σ ++ [o]):=by
 refine ⟨?_,fun k=>?_⟩
 ·obtain ⟨J,rfl⟩:=h.pre
  exact ⟨J ++ [o],by simp⟩
 ·rw [List.all_append,List.length_append,List.length_singleton,Nat.add_assoc,h.cl]
  simp only [List.all_cons,List.all_nil,Bool.and_true,Bool.true_and]
  exact ho k
theorem AlSt.set (h:AlSt S x σ) {l:Nat} (hl:S.length < l) {o:Ob} (ho:∀ k,o.closed (σ.length+k)=true):AlSt S x (σ.set l o):=by
 refine ⟨?_,fun k=>by rw [List.length_set];exact all_set (h.cl k) (ho k)⟩
 obtain ⟨J,rfl⟩:=h.pre
 refine ⟨J.set (l - S.length - 1) o,?_⟩
 rw [List.set_append_right _ _ (by omega)]
 obtain ⟨q,hq⟩:∃ q,l - S.length=q+1:=⟨l - S.length - 1,by omega⟩
 rw [hq,List.set_cons_succ]
 simp
theorem AlSt.tab (h:AlSt S x σ) (hT:Tab p X b c S d m e t):Tab p X b c σ d m e t:=by
 obtain ⟨J,hJ⟩:=h.pre
 subst hJ
 exact hT.app _ h.cl
theorem ArrAt.app {n:Nat} {v:V} {ns:List ByteArray} (h:ArrAt n σ v ns) (J:List Ob):ArrAt n (σ ++ J) v ns:=by
 rcases h with h | ⟨l,h1,h2,h3⟩
 ·exact .inl h
 ·exact .inr ⟨l,h1,h2,get_app h3 J⟩
theorem ArrAt.set {n:Nat} {v:V} {ns:List ByteArray} (h:ArrAt n σ v ns) {q:Nat} (hq:∀ l k,v=vArr l k→l≠q) (o:Ob):ArrAt n (σ.set q o) v ns:=by
 rcases h with h | ⟨l,h1,h2,h3⟩
 ·exact .inl h
 ·exact .inr ⟨l,h1,h2,by rw [List.getElem?_set_ne (fun e=>hq _ _ h2 e.symm)];exact h3⟩
theorem ArrAt.closed {n:Nat} {v:V} {ns:List ByteArray} (h:ArrAt n σ v ns):v.closed σ.length=true:=by
 rcases h with ⟨_,rfl⟩ | ⟨l,_,rfl,h3⟩
 ·rfl
 ·simpa [V.closed,V.closed1,C.closed,B.closed] using get_lt h3
theorem alone_fields (hok:OkC x):∀ (n i:Nat) (σ:List Ob) (v:V) (ns:List ByteArray) (G:List GType),i+n=x.fields.length→AlSt S x σ→ArrAt S.length σ v ns→ns.length+n≤14→G.length+n≤1000 →
  ∃ σ' v',AlSt S x σ'∧ArrAt S.length σ' v' (ns ++ (x.fields.drop i).map (·.name))∧∀ (lo tr:Nat) (k:AExit→St→Option (V × List Ob)),lo≤S.length→tr≤S.length →
   K fns ⟨lo,tr⟩ f92_l0 ⟨[(0,vptr X),(3,vptr S.length),(5,v),(6,.c (.b .nils)),(7,.c (.osl 2 [])),(8,.c (.osl 2 (rows G))),(14,vsl x.fields),(15,vint x.fields.length),(16,vint i)],σ⟩ k =
    k (.exit 0) ⟨[(0,vptr X),(3,vptr S.length),(5,v'),(6,.c (.b .nils)),(7,.c (.osl 2 [])),(8,.c (.osl 2 (rows (G ++ (x.fields.drop i).map (·.type_)))))],σ'⟩:=by
 intro n
 induction n with
 | zero =>
  intro i σ v ns G hi hσ hv hn hG
  have hi':i=x.fields.length:=by omega
  subst hi'
  refine ⟨σ,v,hσ,by simpa using hv,fun lo tr k hlo htr=>?_⟩
  rw [u92_l0]
  simp [f92_b0]
 | succ n ih =>
  intro i σ v ns G hi hσ hv hn hG
  have hlt:i < x.fields.length:=by omega
  have hw:=wrap_succ (i:=i) (by have:=hok.fields;omega)
  have hdr:x.fields.drop i=x.fields[i] :: x.fields.drop (i+1):=List.drop_eq_getElem_cons hlt
  have hSl:=hσ.box.2
  rw [hdr,List.map_cons,List.map_cons]
  generalize hf:x.fields[i]=f
  have q1:G.length+1≤70368744177664:=by omega
  have q2:(G.length+1) * 24≤70368744177664:=by omega
  rcases hv with ⟨rfl,rfl⟩ | ⟨l,h1,rfl,h3⟩
  ·have s1:=hσ.app (o:=cF f) (fun k=>by simp [Ob.closed,C.closed,B.closed])
   have s2:=s1.app (o:=.cells ([f.name].map strC)) (fun k=>str_cl _ _)
   obtain ⟨σ',v',r1,r2,r3⟩:=ih (i+1) _ (vArr (σ.length+1) 1) [f.name] (G ++ [f.type_]) (by omega) s2 (.inr ⟨σ.length+1,by omega,rfl,by simp [List.getElem?_append_right]⟩) (by simp;omega) (by simp;omega)
   refine ⟨σ',v',r1,by simpa using r2,fun lo tr k hlo htr=>?_⟩
   have r3:=r3 lo tr k hlo htr
   simp only [List.append_assoc,List.singleton_append] at r3
   rw [← r3,u92_l0]
   have hl1:lo≤σ.length:=by omega
   have hl2:tr≤σ.length:=by omega
   simp [f92_b0,List.getElem?_append_left,List.getElem?_append_right,List.set_append_right,hlt,hw,hf,q1,q2,hl1,hl2,elems]
  ·have hll:=get_lt h3
   have hl3:=(List.getElem?_eq_some_iff.mp h3).2
   have s1:=hσ.app (o:=cF f) (fun k=>by simp [Ob.closed,C.closed,B.closed])
   have s2:=s1.set (l:=l) (o:=.dead) h1 (fun k=>rfl)
   have s3:=s2.app (o:=.cells ((ns ++ [f.name]).map strC)) (fun k=>str_cl _ _)
   obtain ⟨σ',v',r1,r2,r3⟩:=ih (i+1) _ (vArr (σ.length+1) (ns.length+1)) (ns ++ [f.name]) (G ++ [f.type_]) (by omega) s3 (.inr ⟨σ.length+1,by omega,by simp,by simp [List.getElem?_append_right]⟩) (by simp;omega) (by simp;omega)
   refine ⟨σ',v',r1,by simpa using r2,fun lo tr k hlo htr=>?_⟩
   have r3:=r3 lo tr k hlo htr
   simp only [List.append_assoc,List.singleton_append] at r3
   rw [← r3,u92_l0]
   have hl1:lo≤σ.length:=by omega
   have hl2:tr≤σ.length:=by omega
   have hl4:lo≤l:=by omega
   have q3:ns.length+1≤70368744177664:=by omega
   have q4:(ns.length+1) * 16≤70368744177664:=by omega
   have e5:List.take ns.length (ns.map (C.down ∘ strC))=ns.map strC:=by
    rw [List.take_of_length_le (by simp)];rfl
   have hfar:Nat.beq σ.length l=false:=by
    cases hb:Nat.beq σ.length l with
    | false=>rfl
    | true=>have:=Nat.eq_of_beq_eq_true hb;omega
   simp [f92_b0,List.getElem?_append_left,List.getElem?_append_right,List.set_append_left,List.set_append_right,hlt,hw,hf,q1,q2,q3,q4,hl1,hl2,hl4,hll,hl3,elems,farFrom,hfar,e5]
end
def formB (x:GClass) (m:GMethod):Bool:=!decide (m.abstract_=x.iface) || (x.iface && m.static_)
def givenT (x:GClass):List GType:=x.fields.map (·.type_) ++ x.methods.flatMap (·.params)
def aloneT (p:GProgram) (x:GClass):Int :=
 if x.methods.any (formB x) then 4 else if (x.iface && decide (0 < x.fields.length)) || (givenT x).any (fun t=>decide (t.kind=1)) then 4
 else if dupB (x.fields.map (·.name)) || dupB (x.methods.map (·.name)) then 6 else if (givenT x ++ x.methods.map (·.ret)).any (unkB p) then 5 else 0
section
variable {p:GProgram} {X b c:Nat} {S σ:List Ob} {d m e:Int} {t:Tabs} {x:GClass} {lo tr:Nat}
theorem alone_mets (hok:OkC x) (vf:V) (nf:List ByteArray):∀ (n i:Nat) (σ:List Ob) (v:V) (ns:List ByteArray) (G T:List GType),i+n=x.methods.length→AlSt S x σ→ArrAt S.length σ vf nf→ArrAt S.length σ v ns→(∀ l k l' k',vf=vArr l k→v=vArr l' k'→l≠l')→ns.length+n≤14→G.length+10 * n≤1000→T.length+n≤1000 →
  ((x.methods.drop i).any (formB x)=true→∀ (lo tr:Nat),lo≤S.length→tr≤S.length→∃ σ',AlSt S x σ'∧∀ (k:AExit→St→Option (V × List Ob)),
   K fns ⟨lo,tr⟩ f92_l1 ⟨[(0,vptr X),(3,vptr S.length),(5,vf),(6,v),(7,.c (.osl 2 (rows T))),(8,.c (.osl 2 (rows G))),(32,vsl x.methods),(33,vint x.methods.length),(34,vint i)],σ⟩ k=k .ret ⟨[(4,vint 4)],σ'⟩) ∧
  ((x.methods.drop i).any (formB x)=false→∃ σ' v',AlSt S x σ'∧ArrAt S.length σ' vf nf∧ArrAt S.length σ' v' (ns ++ (x.methods.drop i).map (·.name))∧(∀ l k l' k',vf=vArr l k→v'=vArr l' k'→l≠l')∧∀ (lo tr:Nat) (k:AExit→St→Option (V × List Ob)),lo≤S.length→tr≤S.length →
   K fns ⟨lo,tr⟩ f92_l1 ⟨[(0,vptr X),(3,vptr S.length),(5,vf),(6,v),(7,.c (.osl 2 (rows T))),(8,.c (.osl 2 (rows G))),(32,vsl x.methods),(33,vint x.methods.length),(34,vint i)],σ⟩ k =
    k (.exit 2) ⟨[(0,vptr X),(3,vptr S.length),(5,vf),(6,v'),(7,.c (.osl 2 (rows (T ++ (x.methods.drop i).map (·.ret))))),(8,.c (.osl 2 (rows (G ++ (x.methods.drop i).flatMap (·.params)))))],σ'⟩):=by
 intro n
 induction n with
 | zero =>
  intro i σ v ns G T hi hσ hvf hv hne hn hG hT
  have hi':i=x.methods.length:=by omega
  subst hi'
  refine ⟨fun h=>by simp at h,fun _=>⟨σ,v,hσ,hvf,by simpa using hv,hne,fun lo tr k hlo htr=>?_⟩⟩
  rw [u92_l1]
  simp [f92_b1]
 | succ n ih =>
  intro i σ v ns G T hi hσ hvf hv hne hn hG hT
  have hlt:i < x.methods.length:=by omega
  have hw:=wrap_succ (i:=i) (by have:=hok.methods;omega)
  have hdr:x.methods.drop i=x.methods[i] :: x.methods.drop (i+1):=List.drop_eq_getElem_cons hlt
  have hmo:=hok.ms _ (List.getElem_mem hlt)
  obtain ⟨hbx,hSl⟩:=hσ.box
  have hbx2:=(List.getElem?_eq_some_iff.mp hbx).2
  rw [hdr,List.map_cons,List.map_cons,List.flatMap_cons,List.any_cons]
  generalize hf:x.methods[i]=f at hmo
  have s1:=hσ.app (o:=cM f) (fun k=>by simp [Ob.closed,C.closed,B.closed])
  have hpl:=hmo.params
  cases hfm:formB x f with
  | true =>
   refine ⟨fun _ lo tr hlo htr=>⟨_,s1,fun k=>?_⟩,fun h=>by simp at h⟩
   rw [u92_l1]
   have hl1:lo≤σ.length:=by omega
   have hl2:tr≤σ.length:=by omega
   simp only [formB,Bool.or_eq_true,Bool.not_eq_true',decide_eq_false_iff_not,Bool.and_eq_true] at hfm
   cases h1:x.iface<;>cases h2:f.abstract_<;>cases h3:f.static_
   all_goals simp only [h1,h2,h3] at hfm
   all_goals first | (simp at hfm;done) | simp [f92_b1,List.getElem?_append_left,List.getElem?_append_right,List.set_append_right,hlt,hf,hl1,hl2,hSl,hbx2,h1,h2,h3,cM]
  | false =>
   simp only [Bool.false_or]
   have q1:T.length+1≤70368744177664:=by omega
   have q2:(T.length+1) * 24≤70368744177664:=by omega
   have q5:G.length+f.params.length≤70368744177664:=by omega
   have q6:(G.length+f.params.length) * 24≤70368744177664:=by omega
   have hfm':=hfm
   simp only [formB,Bool.or_eq_false_iff,Bool.not_eq_false',decide_eq_true_eq,Bool.and_eq_false_iff] at hfm'
   obtain ⟨g1,g2⟩:=hfm'
   rcases hv with ⟨rfl,rfl⟩ | ⟨l,h1,rfl,h3⟩
   ·have s2:=s1.app (o:=.cells ([f.name].map strC)) (fun k=>str_cl _ _)
    have hih:=ih (i+1) _ (vArr (σ.length+1) 1) [f.name] (G ++ f.params) (T ++ [f.ret]) (by omega) s2 ((hvf.app _).app _) (.inr ⟨σ.length+1,by omega,rfl,by simp [List.getElem?_append_right]⟩)
     (by
      intro l k l' k' e1 e2 he
      rcases hvf with ⟨_,h⟩ | ⟨lf,_,h,hlf⟩
      ·rw [h] at e1;simp at e1
      ·rw [h] at e1
       simp at e1 e2
       have:=get_lt hlf
       omega) (by simp;omega) (by simp;omega) (by simp;omega)
    have step:∀ (lo tr:Nat) (k:AExit→St→Option (V × List Ob)),lo≤S.length→tr≤S.length→K fns ⟨lo,tr⟩ f92_l1 ⟨[(0,vptr X),(3,vptr S.length),(5,vf),(6,.c (.b .nils)),(7,.c (.osl 2 (rows T))),(8,.c (.osl 2 (rows G))),(32,vsl x.methods),(33,vint x.methods.length),(34,vint i)],σ⟩ k =
      K fns ⟨lo,tr⟩ f92_l1 ⟨[(0,vptr X),(3,vptr S.length),(5,vf),(6,vArr (σ.length+1) 1),(7,.c (.osl 2 (rows (T ++ [f.ret])))),(8,.c (.osl 2 (rows (G ++ f.params)))),(32,vsl x.methods),(33,vint x.methods.length),(34,vint (i+1:Nat))],σ ++ [cM f,.cells ([f.name].map strC)]⟩ k:=by
     intro lo tr k hlo htr
     have hl1:lo≤σ.length:=by omega
     have hl2:tr≤σ.length:=by omega
     rw [u92_l1]
     cases h1:x.iface<;>cases h3:f.static_
     all_goals simp only [h1,h3] at g1 g2
     all_goals first | (simp at g2;done) | simp [f92_b1,List.getElem?_append_left,List.getElem?_append_right,List.set_append_right,hlt,hw,hf,q1,q2,q5,q6,hl1,hl2,hSl,hbx2,h1,g1,h3,elems,cM]
    simp only [List.append_assoc,List.singleton_append,List.cons_append,List.nil_append] at hih
    refine ⟨fun h lo tr hlo htr=>?_,fun h=>?_⟩
    ·obtain ⟨σ',r1,r2⟩:=hih.1 h lo tr hlo htr
     exact ⟨σ',r1,fun k=>by rw [step lo tr k hlo htr];exact r2 k⟩
    ·obtain ⟨σ',v',r1,r2,r3,r4,r5⟩:=hih.2 h
     exact ⟨σ',v',r1,r2,by simpa using r3,r4,fun lo tr k hlo htr=>by rw [step lo tr k hlo htr];exact r5 lo tr k hlo htr⟩
   ·have hll:=get_lt h3
    have hl3:=(List.getElem?_eq_some_iff.mp h3).2
    have s2:=s1.set (l:=l) (o:=.dead) h1 (fun k=>rfl)
    have s3:=s2.app (o:=.cells ((ns ++ [f.name]).map strC)) (fun k=>str_cl _ _)
    have hvf2:=((hvf.app [cM f]).set (q:=l) (fun l1 k1 e=>hne _ _ _ _ e rfl) .dead).app [.cells ((ns ++ [f.name]).map strC)]
    have hih:=ih (i+1) _ (vArr (σ.length+1) (ns.length+1)) (ns ++ [f.name]) (G ++ f.params) (T ++ [f.ret]) (by omega) s3 hvf2 (.inr ⟨σ.length+1,by omega,by simp,by simp [List.getElem?_append_right]⟩)
     (by
      intro l k l' k' e1 e2 he
      rcases hvf with ⟨_,h⟩ | ⟨lf,_,h,hlf⟩
      ·rw [h] at e1;simp at e1
      ·rw [h] at e1
       simp at e1 e2
       have:=get_lt hlf
       omega) (by simp;omega) (by simp;omega) (by simp;omega)
    have step:∀ (lo tr:Nat) (k:AExit→St→Option (V × List Ob)),lo≤S.length→tr≤S.length→K fns ⟨lo,tr⟩ f92_l1 ⟨[(0,vptr X),(3,vptr S.length),(5,vf),(6,vArr l ns.length),(7,.c (.osl 2 (rows T))),(8,.c (.osl 2 (rows G))),(32,vsl x.methods),(33,vint x.methods.length),(34,vint i)],σ⟩ k =
      K fns ⟨lo,tr⟩ f92_l1 ⟨[(0,vptr X),(3,vptr S.length),(5,vf),(6,vArr (σ.length+1) (ns.length+1)),(7,.c (.osl 2 (rows (T ++ [f.ret])))),(8,.c (.osl 2 (rows (G ++ f.params)))),(32,vsl x.methods),(33,vint x.methods.length),(34,vint (i+1:Nat))],σ.set l .dead ++ [cM f,.cells ((ns ++ [f.name]).map strC)]⟩ k:=by
     intro lo tr k hlo htr
     have hl1:lo≤σ.length:=by omega
     have hl2:tr≤σ.length:=by omega
     have hl4:lo≤l:=by omega
     have q3:ns.length+1≤70368744177664:=by omega
     have q4:(ns.length+1) * 16≤70368744177664:=by omega
     have e5:List.take ns.length (ns.map (C.down ∘ strC))=ns.map strC:=by
      rw [List.take_of_length_le (by simp)];rfl
     have hfar:Nat.beq σ.length l=false:=by
      cases hb:Nat.beq σ.length l with
      | false=>rfl
      | true=>have:=Nat.eq_of_beq_eq_true hb;omega
     rw [u92_l1]
     cases h1:x.iface<;>cases h3:f.static_
     all_goals simp only [h1,h3] at g1 g2
     all_goals first | (simp at g2;done) | simp [f92_b1,List.getElem?_append_left,List.getElem?_append_right,List.set_append_left,List.set_append_right,hlt,hw,hf,q1,q2,q3,q4,q5,q6,hl1,hl2,hl4,hll,hl3,hSl,hbx2,h1,g1,h3,elems,cM,farFrom,hfar,e5]
    rw [List.set_append_left _ _ hll] at hih
    simp only [List.append_assoc,List.singleton_append,List.cons_append,List.nil_append] at hih step
    refine ⟨fun h lo tr hlo htr=>?_,fun h=>?_⟩
    ·obtain ⟨σ',r1,r2⟩:=hih.1 h lo tr hlo htr
     exact ⟨σ',r1,fun k=>by rw [step lo tr k hlo htr];exact r2 k⟩
    ·obtain ⟨σ',v',r1,r2,r3,r4,r5⟩:=hih.2 h
     exact ⟨σ',v',r1,r2,by simpa using r3,r4,fun lo tr k hlo htr=>by rw [step lo tr k hlo htr];exact r5 lo tr k hlo htr⟩
theorem alone_twice (h:AlSt S x σ) {v:V} {ns:List ByteArray} (hv:ArrAt S.length σ v ns) (hn:ns.length≤12):∃ σ',AlSt S x σ'∧Fn fns 121 [v] σ S.length S.length=some (vbool (dupB ns),σ')∧∀ {v2:V} {ns2:List ByteArray},ArrAt S.length σ v2 ns2→(∀ l k l' k',v=vArr l k→v2=vArr l' k'→l≠l')→ArrAt S.length σ' v2 ns2:=by
 have hcl0:σ.all (Ob.closed σ.length)=true:=by simpa using h.cl 0
 rcases hv with ⟨rfl,rfl⟩ | ⟨l,h1,rfl,h3⟩
 ·exact ⟨σ,h,fn_twice0 hcl0 _ _,fun h _=>h⟩
 ·obtain ⟨zs,r1,r2⟩:=fn_twice (tr:=S.length) ns hn h3 (Nat.le_of_lt h1) hcl0
  exact ⟨_,h.set h1 (fun k=>str_cl _ _),r2,fun hv2 hne=>hv2.set (fun l' k' e e'=>hne _ _ _ _ rfl e e'.symm) _⟩
set_option maxHeartbeats 1000000 in
theorem fn_alone (hP:hierP p=0) (h:Tab p X b c S d m e t) (x:GClass) (hok:OkC x) (hf12:x.fields.length≤12) (hm12:x.methods.length≤12) (lo tr:Nat) (hlo:lo≤S.length) (htr:tr≤S.length):Fn fns 92 [vptr X,vClass x] S lo tr=some (vint (aloneT p x),S):=by
 rw [fn_eq t92 rfl rfl]
 have hm:max lo S.length=S.length:=by omega
 have hm2:max tr S.length=S.length:=by omega
 have hfl:=hok.fields
 have hml:=hok.methods
 have hX:=get_lt h.x
 have s0:AlSt S x (S ++ [cC x]):=by
  refine ⟨⟨[],rfl⟩,(h.cellsApp (fun k=>by simp [C.closed,B.closed])).cl⟩
 obtain ⟨σ1,v1,a1,a2,a3⟩:=alone_fields (X:=X) hok x.fields.length 0 (S ++ [cC x]) (.c (.b .nils)) [] [] (by omega) s0 (.inl ⟨rfl,rfl⟩) (by simp;omega) (by simp;omega)
 simp only [List.drop_zero,List.nil_append,Int.natCast_zero,rs_nil] at a2 a3
 have hfn:(x.fields.map (·.name)).length≤12:=by simp;omega
 have hmn:(x.methods.map (·.name)).length≤12:=by simp;omega
 obtain ⟨M1,M2⟩:=alone_mets (X:=X) hok v1 (x.fields.map (·.name)) x.methods.length 0 σ1 (.c (.b .nils)) [] (x.fields.map (·.type_)) [] (by omega) a1 a2 (.inl ⟨rfl,rfl⟩) (by intro l k l' k' _ e;simp at e) (by simp;omega) (by simp;omega) (by simp;omega)
 simp only [List.drop_zero,List.nil_append,Int.natCast_zero,rs_nil] at M1 M2
 have a4:=fun k=>a3 S.length S.length k (Nat.le_refl _) (Nat.le_refl _)
 have tk:∀ {σ:List Ob},AlSt S x σ→List.take S.length σ=S:=fun hs=>by
  obtain ⟨J,hJ⟩:=hs.pre
  rw [hJ];simp
 unfold aloneT
 obtain ⟨hb1,hb2⟩:=a1.box
 have hb3:=(List.getElem?_eq_some_iff.mp hb1).2
 cases hform:x.methods.any (formB x) with
 | true =>
  obtain ⟨σ2,b1,b2⟩:=M1 hform S.length S.length (Nat.le_refl _) (Nat.le_refl _)
  simp [KF,params,f92,List.getElem?_append_right,hm,hm2,a4,b2,tk b1,hb2,hb3]
 | false =>
  obtain ⟨σ2,v2,b1,b2,b3,b4,b5⟩:=M2 hform
  have b6:=fun k=>b5 S.length S.length k (Nat.le_refl _) (Nat.le_refl _)
  have hgv:x.fields.map (·.type_) ++ x.methods.flatMap (·.params)=givenT x:=rfl
  rw [hgv] at b6
  obtain ⟨hc1,hc2⟩:=b1.box
  have hc3:=(List.getElem?_eq_some_iff.mp hc1).2
  have hgl:(givenT x).length≤1000:=by
   have hfm:(x.methods.flatMap (·.params)).length≤10 * x.methods.length:=by
    have:∀ l:List GMethod,(∀ m ∈ l,m.params.length≤10)→(l.flatMap (·.params)).length≤10 * l.length:=by
     intro l
     induction l with
     | nil=>intro _;simp
     | cons m l ih =>
      intro hl
      have h1:=hl m List.mem_cons_self
      have h2:=ih fun m hm=>hl m (List.mem_cons_of_mem _ hm)
      rw [List.flatMap_cons,List.length_append,List.length_cons];omega
    exact this _ fun m hm=>(hok.ms m hm).params
   simp only [givenT,List.length_append,List.length_map]
   omega
  have hvoid:=fun σ lo tr=>fn_contT0 (givenT x) 120 (by omega) (fun t=>decide (t.kind=1)) (fun x σ lo tr=>fn_voidT x σ lo tr) σ lo tr
  obtain ⟨σ3,d1,d2,d3⟩:=alone_twice b1 b2 hfn
  obtain ⟨σ4,e1,e2,_⟩:=alone_twice d1 (d3 b3 b4) hmn
  have unk:∀ {σ:List Ob},AlSt S x σ→Fn fns 119 [vsl (givenT x ++ x.methods.map (·.ret)),.c (.fn 122 [.ptr X 0] [])] σ S.length S.length=some (vbool ((givenT x ++ x.methods.map (·.ret)).any (unkB p)),σ):=fun {σ} hs=>by
   have hTb:=hs.tab h
   have hsl:=hs.box.2
   refine fn_contT _ 122 [.ptr X 0] [] σ _ _ (by omega) (by simp [C.closed,B.closed]) (by simp [C.closed,B.closed];omega) hTb.cl0 (by simp;omega) (unkB p) (fun i hi tr'=>?_)
   exact fn_unknown hP hTb _ _ _ (Nat.le_refl _)
  have q1:(givenT x).length+x.methods.length≤70368744177664:=by omega
  have q2:((givenT x).length+x.methods.length) * 24≤70368744177664:=by omega
  generalize hG:givenT x=G at *
  have hff:(0:Int) < x.fields.length↔0 < x.fields.length:=by omega
  have t1:=tk b1
  have t2:=tk d1
  have t3:=tk e1
  have u1:=unk e1
  have ab:∀ {σ:List Ob} {v:V} {ns:List ByteArray},ArrAt S.length σ v ns→∃ B,v=.c (.b B):=fun h=>by
   rcases h with ⟨_,rfl⟩ | ⟨l,_,rfl,_⟩<;>exact ⟨_,rfl⟩
  obtain ⟨B1,hB1⟩:=ab b2
  obtain ⟨B2,hB2⟩:=ab b3
  subst hB1 hB2
  generalize dupB (x.fields.map (·.name))=D1 at *
  generalize dupB (x.methods.map (·.name))=D2 at *
  cases hi:x.iface<;>cases hv0:G.any (fun t=>decide (t.kind=1))
  all_goals simp only [cC,hi] at a4 hb3 hc3 b6
  ·cases D1
   ·cases D2
    ·cases hu:(G ++ x.methods.map (·.ret)).any (unkB p)
     all_goals simp only [hu] at u1
     all_goals simp [KF,params,f92,List.getElem?_append_right,hm,hm2,a4,b6,t1,t2,t3,hb2,hb3,hc2,hc3,hi,hvoid,hv0,d2,e2,u1,q1,q2,bsOf]
    ·simp [KF,params,f92,List.getElem?_append_right,hm,hm2,a4,b6,t1,t2,t3,hb2,hb3,hc2,hc3,hi,hvoid,hv0,d2,e2]
   ·simp [KF,params,f92,List.getElem?_append_right,hm,hm2,a4,b6,t1,t2,hb2,hb3,hc2,hc3,hi,hvoid,hv0,d2]
  ·simp [KF,params,f92,List.getElem?_append_right,hm,hm2,a4,b6,t1,hb2,hb3,hc2,hc3,hi,hvoid,hv0]
  ·by_cases c1:0 < x.fields.length
   ·simp [KF,params,f92,List.getElem?_append_right,hm,hm2,a4,b6,t1,hb2,hb3,hc2,hc3,c1,hff,hi]
   ·cases D1
    ·cases D2
     ·cases hu:(G ++ x.methods.map (·.ret)).any (unkB p)
      all_goals simp only [hu] at u1
      all_goals simp [KF,params,f92,List.getElem?_append_right,hm,hm2,a4,b6,t1,t2,t3,hb2,hb3,hc2,hc3,c1,hff,hi,hvoid,hv0,d2,e2,u1,q1,q2,bsOf]
     ·simp [KF,params,f92,List.getElem?_append_right,hm,hm2,a4,b6,t1,t2,t3,hb2,hb3,hc2,hc3,c1,hff,hi,hvoid,hv0,d2,e2]
    ·simp [KF,params,f92,List.getElem?_append_right,hm,hm2,a4,b6,t1,t2,hb2,hb3,hc2,hc3,c1,hff,hi,hvoid,hv0,d2]
  ·by_cases c1:0 < x.fields.length
   ·simp [KF,params,f92,List.getElem?_append_right,hm,hm2,a4,b6,t1,hb2,hb3,hc2,hc3,c1,hff,hi]
   ·simp [KF,params,f92,List.getElem?_append_right,hm,hm2,a4,b6,t1,hb2,hb3,hc2,hc3,c1,hff,hi,hvoid,hv0]
end
def stF (s:ByteArray) (fl:List GField):List GSlot:=(fl.filter fun f=>f.static_).map fun f=>⟨s,f.name,f.type_⟩
section
variable {p:GProgram} {X b c:Nat} {d m e:Int} {t:Tabs}
theorem make_fields (s:ByteArray) (fl:List GField) (hfl:fl.length≤14) (N:List ByteArray) (ln i:Int):∀ (n j:Nat) (S:List Ob) (st:List GSlot),j+n=fl.length→Tab p X b c S d m e { t with st:=st }→st.length+n≤100000 →
  ∃ S',Tab p X b c S' d m e { t with st:=st ++ stF s (fl.drop j) }∧Stay X c S S'∧∀ k:AExit→St→Option (V × List Ob),
   K fns ⟨0,0⟩ f73_l0 ⟨[(0,vptr X),(3,vstr s),(57,vsl N),(58,vint ln),(59,vint i),(79,vsl fl),(80,vint fl.length),(81,vint j)],S⟩ k=k (.exit 2) ⟨[(0,vptr X),(57,vsl N),(58,vint ln),(59,vint i)],S'⟩:=by
 intro n
 induction n with
 | zero =>
  intro j S st hj h hst
  have hj':j=fl.length:=by omega
  subst hj'
  refine ⟨S,by simpa [stF] using h,.refl _ _ _,fun k=>?_⟩
  have hX:=get_lt h.x
  have hcl0:=h.cl0
  rw [u73_l0]
  simp [f73_b0,hX,hcl0,-List.all_eq_true]
 | succ n ih =>
  intro j S st hj h hst
  have hlt:j < fl.length:=by omega
  have hX:=get_lt h.x
  have hx:=(List.getElem?_eq_some_iff.mp h.x).2
  have hcl0:=h.cl0
  have hw:=wrap_succ (i:=j) (by omega)
  have hdr:fl.drop j=fl[j] :: fl.drop (j+1):=List.drop_eq_getElem_cons hlt
  rw [hdr]
  generalize hf:fl[j]=f
  cases hs:f.static_ with
  | false =>
   obtain ⟨S',r1,r3,r2⟩:=ih (j+1) S st (by omega) h (by omega)
   refine ⟨S',by simpa [stF,hs] using r1,r3,fun k=>?_⟩
   rw [← r2 k,u73_l0]
   simp [f73_b0,List.getElem?_append_left,List.getElem?_append_right,List.set_append_right,hlt,hw,hf,hs,hX,hcl0,-List.all_eq_true]
  | true =>
   have h':=h.setX d m e (st ++ [⟨s,f.name,f.type_⟩])
   obtain ⟨S',r1,r3,r2⟩:=ih (j+1) _ (st ++ [⟨s,f.name,f.type_⟩]) (by omega) h' (by simp;omega)
   refine ⟨S',by simpa [stF,hs] using r1,((Stay.refl X c S).set (.inl rfl) _).trans r3,fun k=>?_⟩
   have q1:st.length+1≤70368744177664:=by omega
   have q2:(st.length+1) * 56≤70368744177664:=by omega
   have hcl2:=h'.cl0
   have htk:List.take S.length (S.set X (cTab p d m b c e (st ++ [⟨s,f.name,f.type_⟩])))=S.set X (cTab p d m b c e (st ++ [⟨s,f.name,f.type_⟩])):=List.take_of_length_le (by simp)
   simp only [List.length_set] at hcl2
   rw [← r2 k,u73_l0]
   simp [f73_b0,List.getElem?_append_left,List.getElem?_append_right,List.set_append_left,List.set_append_right,hlt,hw,hf,hs,hX,hx,q1,q2,htk,elems,hcl2,-List.all_eq_true]
theorem prog_of (h:hierP p=0):progB p=true:=by
 unfold hierP at h
 cases hb:progB p
 ·rw [hb] at h;cases h
 ·rfl
theorem six (h:hierP p=0):p.classes.length≤10∧∀ x ∈ allL p,x.fields.length≤6∧x.methods.length≤6:=by
 have hb:=prog_of h
 simp only [progB,Bool.and_eq_true,decide_eq_true_eq,List.all_eq_true] at hb
 refine ⟨by omega,fun x hx=>?_⟩
 rcases List.mem_append.mp hx with a | a
 ·have:∀ x ∈ baseL,x.fields.length≤6∧x.methods.length≤6:=by decide
  exact this x a
 ·have:=hb.2 x a
  simp only [classB,Bool.and_eq_true,decide_eq_true_eq] at this
  omega
theorem all18 (h:hierP p=0):(allL p).length≤18:=by
 have:=(six h).1
 have hb:baseL.length=8:=rfl
 simp only [allL,List.length_append];omega
theorem cls6 (h:hierP p=0) (s:ByteArray):(clsN (allL p) s).fields.length≤6∧(clsN (allL p) s).methods.length≤6:=by
 unfold clsN
 cases hf:findC (allL p) s with
 | none=>decide
 | some x=>exact (six h).2 x (find_mem hf).1
theorem stN_len (h:hierP p=0) (s:ByteArray):(stN (allL p) s).length≤6:=by
 have:=(cls6 h s).1
 have h2:=List.length_filter_le (fun f:GField=>f.static_) (clsN (allL p) s).fields
 simp only [stN,List.length_map];omega
theorem flat_len {α β:Type} (f:α→List β) (n:Nat):∀ l:List α,(∀ x ∈ l,(f x).length≤n)→(l.flatMap f).length≤n * l.length
 | [],_=>by simp
 | x :: l,h=>by
  have h1:=h x List.mem_cons_self
  have h2:=flat_len f n l fun y hy=>h y (List.mem_cons_of_mem _ hy)
  rw [List.flatMap_cons,List.length_append,List.length_cons,Nat.mul_add];omega
theorem make_names (hp:OkP p) (hP:hierP p=0):∀ (n i:Nat) (S:List Ob) (t:Tabs),i+n=(namesOf (allL p)).length→Told (allL p) ((namesOf (allL p)).take i) t→Tab p X b c S d m e t →
  ∃ S' ,Tab p X b c S' d m e (((namesOf (allL p)).drop i).foldl (makeStep (allL p)) t)∧Stay X c S S'∧∀ k:AExit→St→Option (V × List Ob),
   K fns ⟨0,0⟩ f73_l1 ⟨[(0,vptr X),(57,vsl (namesOf (allL p))),(58,vint (namesOf (allL p)).length),(59,vint i)],S⟩ k=k (.exit 0) ⟨[(0,vptr X)],S'⟩:=by
 have hL:=all18 hP
 have hnl:(namesOf (allL p)).length≤18:=by simpa [namesOf] using hL
 intro n
 induction n with
 | zero =>
  intro i S t hi ht h
  have hi':i=(namesOf (allL p)).length:=by omega
  subst hi'
  refine ⟨S,by simpa using h,.refl _ _ _,fun k=>?_⟩
  have hX:=get_lt h.x
  have hcl0:=h.cl0
  rw [u73_l1]
  simp [f73_b1,hX,hcl0,-List.all_eq_true]
 | succ n ih =>
  intro i S t hi ht h
  have hlt:i < (namesOf (allL p)).length:=by omega
  have hX:=get_lt h.x
  have hx:=(List.getElem?_eq_some_iff.mp h.x).2
  have hcl0:=h.cl0
  have hw:=wrap_succ (i:=i) (by omega)
  have hdr:(namesOf (allL p)).drop i=(namesOf (allL p))[i] :: (namesOf (allL p)).drop (i+1):=List.drop_eq_getElem_cons hlt
  have hs:(namesOf (allL p))[i] ∈ namesOf (allL p):=List.getElem_mem hlt
  have hnd:=(sane_of hp hP).nd
  have hnew:(namesOf (allL p))[i] ∉ (namesOf (allL p)).take i:=fun hm=>by
   rw [← List.take_append_drop i (namesOf (allL p)),List.nodup_append] at hnd
   exact hnd.2.2 _ hm _ (by rw [hdr];exact List.mem_cons_self) rfl
  have htake:(namesOf (allL p)).take (i+1)=(namesOf (allL p)).take i ++ [(namesOf (allL p))[i]]:=by rw [List.take_add_one,List.getElem?_eq_getElem hlt];rfl
  rw [hdr,List.foldl_cons]
  have htold:=told_step ht hnew
  rw [← htake] at htold
  generalize hsn:(namesOf (allL p))[i]=s at *
  obtain ⟨cl,f1,f2,f3⟩:=find_name hs
  have hok:=allL_ok hp cl f2
  have hcN:clsN (allL p) s=cl:=by rw [clsN,f1];rfl
  have hT1:=h.cellsApp (cs:=[.b (.d (.str cl.name)),.b (.d (.bool cl.iface)),.b (.d (.str cl.super)),.b (.d (.sl (rows cl.ifaces))),.b (.d (.sl (rows cl.fields))),.b (.d (.sl (rows cl.methods)))]) (fun k=>by simp [C.closed,B.closed])
  obtain ⟨σ0,hb0,hT0⟩:=h.tr
  obtain ⟨l,hl,hcl⟩:=fn_tClass hT0
  have hl:=hl hP
  subst hl
  have hcall:=fun lo tr hlo=>hcl s lo tr hlo
  rw [f1,hb0] at hcall
  simp only [Option.getD_some,Option.isSome_some,hP,decide_true,Bool.and_true] at hcall
  have hls:((lookA t.ls s).getD []).length≤1000:=by rw [ht.ls,if_neg (fun h=>hnew h.1)];simp
  have hst0:t.st.length≤6 * 18:=by
   rw [ht.st]
   refine Nat.le_trans (flat_len _ 6 _ fun x _=>stN_len hP x) (Nat.mul_le_mul_left _ ?_)
   simp;omega
  have hf14:=hok.fields
  have hfd:stF s cl.fields=stN (allL p) s:=by rw [stN,hcN];rfl
  cases hif:cl.iface with
  | true =>
   have eM:makeStep (allL p) t s={ t with st:=t.st ++ stN (allL p) s }:=by simp only [makeStep,hcN,hif,if_true]
   obtain ⟨S1,a1,a3,a2⟩:=make_fields s cl.fields hf14 (namesOf (allL p)) (namesOf (allL p)).length i cl.fields.length 0 _ t.st (by omega) (show Tab p X b c (S ++ [cC cl]) d m e { t with st:=t.st } from hT1) (by omega)
   rw [List.drop_zero,hfd,← eM] at a1
   obtain ⟨S',r1,r3,r2⟩:=ih (i+1) S1 _ (by omega) htold a1
   refine ⟨S',r1,((((Stay.refl X c S).app _).trans a3).trans r3),fun k=>?_⟩
   have hcl1:=a1.cl0
   rw [← r2 k,u73_l1]
   simp only [cC,hif,Int.natCast_zero] at a2
   simp [f73_b1,List.getElem?_append_left,List.getElem?_append_right,List.set_append_left,List.set_append_right,hlt,hw,hsn,hcl0,hcl1,hX,hx,hcall,hif,a2,-List.all_eq_true]
  | false =>
   have eM:makeStep (allL p) t s={ classStep (allL p) t s with st:=(classStep (allL p) t s).st ++ stN (allL p) s }:=by simp only [makeStep,hcN,hif,Bool.false_eq_true,if_false]
   obtain ⟨S0,z1,z2,z3⟩:=fn_tabClass hp hP hT1 hs hls
   have hst1:(classStep (allL p) t s).st=t.st:=(rows_fold (allL p) s (rowL (allL p) s) { t with rs:=putA t.rs s (rowL (allL p) s) }).2.1
   obtain ⟨S1,a1,a3,a2⟩:=make_fields s cl.fields hf14 (namesOf (allL p)) (namesOf (allL p)).length i cl.fields.length 0 _ (classStep (allL p) t s).st (by omega) (show Tab p X b c S0 d m e { classStep (allL p) t s with st:=(classStep (allL p) t s).st } from z1) (by rw [hst1];omega)
   rw [List.drop_zero,hfd,← eM] at a1
   obtain ⟨S',r1,r3,r2⟩:=ih (i+1) S1 _ (by omega) htold a1
   refine ⟨S',r1,(((((Stay.refl X c S).app _).trans z2).trans a3).trans r3),fun k=>?_⟩
   have hcl1:=a1.cl0
   have hz1:=get_lt z1.x
   rw [← r2 k,u73_l1]
   simp only [cC,hif,Int.natCast_zero] at a2 z3
   have hz2:=z2.2 S.length (by omega) (by have:=get_lt h.w;omega) (by simp)
   rw [List.getElem?_append_right (Nat.le_refl _)] at hz2
   simp only [Nat.sub_self,List.getElem?_cons_zero,cC,hif] at hz2
   simp [f73_b1,List.getElem?_append_left,List.getElem?_append_right,List.set_append_left,List.set_append_right,hlt,hw,hsn,hcl0,hcl1,hX,hx,hcall,hif,a2,z3,hz2,get_lt hz2,(List.getElem?_eq_some_iff.mp hz2).2,-List.all_eq_true]
end
def chk (F:GClass→Int) (e:Int) (x:GClass):Int:=if e=0 then F x else e
section
variable {p:GProgram} {X b c A:Nat} {d m:Int} {t:Tabs}
theorem make_classes (hp:OkP p) (f:Nat) (F:GClass→Int) (hA:c+3 < A)
  (hF:∀ (e:Int) (S:List Ob),Tab p X b c S d m e t→∀ x ∈ p.classes,∀ lo tr,lo≤S.length→tr≤S.length→Fn fns f [vptr X,vClass x] S lo tr=some (vint (F x),S)) (j:Int) :
  ∀ (n i:Nat) (S:List Ob) (e:Int),i+n=p.classes.length→Tab p X b c S d m e t→A < S.length →
  ∃ S',Tab p X b c S' d m ((p.classes.drop i).foldl (chk F) e) t∧(Stay X c S S'∧S'.length=S.length)∧∀ k:AExit→St→Option (V × List Ob),
   K fns ⟨0,0⟩ f73_l2 ⟨[(0,vptr X),(9,.c (.fn f [.ptr X 0] [])),(110,vArr A 3),(111,vint 3),(112,vint j),(120,vsl p.classes),(121,vint p.classes.length),(122,vint i)],S⟩ k=k (.exit 6) ⟨[(0,vptr X),(110,vArr A 3),(111,vint 3),(112,vint j)],S'⟩:=by
 have hpl:=hp.len
 intro n
 induction n with
 | zero =>
  intro i S e hi h hAS
  have hi':i=p.classes.length:=by omega
  subst hi'
  refine ⟨S,by simpa using h,⟨.refl _ _ _,rfl⟩,fun k=>?_⟩
  have hX:=get_lt h.x
  have hcl0:=h.cl0
  rw [u73_l2]
  simp [f73_b2,hX,hcl0,hAS,-List.all_eq_true]
 | succ n ih =>
  intro i S e hi h hAS
  have hlt:i < p.classes.length:=by omega
  have hX:=get_lt h.x
  have hx:=(List.getElem?_eq_some_iff.mp h.x).2
  have hcl0:=h.cl0
  have hw:=wrap_succ (i:=i) (by omega)
  have hdr:p.classes.drop i=p.classes[i] :: p.classes.drop (i+1):=List.drop_eq_getElem_cons hlt
  rw [hdr,List.foldl_cons]
  have hin:p.classes[i] ∈ p.classes:=List.getElem_mem hlt
  generalize hs:p.classes[i]=x at hin
  have hT1:=h.cellsApp (cs:=[.b (.d (.str x.name)),.b (.d (.bool x.iface)),.b (.d (.str x.super)),.b (.d (.sl (rows x.ifaces))),.b (.d (.sl (rows x.fields))),.b (.d (.sl (rows x.methods)))]) (fun k=>by simp [C.closed,B.closed])
  have hcall:=fun lo tr hlo htr=>hF e _ hT1 x hin lo tr hlo htr
  have hxl:S.length < S.length+1:=by omega
  by_cases he:e=0
  ·subst he
   have h':=h.setX d m (F x) t.st
   obtain ⟨S',r1,r2,r3⟩:=ih (i+1) _ (F x) (by omega) h' (by simpa using hAS)
   refine ⟨S',by simpa [chk] using r1,⟨((Stay.refl X c S).set (.inl rfl) _).trans r2.1,by rw [r2.2,List.length_set]⟩,fun k=>?_⟩
   have hcl2:=h'.cl0
   simp only [List.length_set] at hcl2
   have htk:List.take S.length (S.set X (cTab p d m b c (F x) t.st))=S.set X (cTab p d m b c (F x) t.st):=List.take_of_length_le (by simp)
   rw [← r3 k,u73_l2]
   simp [f73_b2,List.getElem?_append_left,List.getElem?_append_right,List.set_append_left,List.set_append_right,hlt,hw,hs,hX,hx,hcl0,hcl2,hAS,hcall,htk,-List.all_eq_true]
  ·obtain ⟨S',r1,r2,r3⟩:=ih (i+1) S e (by omega) h hAS
   refine ⟨S',by simpa [chk,he] using r1,r2,fun k=>?_⟩
   rw [← r3 k,u73_l2]
   simp [f73_b2,List.getElem?_append_left,List.getElem?_append_right,List.set_append_left,List.set_append_right,hlt,hw,hs,hX,hx,hcl0,hAS,he,-List.all_eq_true]
theorem metR_mem {l:List GClass} {n:ByteArray}:∀ {row:List ByteArray} {r:ByteArray × GMethod},metR l row n=some r→r.1 ∈ row∧r.2 ∈ (clsN l r.1).methods∧r.2.name=n
 | [],_,h=>by cases h
 | s :: row,r,h=>by
  unfold metR at h
  cases hq:(clsN l s).methods.find? (fun m=>decide (m.name=n)) with
  | none =>
   rw [hq] at h
   obtain ⟨h1,h2⟩:=metR_mem h
   exact ⟨List.mem_cons_of_mem _ h1,h2⟩
  | some m =>
   rw [hq] at h
   cases h
   exact ⟨List.mem_cons_self,List.mem_of_find?_eq_some hq,by simpa using List.find?_some hq⟩
theorem told_all (hp:OkP p) (hP:hierP p=0):Told (allL p) (namesOf (allL p)) (tabsL (allL p)):=told_tabs (sane_of hp hP).nd
theorem small_all (hp:OkP p) (hP:hierP p=0):Small (tabsL (allL p)):=by
 have ht:=told_all hp hP
 have hl:=all18 hP
 refine ⟨fun k=>?_,fun k o hk=>?_⟩
 ·rw [ht.ls]
  split
  ·have h1:=flat_len (slN (allL p)) 6 (rowL (allL p) k).reverse fun s _=>by
    have:=(cls6 hP s).1
    have h2:=List.length_filter_le (fun f:GField=>!f.static_) (clsN (allL p) s).fields
    simp only [slN,List.length_map];omega
   have h2:=rowL_len (allL p) k
   rw [List.length_reverse] at h1
   unfold slotsR;omega
  ·simp
 ·rw [ht.fs] at hk
  split at hk
  ·cases hm:metR (allL p) (rowL (allL p) k.1) k.2 with
   | none=>rw [hm] at hk;cases hk
   | some r =>
    rw [hm] at hk
    cases hk
    exact (cls_ok hp r.1).ms _ (metR_mem hm).2.1
  ·cases hk
def chksT (p:GProgram) (t:Tabs):Int:=p.classes.foldl (chk (keepsT p t)) (p.classes.foldl (chk (overT p t)) (p.classes.foldl (chk (aloneT p)) 0))
def layE (p:GProgram):Int:=if hierP p=0 then chksT p (tabsL (allL p)) else hierP p
theorem make_checks {S:List Ob} (hp:OkP p) (hP:hierP p=0) (hsm:Small t) (h:Tab p X b c S d m 0 t) (hcA:c+3 < A) (hA:S[A]?=some (.cells [.fn 92 [.ptr X 0] [],.fn 93 [.ptr X 0] [],.fn 94 [.ptr X 0] []])) :
  ∃ S',Tab p X b c S' d m (chksT p t) t∧Stay X c S S'∧∀ k:AExit→St→Option (V × List Ob),K fns ⟨0,0⟩ f73_l3 ⟨[(0,vptr X),(110,vArr A 3),(111,vint 3),(112,vint 0)],S⟩ k=k (.exit 4) ⟨[],S'⟩:=by
 have hok:∀ x ∈ p.classes,OkC x:=hp.cs
 have hin:∀ x ∈ p.classes,x ∈ allL p:=fun x hx=>List.mem_append_right _ hx
 have a0:=get_lt hA
 have hXA:A≠X:=by have:=h.xb;have:=h.bc;omega
 obtain ⟨S1,p1,⟨p2,pl⟩,p3⟩:=make_classes (X:=X) (b:=b) (c:=c) (d:=d) (m:=m) (t:=t) hp 92 (aloneT p) hcA (fun e S h x hx lo tr hlo htr=>fn_alone hP h x (hok x hx) (by have:=((six hP).2 x (hin x hx)).1;omega) (by have:=((six hP).2 x (hin x hx)).2;omega) lo tr hlo htr) 0 _ 0 S 0 (Nat.zero_add _) h a0
 have A1:=(p2.2 A hXA (.inr hcA) a0).trans hA
 obtain ⟨S2,q1,⟨q2,ql⟩,q3⟩:=make_classes (X:=X) (b:=b) (c:=c) (d:=d) (m:=m) (t:=t) hp 93 (overT p t) hcA (fun e S h x hx lo tr hlo htr=>fn_over hP h hsm x (hok x hx) lo tr hlo) 1 _ 0 S1 _ (Nat.zero_add _) p1 (get_lt A1)
 have A2:=(q2.2 A hXA (.inr hcA) (get_lt A1)).trans A1
 obtain ⟨S3,r1,⟨r2,rl⟩,r3⟩:=make_classes (X:=X) (b:=b) (c:=c) (d:=d) (m:=m) (t:=t) hp 94 (keepsT p t) hcA (fun e S h x hx lo tr hlo htr=>fn_keeps hp hP h hsm x lo tr hlo) 2 _ 0 S2 _ (Nat.zero_add _) q1 (get_lt A2)
 have A3:=(r2.2 A hXA (.inr hcA) (get_lt A2)).trans A2
 simp only [List.drop_zero,Int.natCast_zero] at p1 p3 q1 q3 r1 r3
 refine ⟨S3,r1,(p2.trans q2).trans r2,fun k=>?_⟩
 have e1:IntKind.i64.wrap 1=1:=by decide
 have e2:IntKind.i64.wrap 2=2:=by decide
 have e3:IntKind.i64.wrap 3=3:=by decide
 have c0:=h.cl0
 have c1:=p1.cl0
 have c2:=q1.cl0
 have c3:=r1.cl0
 have x0:=get_lt h.x
 have x1:=get_lt p1.x
 have x2:=get_lt q1.x
 have x3:=get_lt r1.x
 have z0:=(List.getElem?_eq_some_iff.mp h.x).2
 have z1:=(List.getElem?_eq_some_iff.mp p1.x).2
 have z2:=(List.getElem?_eq_some_iff.mp q1.x).2
 have b1:=get_lt A1
 have b2:=get_lt A2
 have b3:=get_lt A3
 have w0:=(List.getElem?_eq_some_iff.mp hA).2
 have w1:=(List.getElem?_eq_some_iff.mp A1).2
 have w2:=(List.getElem?_eq_some_iff.mp A2).2
 have t1:List.take S.length S1=S1:=List.take_of_length_le (by omega)
 have t2:List.take S1.length S2=S2:=List.take_of_length_le (by omega)
 have t3:List.take S2.length S3=S3:=List.take_of_length_le (by omega)
 have c1':S1.all (Ob.closed S.length)=true:=by rw [← pl];exact c1
 have c2':S2.all (Ob.closed S1.length)=true:=by rw [← ql];exact c2
 have c3':S3.all (Ob.closed S2.length)=true:=by rw [← rl];exact c3
 have g1:=Nat.le_of_eq pl.symm
 have g2:=Nat.le_of_eq ql.symm
 have g3:=Nat.le_of_eq rl.symm
 rw [u73_l3]
 simp [f73_b3,t1,c1',g1,a0,c0,c1,x0,x1,z0,w0,b1,p3,e1,-List.all_eq_true]
 rw [u73_l3]
 simp [f73_b3,t2,c2',g2,c1,c2,x1,x2,z1,w1,b1,b2,q3,e2,-List.all_eq_true]
 rw [u73_l3]
 simp [f73_b3,t3,c3',g3,c2,c3,x2,x3,z2,w2,b2,b3,r3,e3,-List.all_eq_true]
 rw [u73_l3]
 simp [f73_b3,c3,x3,b3,-List.all_eq_true]
end
end
end Go.Proofs.YteeofkbhopioiaaGreatDoor.Am
