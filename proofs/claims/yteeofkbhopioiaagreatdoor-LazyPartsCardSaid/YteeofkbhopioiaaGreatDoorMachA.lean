/- Lemmas that the rows' proofs rest on; each states its own conditions. -/
import Derived.Orders
import Derived.Below
import Derived.LoopN
import Derived.Laws.Sem
import Derived.Laws.StructEq
import Derived.Laws.CopyRow
import Derived.Laws.Cells
import Derived.ChangeKeysEq
import Derived.Laws.NewFold
set_option linter.unusedSimpArgs false
set_option linter.unusedVariables false
set_option linter.unusedSectionVars false
namespace Go.Proofs.YteeofkbhopioiaaGreatDoor.Am
open Go
inductive D where
 | bool (b:Bool)
 | int (k:IntKind) (n:Int)
 | str (s:ByteArray)
 | sl (rows:List (List D))
 deriving Inhabited
inductive B where
 | d (x:D)
 | ptr (l off:Nat)
 | nilp
 | rop (row:List D) (off:Nat)
 | arr (k l off len:Nat)
 | map (l:Nat)
 | nilm
 | nils
 | emp
 | any
 deriving Inhabited
inductive C where
 | b (x:B)
 | osl (k:Nat) (rows:List (List D))
 | fn (f:Nat) (fst cap:List B)
 | nilf
 deriving Inhabited
inductive V where
 | c (x:C)
 | agg (cs:List C)
 | tup (vs:List V)
 deriving Inhabited
inductive Ob where
 | cells (cs:List C)
 | map (es:List (V × V))
 | dead
 | blank (n:Nat)
 deriving Inhabited
def C.down:C→C
 | .osl _ rows=>.b (.d (.sl rows))
 | x=>x
def V.down:V→V
 | .c x=>.c x.down
 | .agg cs=>.agg (cs.map C.down)
 | .tup _=>.c (.b .any)
abbrev Env:=List (Nat × V)
def Env.get:Env→Nat→V
 | [],_=>.c (.b .any)
 | (a,v) :: e,t=>bif a == t then v else Env.get e t
def Env.keep (e:Env):List Nat→Env
 | []=>[]
 | t :: ts=>(t,e.get t) :: Env.keep e ts
structure St where
 env:Env
 σ:List Ob
inductive Opd where
 | t (n:Nat)
 | k (v:V)
def St.raw (s:St):Opd→V
 | .t n=>s.env.get n
 | .k v=>v
def St.rd (s:St) (x:Opd):V:=(s.raw x).down
def St.took (s:St):Opd→St
 | .t n=>{ s with env:=(n,(s.env.get n).down) :: s.env }
 | .k _=>s
def St.set (s:St) (d:Option Nat) (v:V):St :=
 match d with
 | some t=>{ s with env:=(t,v) :: s.env }
 | none=>s
def V.cells:V→Option (List C)
 | .c (.b .any)=>none
 | .c x=>some [x]
 | .agg cs=>some cs
 | .tup _=>none
def C.data:C→Option D
 | .b (.d x)=>some x
 | .osl _ rows=>some (.sl rows)
 | _=>none
def datas:List C→Option (List D)
 | []=>some []
 | c :: cs=>match c.data,datas cs with
  | some x,some xs=>some (x :: xs)
  | _,_=>none
def chunk (k:Nat):Nat→List C→Option (List (List D))
 | 0,_=>some []
 | n+1,cs=>match datas (cs.take k),chunk k n (cs.drop k) with
  | some r,some rs=>if r.length=k then some (r :: rs) else none
  | _,_=>none
def putAt (zs:List C) (off:Nat) (cs:List C):Option (List C) :=
 if off+cs.length≤zs.length then some (zs.take off ++ cs ++ zs.drop (off+cs.length)) else none
def arith (op:BinOp) (k:IntKind) (x y:Int):Option D :=
 match op with
 | .add=>some (.int k (k.wrap (x+y)))
 | .sub=>some (.int k (k.wrap (x - y)))
 | .mul=>some (.int k (k.wrap (x * y)))
 | .quo=>if y=0 then none else some (.int k (k.wrap (x.tdiv y)))
 | .rem=>if y=0 then none else some (.int k (x.tmod y))
 | .eql=>some (.bool (x == y))
 | .neq=>some (.bool (x != y))
 | .lss=>some (.bool (x < y))
 | .leq=>some (.bool (x≤y))
 | .gtr=>some (.bool (x > y))
 | .geq=>some (.bool (x≥y))
 | .and=>some (.int k (k.wrap (BitVec.ofInt k.bits x &&& BitVec.ofInt k.bits y).toNat))
 | .or=>some (.int k (k.wrap (BitVec.ofInt k.bits x ||| BitVec.ofInt k.bits y).toNat))
 | _=>none
def shifted (op:BinOp) (k:IntKind) (x y:Int):Option D :=
 match op with
 | .shl=>if y < 0 then none else some (.int k (k.wrap (x * 2 ^ (min y.toNat k.bits))))
 | .shr=>if y < 0 then none else some (.int k (x.fdiv (2 ^ (min y.toNat k.bits))))
 | _=>none
def isShift:BinOp→Bool
 | .shl | .shr=>true
 | _=>false
def strs (op:BinOp) (x y:ByteArray):Option D :=
 match op with
 | .eql=>some (.bool (x.toList == y.toList))
 | .neq=>some (.bool (!(x.toList == y.toList)))
 | .lss=>some (.bool (Op.bytesLess x.toList y.toList))
 | .add=>if ((x.size+y.size:Nat):Int) > IntKind.i64.max then none else some (.str (x ++ y))
 | _=>none
def D.same:Nat→D→D→Option Bool
 | 0,.bool a,.bool b=>some (a == b)
 | 1,.int k a,.int k' b=>if k=k' then some (a == b) else none
 | 2,.str a,.str b=>some (a.toList == b.toList)
 | _,_,_=>none
def sames:List Nat→List C→List C→Option Bool
 | [],[],[]=>some true
 | k :: ks,.b (.d x) :: xs,.b (.d y) :: ys=>match D.same k x y,sames ks xs ys with
  | some p,some q=>some (p && q)
  | _,_=>none
 | _,_,_=>none
def eqV (ks:List Nat):Nat→V→V→Option Bool
 | 0,.c (.b (.d (.bool a))),.c (.b (.d (.bool b)))=>some (a == b)
 | 1,.c (.b .nilp),.c (.b .nilp)=>some true
 | 1,.c (.b .nilp),.c (.b (.ptr _ _))=>some false
 | 1,.c (.b (.ptr _ _)),.c (.b .nilp)=>some false
 | 1,.c (.b .nilp),.c (.b (.rop _ _))=>some false
 | 1,.c (.b (.rop _ _)),.c (.b .nilp)=>some false
 | 2,.agg a,.agg b=>sames ks a b
 | 3,.c (.b .nilm),.c (.b .nilm)=>some true
 | 3,.c (.b (.map _)),.c (.b .nilm)=>some false
 | 3,.c (.b .nilm),.c (.b (.map _))=>some false
 | 4,.c (.b .nils),.c (.b .nils)=>some true
 | 4,.c (.b .emp),.c (.b .nils)=>some false
 | 4,.c (.b (.arr _ _ _ _)),.c (.b .nils)=>some false
 | 4,.c (.b (.d (.sl (_ :: _)))),.c (.b .nils)=>some false
 | _,_,_=>none
def binV (op:BinOp):V→V→Option D
 | .c (.b (.d (.int k a))),.c (.b (.d (.int k' b)))=>bif isShift op then shifted op k a b else if k=k' then arith op k a b else none
 | .c (.b (.d (.str a))),.c (.b (.d (.str b)))=>strs op a b
 | _,_=>none
def unV (op:UnOp):V→Option D
 | .c (.b (.d (.int k n)))=>match op with
  | .neg=>some (.int k (k.wrap (0 - n)))
  | .xor=>some (.int k (k.wrap (BitVec.ofInt k.bits (if k.signed then -1 else k.max) ^^^ BitVec.ofInt k.bits n).toNat))
  | _=>none
 | .c (.b (.d (.bool b)))=>match op with
  | .not=>some (.bool (!b))
  | _=>none
 | _=>none
inductive Mode where
 | cp | own | frz | arr
 deriving DecidableEq
inductive AOp where
 | mov (m:Mode) (x:Opd)
 | pick (c a b:Opd)
 | alloc (zs:List C)
 | box (x:Opd)
 | build (zs:List C) (parts:List (Nat × Nat × Opd))
 | bsl (m:Mode) (k n:Nat) (zs:List C) (parts:List (Nat × Opd))
 | ld (m:Mode) (n:Option Nat) (x:Opd)
 | st (n:Nat) (a x:Opd)
 | bin (op:BinOp) (x y:Opd)
 | eq (neg:Bool) (kd:Nat) (ks:List Nat) (x y:Opd)
 | un (op:UnOp) (x:Opd)
 | conv (k:IntKind) (x:Opd)
 | fa (off:Nat) (x:Opd)
 | fld (off:Nat) (n:Option Nat) (x:Opd)
 | ia (k:Nat) (x i:Opd)
 | ixs (x i:Opd)
 | slc (m:Mode) (k:Nat) (x:Opd) (lo hi:Option Opd)
 | slcs (x:Opd) (lo hi:Option Opd)
 | mks (m:Mode) (k bytes:Nat) (zs:List C) (len cap:Opd)
 | ext (i:Nat) (x:Opd)
 | exd (i:Nat) (x:Opd)
 | len (kd:Nat) (x:Opd)
 | app (k bytes:Nat) (x y:Opd)
 | call (f:Nat) (args:List Opd)
 | callp (f:Nat) (args:List Opd)
 | callb (f:Nat) (args:List Opd)
 | bad
 | appa (k bytes:Nat) (x y:Opd)
 | cpy (k:Nat) (x y:Opd)
 | mm (mx:Bool) (x y:Opd)
 | callv (x:Opd) (args:List Opd)
 | mkf (f:Nat) (fst cap:List Opd)
 | mkm
 | lkp (ks:List Nat) (zs:V) (ok:Bool) (x key:Opd)
 | upd (ks:List Nat) (x key v:Opd)
 | nilc (x:Opd)
 | lko (ks:List Nat) (k:Nat) (x key:Opd)
 | updo (ks:List Nat) (x key v:Opd)
 | ment (ks:List Nat) (x key:Opd)
 | estr (x st v:Opd)
 | clr (k:Nat) (zs:List C) (x:Opd)
 | ga (g k:Nat) (x:Opd)
 | appn (k bytes:Nat) (x y:Opd)
 | stl (n:Nat) (a x:Opd) (rs:List Nat)
 | ldn (n:Option Nat) (x u:Opd)
 | appl (k bytes:Nat) (x y:Opd) (rs:List Nat)
def gtab:List (Nat × List D):=[(0,(List.range 256).map fun i=>.int .u8 (if (9≤i && i≤13) || i == 32 then 1 else 0))]
def gcells (g:Nat):Option (List D):=(gtab.find? (fun p=>Nat.beq p.1 g)).map (·.2)
structure AIns where
 dst:Option Nat
 op:AOp
 guard:Option (Nat × Bool)
inductive ACode where
 | skip
 | region (draw:Bool) (ops:List AIns) (keep:List Nat)
 | seq (a b:ACode)
 | cond (x:Opd) (a b:ACode)
 | block (id:Nat) (c:ACode)
 | loop (c:ACode)
 | exit (id:Nat)
 | ret
 | wrap (cut:Bool) (nrm ret:List Nat) (exs:List (Nat × List Nat)) (c:ACode)
 | rng (f:Nat) (x:Opd) (ti tx k:Nat) (agg:Bool) (asg body:ACode)
inductive AExit where
 | normal | exit (id:Nat) | ret
 deriving DecidableEq
def fnOf (f:Nat):Nat:=f % 4096
inductive ARes where
 | tmp (t:Nat)
 | cell (t:Nat) (n:Option Nat)
inductive Kp where
 | pure | trim | free
 deriving DecidableEq
structure AFun where
 params:Nat
 body:ACode
 results:List ARes
 kp:Kp
 split:Bool:=false
 once:Bool:=false
abbrev Oracle:=Nat→List V→List Ob→Nat→Nat→Option (V × List Ob)
structure Bd where
 lo:Nat
 tr:Nat
def C.plain:C→Bool
 | .b (.d _)=>true
 | _=>false
def mayWrite (bd:Bd) (l:Nat) (cs:List C):Bool :=
 decide (bd.lo≤l) && (decide (bd.tr≤l) || cs.all C.plain)
def getCells (σ:List Ob) (l:Nat):Option (List C) :=
 match σ[l]? with
 | some (.cells cs)=>some cs
 | _=>none
def datasF (h:C→Option D):List C→Option (List D)
 | []=>some []
 | c :: cs=>match h c,datasF h cs with
  | some x,some xs=>some (x :: xs)
  | _,_=>none
def chunkF (h:C→Option D) (k:Nat):Nat→List C→Option (List (List D))
 | 0,_=>some []
 | n+1,cs=>match datasF h (cs.take k),chunkF h k n (cs.drop k) with
  | some r,some rs=>if r.length=k then some (r :: rs) else none
  | _,_=>none
def frzD (S:Nat→Bool) (σ:List Ob):Nat→C→Option D
 | 0,_=>none
 | f+1,c=>match c with
  | .b (.d x)=>some x
  | .osl _ rows=>some (.sl rows)
  | .b .nils=>some (.sl [])
  | .b .emp=>some (.sl [])
  | .b (.arr k l off len)=>if S l=true then match getCells σ l with
    | some cs=>match chunkF (frzD S σ f) k len (cs.drop off) with
     | some rows=>some (.sl rows)
     | none=>none
    | none=>none
   else none
  | _=>none
def frzC (S:Nat→Bool) (σ:List Ob) (c:C):Option C:=match c with
 | .b (.arr k l off len)=>if S l=true then match frzD S σ 4 (.b (.arr k l off len)) with
   | some d=>some (.b (.d d))
   | none=>none
  else some c
 | .b .nils=>some (.b (.d (.sl [])))
 | .b .emp=>some (.b (.d (.sl [])))
 | c=>some c
def frzCs (S:Nat→Bool) (σ:List Ob):List C→Option (List C)
 | []=>some []
 | c :: cs=>match frzC S σ c,frzCs S σ cs with
  | some x,some xs=>some (x :: xs)
  | _,_=>none
def frz1 (S:Nat→Bool) (σ:List Ob):V→Option V
 | .c c=>match frzC S σ c with
  | some c=>some (.c c)
  | none=>none
 | .agg cs=>match frzCs S σ cs with
  | some cs=>some (.agg cs)
  | none=>none
 | .tup vs=>some (.tup vs)
def frz1s (S:Nat→Bool) (σ:List Ob):List V→Option (List V)
 | []=>some []
 | v :: vs=>match frz1 S σ v,frz1s S σ vs with
  | some x,some xs=>some (x :: xs)
  | _,_=>none
def frzV (S:Nat→Bool) (σ:List Ob):V→Option V
 | .tup vs=>match frz1s S σ vs with
  | some vs=>some (.tup vs)
  | none=>none
 | v=>frz1 S σ v
def arrsOf (σ:List Ob):Nat→C→List Nat
 | 0,_=>[]
 | f+1,c=>match c with
  | .b (.arr _ l _ _)=>l :: (match getCells σ l with
   | some cs=>cs.flatMap (arrsOf σ f)
   | none=>[])
  | _=>[]
def killAll:List Nat→List Ob→List Ob
 | [],σ=>σ
 | l :: ls,σ=>killAll ls (σ.set l .dead)
def rowsOf (σ:List Ob):V→Option (List (List D))
 | .c (.osl _ rows)=>some rows
 | .c (.b (.d (.sl rows)))=>some rows
 | .c (.b (.arr k l off len))=>match getCells σ l with
  | some cs=>chunk k len (cs.drop off)
  | none=>none
 | .c (.b .nils)=>some []
 | .c (.b .emp)=>some []
 | _=>none
def elems (σ:List Ob) (k:Nat):V→Option (Nat × List C)
 | .c (.b (.d (.sl rows)))=>if rows.all (fun r=>r.length == k) then some (rows.length,rows.flatten.map fun d=>.b (.d d)) else none
 | .c (.b .nils)=>some (0,[])
 | .c (.b .emp)=>some (0,[])
 | .c (.b (.arr k' l off len))=>match getCells σ l with
  | some cs=>if k'=k∧off+len * k≤cs.length then some (len,((cs.drop off).take (len * k)).map C.down) else none
  | none=>none
 | _=>none
def intOf:V→Option Int
 | .c (.b (.d (.int _ n)))=>some n
 | _=>none
def partsIn (s:St):List (Nat × Nat × Opd)→List C→Option (List C)
 | [],zs=>some zs
 | (off,n,x) :: ps,zs=>match (s.rd x).cells with
  | some cs=>if cs.length=n then match putAt zs off cs with
    | some zs'=>partsIn s ps zs'
    | none=>none
   else none
  | none=>none
def rep (n:Nat) (zs:List C):List C:=(List.replicate n zs).flatten
def eqKey (ks:List Nat):V→V→Option Bool
 | .c x,.c y=>sames ks [x] [y]
 | .agg xs,.agg ys=>if Nat.ble 2 ks.length=true then sames ks xs ys else none
 | _,_=>none
def keyShape (ks:List Nat):V→Bool
 | .c (.b (.d _))=>ks.length == 1
 | .agg cs=>cs.length == ks.length && Nat.ble 2 ks.length
 | _=>false
def got (zs:V):Option (Nat × V)→V
 | some (_,v)=>v.down
 | none=>zs
def mapOf (σ:List Ob):V→Option (List (V × V))
 | .c (.b (.map l))=>match σ[l]? with
  | some (.map es)=>some es
  | _=>none
 | .c (.b .nilm)=>some []
 | _=>none
def findKey (ks:List Nat) (key:V):List (V × V)→Nat→Option (Option (Nat × V))
 | [],_=>some none
 | (k,v) :: es,i=>match eqKey ks key k with
  | some true=>some (some (i,v))
  | some false=>findKey ks key es (i+1)
  | none=>none
def bsOf:List Opd→St→Option (List B)
 | [],_=>some []
 | x :: xs,s=>match s.rd x,bsOf xs s with
  | .c (.b .any),_=>none
  | .c (.b y),some ys=>some (y :: ys)
  | _,_=>none
def B.closed (n:Nat):B→Bool
 | .ptr l _=>decide (l < n)
 | .arr _ l _ _=>decide (l < n)
 | .map l=>decide (l < n)
 | _=>true
def C.closed (n:Nat):C→Bool
 | .b x=>x.closed n
 | .osl _ _=>true
 | .fn _ fst cap=>fst.all (B.closed n) && cap.all (B.closed n)
 | .nilf=>true
def V.closed1 (n:Nat):V→Bool
 | .c x=>x.closed n
 | .agg cs=>cs.all (C.closed n)
 | .tup _=>false
def V.closed (n:Nat):V→Bool
 | .tup vs=>vs.all (V.closed1 n)
 | v=>v.closed1 n
def optInt (s:St):Option Opd→Int→Option Int
 | none,d=>some d
 | some x,_=>intOf (s.rd x)
def farFrom (l:Nat) (v:V):Bool:=match v.down with
 | .c (.b (.ptr l' _))=>!Nat.beq l' l
 | _=>true
def stepOp (F:Oracle) (bd:Bd) (s:St):AOp→Option (V × St)
 | .mov .cp x=>some (s.rd x,s)
 | .mov .own x=>some (s.raw x,s.took x)
 | .mov .frz x=>match s.rd x with
  | .c (.b (.arr k l off len))=>match getCells s.σ l with
   | some cs=>match chunk k len (cs.drop off) with
    | some rows=>if bd.lo≤l then some (.c (.b (.d (.sl rows))),{ s with σ:=s.σ.set l .dead }) else none
    | none=>none
   | none=>none
  | .c (.b (.d (.sl rows)))=>some (.c (.b (.d (.sl rows))),s)
  | .c (.b .nils)=>some (.c (.b (.d (.sl []))),s)
  | _=>none
 | .mov .arr x=>match s.rd x with
  | .c (.b (.arr _ _ _ 0))=>some (.c (.b (.d (.sl []))),s)
  | .c (.b .nils)=>some (.c (.b (.d (.sl []))),s)
  | .c (.b .emp)=>some (.c (.b (.d (.sl []))),s)
  | .c (.b (.d (.sl [])))=>some (.c (.b (.d (.sl []))),s)
  | .c (.b (.arr k l off (n+1)))=>some (.c (.b (.arr k l off (n+1))),s)
  | _=>none
 | .pick c a b=>match s.rd c with
  | .c (.b (.d (.bool t)))=>some (bif t then s.rd a else s.rd b,s)
  | _=>none
 | .alloc zs=>some (.c (.b (.ptr s.σ.length 0)),{ s with σ:=s.σ ++ [.cells zs] })
 | .box x=>match (s.raw x).cells with
  | some cs=>some (.c (.b (.ptr s.σ.length 0)),{ s.took x with σ:=s.σ ++ [.cells cs] })
  | none=>none
 | .build zs parts=>match partsIn s parts zs with
  | some cs=>some (.agg cs,s)
  | none=>none
 | .bsl m k n zs parts=>match partsIn s (parts.map fun p=>(p.1 * k,k,p.2)) (rep n zs) with
  | some cs=>match m with
   | .own=>match chunk k n cs with
    | some rows=>some (.c (.osl k rows),s)
    | none=>none
   | .arr=>some (.c (.b (.arr k s.σ.length 0 n)),{ s with σ:=s.σ ++ [.cells cs] })
   | _=>none
  | none=>none
 | .ld .cp n x=>match s.rd x with
  | .c (.b (.ptr l off))=>match getCells s.σ l with
   | some cs=>match n with
    | none=>match cs[off]? with
     | some c=>some (.c c.down,s)
     | none=>none
    | some n=>if off+n≤cs.length then some (.agg (((cs.drop off).take n).map C.down),s) else none
   | none=>none
  | .c (.b (.rop row off))=>match n with
   | none=>match row[off]? with
    | some d=>some (.c (.b (.d d)),s)
    | none=>none
   | some n=>if off+n≤row.length then some (.agg (((row.drop off).take n).map fun d=>.b (.d d)),s) else none
  | _=>none
 | .ld .own none x=>match s.rd x with
  | .c (.b (.ptr l off))=>match getCells s.σ l with
   | some cs=>match cs[off]? with
    | some c=>if bd.lo≤l then some (.c c,{ s with σ:=s.σ.set l (.cells (cs.set off c.down)) }) else none
    | none=>none
   | none=>none
  | _=>none
 | .ld .frz none x=>match s.rd x with
  | .c (.b (.ptr l off))=>match getCells s.σ l with
   | some cs=>match cs[off]? with
    | some c=>match frzD (fun l=>(arrsOf s.σ 4 c).contains l) s.σ 4 c with
     | some d=>if (arrsOf s.σ 4 c).all (fun l=>decide (bd.lo≤l))=true then some (.c (.b (.d d)),{ s with σ:=killAll (arrsOf s.σ 4 c) s.σ }) else none
     | none=>none
    | none=>none
   | none=>none
  | _=>none
 | .ld .own (some n) x=>match s.rd x with
  | .c (.b (.ptr l 0))=>match getCells s.σ l with
   | some cs=>if (decide (bd.lo≤l) && Nat.beq cs.length n)=true then some (.agg cs,{ s with σ:=s.σ.set l (.cells (cs.map C.down)) }) else none
   | none=>none
  | _=>none
 | .ld .frz (some n) x=>match s.rd x with
  | .c (.b (.ptr l 0))=>match getCells s.σ l with
   | some cs=>match datasF (frzD (fun l=>(cs.flatMap (arrsOf s.σ 4)).contains l) s.σ 4) cs with
    | some ds=>if (cs.flatMap (arrsOf s.σ 4)).all (fun m=>decide (bd.lo≤m) && !Nat.beq m l) && (decide (bd.lo≤l) && Nat.beq cs.length n)=true then some (.agg (ds.map fun d=>.b (.d d)),{ s with σ:=(killAll (cs.flatMap (arrsOf s.σ 4)) s.σ).set l (.cells (ds.map fun d=>.b (.d d))) }) else none
    | none=>none
   | none=>none
  | _=>none
 | .ld .arr n x=>match s.rd x with
  | .c (.b (.rop row off))=>match n with
   | none=>match row[off]? with
    | some d=>some (.c (.b (.d d)),s)
    | none=>none
   | some n=>if off+n≤row.length then some (.agg (((row.drop off).take n).map fun d=>.b (.d d)),s) else none
  | _=>none
 | .st n a x=>match s.rd a,(s.raw x).cells with
  | .c (.b (.ptr l off)),some cs=>if cs.length=n then match getCells s.σ l with
    | some zs=>match putAt zs off cs with
     | some zs'=>if mayWrite bd l cs then some (.c (.b .any),{ s.took x with σ:=s.σ.set l (.cells zs') }) else none
     | none=>none
    | none=>none
   else none
  | _,_=>none
 | .bin op x y=>match binV op (s.rd x) (s.rd y) with
  | some d=>some (.c (.b (.d d)),s)
  | none=>none
 | .eq neg kd ks x y=>match eqV ks kd (s.rd x) (s.rd y) with
  | some r=>some (.c (.b (.d (.bool (bif neg then !r else r)))),s)
  | none=>none
 | .un op x=>match unV op (s.rd x) with
  | some d=>some (.c (.b (.d d)),s)
  | none=>none
 | .conv k x=>match s.rd x with
  | .c (.b (.d (.int _ n)))=>some (.c (.b (.d (.int k (k.wrap n)))),s)
  | _=>none
 | .fa off x=>match s.rd x with
  | .c (.b (.ptr l o))=>some (.c (.b (.ptr l (o+off))),s)
  | .c (.b (.rop row o))=>some (.c (.b (.rop row (o+off))),s)
  | _=>none
 | .fld off n x=>match s.rd x with
  | .agg cs=>match n with
   | none=>match cs[off]? with
    | some c=>some (.c c,s)
    | none=>none
   | some n=>if off+n≤cs.length then some (.agg ((cs.drop off).take n),s) else none
  | _=>none
 | .ia k x i=>match intOf (s.rd i) with
  | some i=>if 0≤i then match s.rd x with
    | .c (.b (.d (.sl rows)))=>match rows[i.toNat]? with
     | some row=>if row.length=k then some (.c (.b (.rop row 0)),s) else none
     | none=>none
    | .c (.b (.arr k' l off len))=>if k'=k∧i < len then some (.c (.b (.ptr l (off+i.toNat * k))),s) else none
    | _=>none
   else none
  | none=>none
 | .ixs x i=>match s.rd x,intOf (s.rd i) with
  | .c (.b (.d (.str t))),some i=>if 0≤i then match t[i.toNat]? with
    | some b=>some (.c (.b (.d (.int .u8 b.toNat))),s)
    | none=>none
   else none
  | _,_=>none
 | .slc m k x lo hi=>match optInt s lo 0 with
  | some l=>if 0≤l then match m with
    | .own=>match hi,s.raw x with
     | none,.c (.osl k' rows)=>if k'=k∧l≤rows.length then some (.c (.osl k (rows.drop l.toNat)),s.took x) else none
     | _,_=>none
    | .cp=>match s.rd x with
     | .c (.b (.d (.sl rows)))=>match optInt s hi rows.length with
      | some h=>if l≤h∧h≤rows.length∧rows.all (fun r=>r.length == k) then some (.c (.b (.d (.sl ((rows.take h.toNat).drop l.toNat)))),s) else none
      | none=>none
     | .c (.b (.arr k' r off len))=>match optInt s hi len with
      | some h=>if k'=k∧l≤h∧h≤len∧l < len then some (.c (.b (.arr k r (off+l.toNat * k) (h - l).toNat)),s) else none
      | none=>none
     | _=>none
    | _=>none
   else none
  | none=>none
 | .slcs x lo hi=>match s.rd x with
  | .c (.b (.d (.str t)))=>match optInt s lo 0,optInt s hi t.size with
   | some l,some h=>if 0≤l∧l≤h∧h≤t.size then some (.c (.b (.d (.str (t.extract l.toNat h.toNat)))),s) else none
   | _,_=>none
  | _=>none
 | .mks m k bytes zs len cap=>match intOf (s.rd len),intOf (s.rd cap) with
  | some n,some c=>if 0≤n∧n≤c∧c * bytes≤140737488355328∧c≤140737488355328∧zs.length=k then match m with
    | .own=>match chunk k n.toNat (rep n.toNat zs) with
     | some rows=>some (.c (.osl k rows),s)
     | none=>none
    | .arr=>some (.c (.b (.arr k s.σ.length 0 n.toNat)),{ s with σ:=s.σ ++ [.cells (rep n.toNat zs)] })
    | _=>none
   else none
  | _,_=>none
 | .exd i x=>match x with
  | .t n=>match s.env.get n with
   | .tup vs=>match vs[i]? with
    | some v=>some (v.down,s)
    | none=>none
   | _=>none
  | .k _=>none
 | .ext i x=>match s.raw x with
  | .tup vs=>match vs[i]? with
   | some v=>match x with
    | .t n=>some (v,{ s with env:=(n,.tup (vs.set i v.down)) :: s.env })
    | .k _=>none
   | none=>none
  | _=>none
 | .len kd x=>match kd,s.rd x with
  | 0,.c (.b (.d (.sl rows)))=>some (.c (.b (.d (.int .i64 rows.length))),s)
  | 0,.c (.b (.arr _ _ _ n))=>some (.c (.b (.d (.int .i64 n))),s)
  | 0,.c (.b .nils)=>some (.c (.b (.d (.int .i64 0))),s)
  | 0,.c (.b .emp)=>some (.c (.b (.d (.int .i64 0))),s)
  | 1,.c (.b (.d (.str t)))=>some (.c (.b (.d (.int .i64 t.size))),s)
  | 2,.c (.b (.map l))=>match s.σ[l]? with
   | some (.map es)=>some (.c (.b (.d (.int .i64 es.length))),s)
   | _=>none
  | 2,.c (.b .nilm)=>some (.c (.b (.d (.int .i64 0))),s)
  | _,_=>none
 | .app k bytes x y=>match rowsOf s.σ (s.rd y) with
  | some ys=>if ys.all (fun r=>r.length == k) then match s.raw x with
    | .c (.osl k' rows)=>if k'=k∧(rows.length+ys.length) * bytes≤70368744177664∧rows.length+ys.length≤70368744177664 then some (.c (.osl k (rows ++ ys)),s.took x) else none
    | _=>none
   else none
  | none=>none
 | .call f args=>match F f (args.map s.rd) s.σ bd.lo bd.tr with
  | some (v,σ)=>some (v,{ s with σ:=σ })
  | none=>none
 | .callp f args=>match F f (args.map s.rd) s.σ (max bd.lo s.σ.length) (max bd.tr s.σ.length) with
  | some (v,σ)=>if s.σ.length≤σ.length then some (v,{ s with σ:=σ }) else none
  | none=>none
 | .callb f args=>if (args.map s.rd).all (V.closed 0) then match F f (args.map s.rd) [] 0 0 with
   | some (v,_)=>if v.closed 0 then some (v,s) else none
   | none=>none
  else none
 | .bad=>none
 | .appa k bytes x y=>match elems s.σ k (s.rd y) with
  | some (n,ys)=>match s.rd x with
   | .c (.b .nils)=>if n * bytes≤70368744177664∧n≤70368744177664 then (if n=0 then some (.c (.b .nils),s) else some (.c (.b (.arr k s.σ.length 0 n)),{ s with σ:=s.σ ++ [.cells ys] })) else none
   | .c (.b (.arr k' l off len))=>match getCells s.σ l with
    | some cs=>if k'=k∧bd.lo≤l∧off+len * k≤cs.length∧(len+n) * bytes≤70368744177664∧len+n≤70368744177664 then
      some (.c (.b (.arr k s.σ.length 0 (len+n))),{ s with σ:=s.σ.set l .dead ++ [.cells (((cs.drop off).take (len * k)).map C.down ++ ys)] }) else none
    | none=>none
   | _=>none
  | none=>none
 | .cpy k x y=>match elems s.σ k (s.rd y) with
  | some (n,ys)=>match s.rd x with
   | .c (.b (.arr k' l off len))=>match getCells s.σ l with
    | some cs=>match putAt cs off (ys.take (min n len * k)) with
     | some cs'=>if k'=k∧mayWrite bd l (ys.take (min n len * k))=true then some (.c (.b (.d (.int .i64 (min n len:Nat)))),{ s with σ:=s.σ.set l (.cells cs') }) else none
     | none=>none
    | none=>none
   | _=>none
  | none=>none
 | .clr k zs x=>match s.rd x with
  | .c (.b (.arr k' l off len))=>match getCells s.σ l with
   | some cs=>match putAt cs off (rep len zs) with
    | some cs'=>if k'=k∧mayWrite bd l (rep len zs)=true∧zs.length=k∧¬ len=0 then some (.tup [],{ s with σ:=s.σ.set l (.cells cs') }) else none
    | none=>none
   | none=>none
  | _=>none
 | .mm mx x y=>match s.rd x,s.rd y with
  | .c (.b (.d (.int k a))),.c (.b (.d (.int k' b)))=>if k=k' then some (.c (.b (.d (.int k (bif mx then (if b > a then b else a) else (if b < a then b else a))))),s) else none
  | _,_=>none
 | .callv x args=>match s.rd x with
  | .c (.fn f fst cap)=>match F f (fst.map (fun b=>.c (.b b)) ++ args.map s.rd ++ cap.map (fun b=>.c (.b b))) s.σ bd.lo bd.tr with
   | some (v,σ)=>some (v,{ s with σ:=σ })
   | none=>none
  | _=>none
 | .mkf f fst cap=>match bsOf fst s,bsOf cap s with
  | some a,some b=>some (.c (.fn f a b),s)
  | _,_=>none
 | .mkm=>some (.c (.b (.map s.σ.length)),{ s with σ:=s.σ ++ [.map []] })
 | .lkp ks zs ok x key=>match mapOf s.σ (s.rd x) with
  | some es=>if keyShape ks (s.rd key)=true then match findKey ks (s.rd key) es 0 with
   | some r =>
    some (bif ok then .tup [got zs r,.c (.b (.d (.bool r.isSome)))] else got zs r,s)
   | none=>none
   else none
  | none=>none
 | .upd ks x key v=>match s.rd x,(s.rd key).cells,(s.rd v).cells with
  | .c (.b (.map l)),some kc,some cs=>match s.σ[l]? with
   | some (.map es)=>if mayWrite bd l (kc ++ cs) && kc.all C.plain && keyShape ks (s.rd key) then match findKey ks (s.rd key) es 0 with
     | some (some (i,_))=>some (.c (.b .any),{ s with σ:=s.σ.set l (.map (es.set i (s.rd key,s.rd v))) })
     | some none=>some (.c (.b .any),{ s with σ:=s.σ.set l (.map (es ++ [(s.rd key,s.rd v)])) })
     | none=>none
    else none
   | _=>none
  | _,_,_=>none
 | .lko ks k x key=>match s.rd x with
  | .c (.b (.map l))=>match s.σ[l]? with
   | some (.map es)=>if (keyShape ks (s.rd key) && decide (bd.lo≤l))=true then match findKey ks (s.rd key) es 0 with
     | some (some (i,v))=>match es[i]? with
      | some e=>match e.2 with
       | .c c=>some (.c c,{ s with σ:=s.σ.set l (.map (es.set i (e.1,.c c.down))) })
       | _=>none
      | none=>none
     | some none=>some (.c (.osl k []),s)
     | none=>none
    else none
   | _=>none
  | _=>none
 | .updo ks x key v=>match s.rd x,(s.rd key).cells,s.raw v with
  | .c (.b (.map l)),some kc,.c (.osl k rows)=>match s.σ[l]? with
   | some (.map es)=>if mayWrite bd l (kc ++ [.osl k rows]) && kc.all C.plain && keyShape ks (s.rd key) then match findKey ks (s.rd key) es 0 with
     | some (some (i,_))=>some (.c (.b .any),{ s.took v with σ:=s.σ.set l (.map (es.set i (s.rd key,.c (.osl k rows)))) })
     | some none=>some (.c (.b .any),{ s.took v with σ:=s.σ.set l (.map (es ++ [(s.rd key,.c (.osl k rows))])) })
     | none=>none
    else none
   | _=>none
  | _,_,_=>none
 | .ment ks x key=>match s.rd x,(s.rd key).cells with
  | .c (.b (.map l)),some kc=>match s.σ[l]? with
   | some (.map es)=>if mayWrite bd l kc && kc.all C.plain && keyShape ks (s.rd key) then match findKey ks (s.rd key) es 0 with
     | some (some (i,v))=>some (.tup [.c (.b .any),.c (.b (.d (.int .i64 i)))],{ s with σ:=s.σ.set l (.map (es.set i (s.rd key,v))) })
     | some none=>some (.tup [.c (.b .any),.c (.b (.d (.int .i64 es.length)))],{ s with σ:=s.σ.set l (.map (es ++ [(s.rd key,.c (.b .any))])) })
     | none=>none
    else none
   | _=>none
  | _,_=>none
 | .estr x st v=>match s.rd x,s.rd st,(s.rd v).cells with
  | .c (.b (.map l)),.c (.b (.d (.int .i64 n))),some cs=>match s.σ[l]? with
   | some (.map es)=>if mayWrite bd l cs && decide (0≤n) then match es[n.toNat]? with
     | some e=>some (.c (.b .any),{ s with σ:=s.σ.set l (.map (es.set n.toNat (e.1,s.rd v))) })
     | none=>none
    else none
   | _=>none
  | _,_,_=>none
 | .nilc x=>match s.rd x with
  | .c (.b (.ptr l o))=>some (.c (.b (.ptr l o)),s)
  | .c (.b (.rop row o))=>some (.c (.b (.rop row o)),s)
  | _=>none
 | .stl n a x rs=>match s.rd a,(s.raw x).cells with
  | .c (.b (.ptr l 0)),some cs=>match getCells s.σ l with
   | some zs=>if cs.length=n∧zs.length=n∧mayWrite bd l cs=true∧(rs.all fun t=>farFrom l (s.env.get t))=true then some (.c (.b .any),{ s.took x with σ:=s.σ.set l (.cells cs) }) else none
   | none=>none
  | _,_=>none
 | .ldn n x u=>match s.rd x,s.rd u with
  | .c (.b (.ptr l off)),.c (.b (.ptr l' _))=>if l=l' then match getCells s.σ l with
    | some cs=>match n with
     | none=>match cs[off]? with
      | some c=>some (.c c.down,s)
      | none=>none
     | some n=>if off+n≤cs.length then some (.agg (((cs.drop off).take n).map C.down),s) else none
    | none=>none
   else none
  | _,_=>none
 | .appl k bytes x y rs=>match elems s.σ k (s.rd y) with
  | some (n,ys)=>match s.rd x with
   | .c (.b .nils)=>if n * bytes≤70368744177664∧n≤70368744177664 then (if n=0 then some (.c (.b .nils),s) else some (.c (.b (.arr k s.σ.length 0 n)),{ s with σ:=s.σ ++ [.cells ys] })) else none
   | .c (.b (.arr k' l off len))=>match getCells s.σ l with
    | some cs=>if k'=k∧bd.lo≤l∧off+len * k≤cs.length∧(len+n) * bytes≤70368744177664∧len+n≤70368744177664∧(rs.all fun t=>farFrom l (s.env.get t))=true then
      some (.c (.b (.arr k s.σ.length 0 (len+n))),{ s with σ:=s.σ.set l .dead ++ [.cells (((cs.drop off).take (len * k)).map C.down ++ ys)] }) else none
    | none=>none
   | _=>none
  | none=>none
 | .appn k bytes x y=>match s.rd x,s.rd y with
  | .c (.b .nils),.c (.b (.d (.sl ys)))=>if ys.all (fun r=>r.length == k) && (decide (ys.length * bytes≤70368744177664) && decide (ys.length≤70368744177664)) then some (.c (.osl k ys),s) else none
  | _,_=>none
 | .ga g k x=>match gcells g,intOf (s.rd x) with
  | some row,some i=>if 0≤i∧(i.toNat+1) * k≤row.length then some (.c (.b (.rop row (i.toNat * k))),s) else none
  | _,_=>none
def stepIns (F:Oracle) (bd:Bd) (s:St) (i:AIns):Option St :=
 match i.guard with
 | none=>match stepOp F bd s i.op with
  | some (v,s')=>some (s'.set i.dst v)
  | none=>none
 | some (g,want)=>match s.env.get g with
  | .c (.b (.d (.bool t)))=>bif t == want then (match stepOp F bd s i.op with
    | some (v,s')=>some (s'.set i.dst v)
    | none=>none) else some (s.set i.dst (.tup []))
  | .tup _=>some (s.set i.dst (.tup []))
  | _=>none
def stepAll (F:Oracle) (bd:Bd):St→List AIns→Option St
 | s,[]=>some s
 | s,i :: is=>match stepIns F bd s i with
  | some s'=>stepAll F bd s' is
  | none=>none
def Ob.closed (n:Nat):Ob→Bool
 | .cells cs=>cs.all (C.closed n)
 | .map es=>es.all fun e=>e.1.closed1 n && e.2.closed1 n
 | .dead=>true
 | .blank _=>true
def keptAt (nrm ret:List Nat) (exs:List (Nat × List Nat)):AExit→Env→Env
 | .normal,e=>e.keep nrm
 | .ret,e=>e.keep ret
 | .exit i,e=>match exs.find? (fun p=>Nat.beq p.1 i) with
  | some p=>e.keep p.2
  | none=>e
def wrapEnd (cut:Bool) (nrm ret:List Nat) (exs:List (Nat × List Nat)) (m:Nat) (e:AExit) (s:St):Option (AExit × St) :=
 let env:=keptAt nrm ret exs e s.env
 bif cut then (if Nat.ble m s.σ.length && (env.all (fun p=>p.2.closed m) && (s.σ.take m).all (Ob.closed m)) then some (e,⟨env,s.σ.take m⟩) else none) else some (e,⟨env,s.σ⟩)
def rowV (agg:Bool) (row:List D):V:=bif agg then .agg (row.map fun d=>.b (.d d)) else match row with
 | [d]=>.c (.b (.d d))
 | _=>.c (.b .any)
def downE:Env→Env
 | []=>[]
 | (t,v) :: e=>(t,v.down) :: downE e
def backR (E:ACode→St→Option (AExit × St)) (ti tx:Nat) (agg:Bool) (asg body:ACode) (env:Env):List (List D)→List Ob→Option (List Ob)
 | [],σ=>some σ
 | row :: rest,σ=>match E asg ⟨(tx,rowV agg row) :: (ti,.c (.b (.d (.int .i64 rest.length)))) :: env,σ⟩ with
  | some (.normal,s1)=>match E body s1 with
   | some (.normal,s2)=>backR E ti tx agg asg body env rest s2.σ
   | _=>none
  | _=>none
def rngGo (bd:Bd) (f k:Nat) (agg:Bool) (x:Opd) (s:St):Option (List (List D) × List Ob) :=
 match s.rd x with
 | .c (.fn f' [] [.ptr q 0])=>match getCells s.σ q with
  | some [.b (.d (.sl rows))]=>if fnOf f'=fnOf f∧bd.lo≤q∧(rows.all fun r=>r.length == k)=true∧(agg=false→k=1)∧rows.length≤140737488355328 then some (rows.reverse,s.σ.set q .dead) else none
  | _=>none
 | _=>none
def ev (F:Oracle) (bd:Bd):Nat→ACode→St→Option (AExit × St)
 | 0,_,_=>none
 | _+1,.skip,s=>some (.normal,s)
 | _+1,.region _ ops keep,s=>match stepAll F bd s ops with
  | some s'=>some (.normal,{ s' with env:=s'.env.keep keep })
  | none=>none
 | n+1,.seq a b,s=>match ev F bd n a s with
  | some (.normal,s')=>ev F bd n b s'
  | r=>r
 | n+1,.cond x a b,s=>match s.rd x with
  | .c (.b (.d (.bool t)))=>bif t then ev F bd n a s else ev F bd n b s
  | _=>none
 | n+1,.block id c,s=>match ev F bd n c s with
  | some (.exit i,s')=>if i=id then some (.normal,s') else some (.exit i,s')
  | r=>r
 | n+1,.loop c,s=>match ev F bd n c s with
  | some (.normal,s')=>ev F bd n (.loop c) s'
  | r=>r
 | _+1,.exit id,s=>some (.exit id,s)
 | _+1,.ret,s=>some (.ret,s)
 | n+1,.wrap cut nrm ret exs c,s=>match ev F bd n c s with
  | some (e,s')=>wrapEnd cut nrm ret exs s.σ.length e s'
  | none=>none
 | n+1,.rng f x ti tx k agg asg body,s=>match rngGo bd f k agg x s with
  | some (rows,σ)=>match backR (ev F bd n) ti tx agg asg body (downE s.env) rows σ with
   | some σ'=>some (.normal,⟨s.env,σ'⟩)
   | none=>none
  | none=>none
def params:Nat→List V→Option Env
 | _,[]=>some []
 | i,v :: vs=>match params (i+1) vs with
  | some e=>some ((i,v) :: e)
  | none=>none
def resOne (s:St) (n:Nat):ARes→Option V
 | .tmp t=>some (s.env.get t)
 | .cell t m=>match s.env.get t with
  | .c (.b (.ptr l off))=>match getCells s.σ l with
   | some cs=>match m with
    | none=>match cs[off]? with
     | some c=>some (.c (if n≤l then c else c.down))
     | none=>none
    | some m=>if off+m≤cs.length then some (.agg (if n≤l then (cs.drop off).take m else ((cs.drop off).take m).map C.down)) else none
   | none=>none
  | _=>none
def resAll (s:St):List ARes→Option (List V)
 | []=>some []
 | r :: rs=>match resOne s s.σ.length r,resAll s rs with
  | some v,some vs=>some (v.down :: vs)
  | _,_=>none
def resOf (s:St) (n:Nat):List ARes→Option V
 | [r]=>resOne s n r
 | rs=>match resAll s rs with
  | some vs=>some (.tup vs)
  | none=>none
def core (F:Oracle) (n:Nat) (kp:Kp) (fn:AFun) (args:List V) (σ:List Ob) (lo tr:Nat):Option (V × List Ob) :=
 if args.length=fn.params then match params 0 args with
  | none=>none
  | some env =>
   let bd:Bd:=match kp with
    | .pure=>⟨max lo σ.length,max tr σ.length⟩
    | .trim=>⟨lo,max tr σ.length⟩
    | .free=>⟨lo,tr⟩
   match ev F bd n fn.body ⟨env,σ⟩ with
   | some (.exit _,_)=>none
   | some (_,s)=>match kp with
    | .free=>match resOf s s.σ.length fn.results with
     | some v=>some (v,s.σ)
     | none=>none
    | _=>match resOf s σ.length fn.results with
     | some v=>match frzV (fun l=>decide (σ.length≤l)) s.σ v with
      | some v=>if v.closed σ.length then some (v,s.σ.take σ.length) else none
      | none=>none
     | none=>none
   | none=>none
 else none
def V.same:V→V→Bool
 | .c (.b (.d (.bool a))),.c (.b (.d (.bool b)))=>a == b
 | .c (.b (.d (.int k a))),.c (.b (.d (.int k' b)))=>decide (k=k') && decide (a=b)
 | .c (.osl k []),.c (.osl k' [])=>decide (k=k')
 | .c (.b (.d (.sl []))),.c (.b (.d (.sl [])))=>true
 | .c (.b .nils),.c (.b .nils)=>true
 | _,_=>false
theorem V.same_eq {a b:V} (h:a.same b=true):a=b:=by
 unfold V.same at h
 split at h<;>simp_all
def isEmp:List V→Bool
 | [.c (.b (.d (.sl [])))]=>true
 | _=>false
def base (F:Oracle) (n:Nat) (fn:AFun) (args:List V) (σ:List Ob) (lo tr:Nat):Option (V × List Ob) :=
 bif fn.split && isEmp args then (match core F n .pure fn [.c (.b .nils)] σ lo tr,core F n .pure fn [.c (.b .emp)] σ lo tr with
  | some (v1,σ1),some (v2,_)=>if v1.same v2 then some (v1,σ1) else none
  | _,_=>none)
 else core F n fn.kp fn args σ lo tr
def Kp.isPure:Kp→Bool
 | .pure=>true
 | _=>false
def blindOk (fn:AFun) (args:List V):Bool:=fn.kp.isPure && args.all (V.closed 0)
def onceRun (F:Oracle) (args:List V) (σ:List Ob) (lo tr:Nat):Option (V × List Ob):=match args with
 | [.c (.b (.ptr l off)),.c (.fn g fst cap)]=>match getCells σ l with
  | some cs=>match cs[off]? with
   | some (.b (.d (.int .u32 d)))=>if d=0 then (match cs[off+1]? with
    | some (.b (.d (.int .i32 0)))=>if lo≤l then (match F g (fst.map (fun b=>.c (.b b)) ++ cap.map (fun b=>.c (.b b))) (σ.set l (.cells (cs.set (off+1) (.b (.d (.int .i32 1)))))) lo tr with
     | some (.tup [],σ1)=>match getCells σ1 l with
      | some cs1=>match cs1[off]?,cs1[off+1]? with
       | some (.b (.d (.int .u32 0))),some (.b (.d (.int .i32 1)))=>some (.tup [],σ1.set l (.cells ((cs1.set off (.b (.d (.int .u32 1)))).set (off+1) (.b (.d (.int .i32 0))))))
       | _,_=>none
      | none=>none
     | _=>none) else none
    | _=>none) else some (.tup [],σ)
   | _=>none
  | none=>none
 | _=>none
def evf (fns:Nat→Option AFun):Nat→Oracle
 | 0,_,_,_,_,_=>none
 | n+1,f,args,σ,lo,tr=>match fns f with
  | none=>none
  | some fn=>bif fn.once then onceRun (evf fns n) args σ lo tr else bif blindOk fn args then (match base (evf fns n) n fn args [] 0 0 with
    | some (v,_)=>if v.closed 0 then some (v,σ) else none
    | none=>none)
   else base (evf fns n) n fn args σ lo tr
inductive Root where
 | tmp (t:Nat)
 | cell (l:Nat)
 deriving DecidableEq
abbrev Place:=Root × List Nat
inductive Bk where
 | free
 | frozen
 | grow (n:Nat)
 | obj (l:Nat)
structure G where
 loc:List (Nat × Nat)
 kind:Nat→Bk
 own:Nat→Option Place
def G.st (g:G) (w:World) (a:Addr) (v:Value):Prop :=
 a.spot=none∧w.cell? a=some v∧(g.kind a.block=.frozen∨∃ n,g.kind a.block=.grow n∧a.off < n)
inductive RepD (st:Addr→Value→Prop):D→Value→Prop where
 | bool (b:Bool):RepD st (.bool b) (.bool b)
 | int (k:IntKind) (n:Int):RepD st (.int k n) (.int k n)
 | str (s:ByteArray):RepD st (.str s) (.string s)
 | nil:RepD st (.sl []) (.slice none 0 0)
 | sl (rows:List (List D)) (a:Addr) (k cap:Nat) (vs:Nat→Nat→Value) (h1:rows≠[]→a.spot=none) (h2:rows.length≤cap)
   (h3:∀ r ∈ rows,r.length=k)
   (h4:∀ i row j d,rows[i]?=some row→row[j]?=some d→st ⟨a.block,a.off+i * k+j,none⟩ (vs i j))
   (h5:∀ i row j d,rows[i]?=some row→row[j]?=some d→RepD st d (vs i j)):RepD st (.sl rows) (.slice (some a) rows.length cap)
theorem RepD.mono {st st':Addr→Value→Prop} (h:∀ a v,st a v→st' a v) {d:D} {v:Value} (r:RepD st d v):RepD st' d v:=by
 induction r with
 | bool b=>exact .bool b
 | int k n=>exact .int k n
 | str s=>exact .str s
 | nil=>exact .nil
 | sl rows a k cap vs h1 h2 h3 h4 h5 ih=>exact .sl rows a k cap vs h1 h2 h3 (fun i row j d hi hj=>h _ _ (h4 i row j d hi hj)) ih
theorem one_cells {v:Value} (h:v.oneCell'=true):v.cells = #[v]:=by cases v<;>first | rfl | cases h
theorem RepD.scalar {st:Addr→Value→Prop} {d:D} {v:Value} (r:RepD st d v):v.oneCell'=true:=by cases r<;>rfl
def RepB (g:G) (w:World):B→Value→Prop
 | .d x,v=>RepD (g.st w) x v
 | .ptr l off,v=>∃ b o,g.loc[l]?=some (b,o)∧v=.pointer (some ⟨b,o+off,none⟩)
 | .nilp,v=>v=.pointer none
 | .rop row off,v=>∃ (b o:Nat) (vs:Nat→Value),v=.pointer (some ⟨b,o+off,none⟩)∧∀ j d,row[j]?=some d→g.st w ⟨b,o+j,none⟩ (vs j)∧RepD (g.st w) d (vs j)
 | .arr k l off len,v=>∃ b o cap arr ty,g.loc[l]?=some (b,o)∧v=.slice (some ⟨b,o+off,none⟩) len cap∧len≤cap∧w.heap[b]?=some (.cells arr ty (0,0))∧o+off+cap * k≤arr.size
 | .map l,v=>∃ b o,g.loc[l]?=some (b,o)∧v=.map (some b)
 | .nilm,v=>v=.map none
 | .nils,v=>v=.slice none 0 0
 | .emp,v=>∃ a cap,v=.slice (some a) 0 cap
 | .any,_=>True
def RepC (g:G) (w:World) (Pr:Nat→Prop) (p:Place):C→Value→Prop
 | .b x,v=>RepB g w x v
 | .osl k rows,v=>RepD (g.st w) (.sl rows) v∧(∀ r ∈ rows,r.length=k)∧(v=.slice none 0 0∨∃ a cap,v=.slice (some a) rows.length cap ∧
   (cap=rows.length∨(a.spot=none∧rows.length≤cap∧g.kind a.block=.grow (a.off+rows.length * k)∧g.own a.block=some p∧¬ Pr a.block ∧
    ∃ arr ty,w.heap[a.block]?=some (.cells arr ty (0,0))∧a.off+cap * k≤arr.size)))
 | .fn f fst cap,v=>∃ xs ys:Array Value,v=.func (.func (fnOf f)) xs ys∧xs.size=fst.length∧ys.size=cap.length ∧
   (∀ (i:Nat) (b:B),fst[i]?=some b→∃ u,xs[i]?=some u∧b≠.any∧RepB g w b u)∧(∀ (i:Nat) (b:B),cap[i]?=some b→∃ u,ys[i]?=some u∧b≠.any∧RepB g w b u)
 | .nilf,v=>v=.nilFunc
def RepV1 (g:G) (w:World) (Pr:Nat→Prop) (r:Root) (path:List Nat):V→Value→Prop
 | .c x,v=>RepC g w Pr (r,path) x v
 | .agg cs,v=>∃ arr:Array Value,v=.agg arr∧arr.size=cs.length∧∀ i c,cs[i]?=some c→∃ u,arr[i]?=some u∧u.oneCell'=true∧RepC g w Pr (r,path ++ [i]) c u
 | .tup _,_=>False
def RepV (g:G) (w:World) (Pr:Nat→Prop) (r:Root):V→Value→Prop
 | .tup vs,v=>∃ arr:Array Value,v=.tuple arr∧∀ i x,vs[i]?=some x→∃ u,arr[i]?=some u∧RepV1 g w Pr r [i] x u
 | x,v=>RepV1 g w Pr r [] x v
def Born (ms:Array MapEntry) (clock:Nat):Prop:=clock=ms.size∧∀ (i:Nat) (m:MapEntry),ms[i]?=some m→m.born=i
theorem Born.nil:Born #[] 0:=⟨rfl,by simp⟩
theorem Born.modify {ms:Array MapEntry} {clock:Nat} (h:Born ms clock) (i:Nat) (f:MapEntry→MapEntry) (hf:∀ e,(f e).born=e.born):Born (ms.modify i f) clock:=by
 refine ⟨by simpa using h.1,fun j m hj=>?_⟩
 rw [Array.getElem?_modify] at hj
 split at hj
 ·cases he:ms[j]? with
  | none=>rw [he] at hj;cases hj
  | some e =>
   rw [he] at hj
   simp only [Option.map_some,Option.some.injEq] at hj
   subst hj
   rw [hf];exact h.2 _ _ he
 ·exact h.2 _ _ hj
theorem Born.push {ms:Array MapEntry} {clock:Nat} (h:Born ms clock) (key val:Value):Born (ms.push { key,val,born:=clock }) (clock+1):=by
 refine ⟨by simpa using h.1,fun j m hj=>?_⟩
 rw [Array.getElem?_push] at hj
 split at hj
 ·cases hj;subst_vars;exact h.1
 ·exact h.2 _ _ hj
def RepOb (g:G) (w:World) (Pr:Nat→Prop) (l:Nat):Ob→Prop
 | .cells cs=>∃ b o arr ty,g.loc[l]?=some (b,o)∧g.kind b=.obj l∧w.heap[b]?=some (.cells arr ty (0,0))∧o+cs.length≤arr.size ∧
   ∀ i c,cs[i]?=some c→∃ u,arr[o+i]?=some u∧u.oneCell'=true∧RepC g w Pr (.cell l,[i]) c u
 | .map es=>∃ b o mes clock,g.loc[l]?=some (b,o)∧g.kind b=.obj l∧w.heap[b]?=some (.map mes clock)∧mes.size=es.length∧Born mes clock ∧
   ∀ i k v,es[i]?=some (k,v)→∃ m,mes[i]?=some m∧RepV1 g w Pr (.cell l) [i,0] k m.key∧RepV1 g w Pr (.cell l) [i,1] v m.val
 | .dead=>True
 | .blank n=>∃ b o arr ty,g.loc[l]?=some (b,o)∧g.kind b=.obj l∧w.heap[b]?=some (.cells arr ty (0,0))∧o+n≤arr.size
def GlobOk (st:Addr→Value→Prop):Prop:=∀ p ∈ gtab,∃ vs:Nat→Value,∀ j d,p.2[j]?=some d→st ⟨p.1,j,none⟩ (vs j)∧RepD st d (vs j)
theorem GlobOk.mono {st st':Addr→Value→Prop} (h:∀ a v,st a v→st' a v) (hg:GlobOk st):GlobOk st':=fun p hp=>by
 obtain ⟨vs,h1⟩:=hg p hp
 exact ⟨vs,fun j d hj=>⟨h _ _ (h1 j d hj).1,RepD.mono h (h1 j d hj).2⟩⟩
structure Inv (g:G) (w:World) (Pr:Nat→Prop) (σ:List Ob):Prop where
 len:g.loc.length=σ.length
 ob:∀ l o,σ[l]?=some o→RepOb g w Pr l o
 lt:∀ b,g.kind b≠.free→b < w.heap.size
 pr:∀ b,Pr b→b < w.heap.size∧(∀ l,g.kind b≠.obj l)∧∀ l i,g.own b≠some (.cell l,i)
 gl:GlobOk (g.st w)
structure Ext (g:G) (w:World) (g':G) (w':World):Prop where
 st:∀ a v,g.st w a v→g'.st w' a v
 loc:∀ (l:Nat) x,g.loc[l]?=some x→g'.loc[l]?=some x
 size:w.heap.size≤w'.heap.size
 shape:∀ (b:Nat) (arr:Array Value) (ty:TypeId) (fz:Nat × Nat),w.heap[b]?=some (.cells arr ty fz)→∃ arr':Array Value,w'.heap[b]?=some (.cells arr' ty fz)∧arr'.size=arr.size
 os:w'.os=w.os
 tape:w'.tape=w.tape
 output:w'.output=w.output
theorem Ext.refl (g:G) (w:World):Ext g w g w:=⟨fun _ _ h=>h,fun _ _ h=>h,Nat.le_refl _,fun _ arr _ _ h=>⟨arr,h,rfl⟩,rfl,rfl,rfl⟩
theorem Ext.trans {g g1 g2:G} {w w1 w2:World} (h:Ext g w g1 w1) (k:Ext g1 w1 g2 w2):Ext g w g2 w2 where
 st a v x:=k.st a v (h.st a v x)
 loc l x y:=k.loc l x (h.loc l x y)
 size:=Nat.le_trans h.size k.size
 shape b arr ty fz x:=by
  obtain ⟨a1,y1,z1⟩:=h.shape b arr ty fz x
  obtain ⟨a2,y2,z2⟩:=k.shape b a1 ty fz y1
  exact ⟨a2,y2,z2.trans z1⟩
 os:=k.os.trans h.os
 tape:=k.tape.trans h.tape
 output:=k.output.trans h.output
def Fr (Pr:Nat→Prop) (g:G) (w:World) (g':G) (w':World):Prop :=
 ∀ (b:Nat),Pr b→w'.heap[b]?=w.heap[b]?∧g'.kind b=g.kind b∧g'.own b=g.own b
theorem Fr.refl (Pr:Nat→Prop) (g:G) (w:World):Fr Pr g w g w:=fun _ _=>⟨rfl,rfl,rfl⟩
theorem Fr.trans {Pr:Nat→Prop} {g g1 g2:G} {w w1 w2:World} (h:Fr Pr g w g1 w1) (k:Fr Pr g1 w1 g2 w2):Fr Pr g w g2 w2 :=
 fun b hb=>let ⟨a1,a2,a3⟩:=h b hb;let ⟨b1,b2,b3⟩:=k b hb;⟨b1.trans a1,b2.trans a2,b3.trans a3⟩
def Keep (g:G) (g':G) (p:Place):Prop:=∀ b n,g.own b=some p→g.kind b=.grow n→g'.own b=some p∧g'.kind b=.grow n
theorem Keep.refl (g:G) (p:Place):Keep g g p:=fun _ _ h k=>⟨h,k⟩
section
variable {g g':G} {w w':World} {Pr:Nat→Prop}
theorem RepB.ext (e:Ext g w g' w') {x:B} {v:Value} (h:RepB g w x v):RepB g' w' x v:=by
 cases x with
 | d x=>exact RepD.mono e.st h
 | ptr l off=>obtain ⟨b,o,h1,h2⟩:=h;exact ⟨b,o,e.loc _ _ h1,h2⟩
 | nilp=>exact h
 | rop row off =>
  obtain ⟨b,o,vs,h1,h2⟩:=h
  exact ⟨b,o,vs,h1,fun j d hj=>⟨e.st _ _ (h2 j d hj).1,RepD.mono e.st (h2 j d hj).2⟩⟩
 | arr k l off len =>
  obtain ⟨b,o,cap,arr,ty,h1,h2,h3,h4,h5⟩:=h
  obtain ⟨arr',h6,h7⟩:=e.shape _ _ _ _ h4
  exact ⟨b,o,cap,arr',ty,e.loc _ _ h1,h2,h3,h6,by omega⟩
 | map l=>obtain ⟨b,o,h1,h2⟩:=h;exact ⟨b,o,e.loc _ _ h1,h2⟩
 | nilm=>exact h
 | nils=>exact h
 | emp=>exact h
 | any=>trivial
theorem RepC.ext (e:Ext g w g' w') {p:Place} (kp:Keep g g' p) {x:C} {v:Value} (h:RepC g w Pr p x v):RepC g' w' Pr p x v:=by
 cases x with
 | b x=>exact RepB.ext e h
 | osl k rows =>
  obtain ⟨h1,h2,h3⟩:=h
  refine ⟨RepD.mono e.st h1,h2,h3.imp id ?_⟩
  rintro ⟨a,cap,h4,h5⟩
  refine ⟨a,cap,h4,h5.imp id ?_⟩
  rintro ⟨s1,s2,s3,s4,s5,arr,ty,s6,s7⟩
  obtain ⟨arr',t1,t2⟩:=e.shape _ _ _ _ s6
  exact ⟨s1,s2,(kp _ _ s4 s3).2,(kp _ _ s4 s3).1,s5,arr',ty,t1,by omega⟩
 | fn f fst cap =>
  obtain ⟨xs,ys,h1,h2,h3,h4,h5⟩:=h
  refine ⟨xs,ys,h1,h2,h3,fun i b hi=>?_,fun i b hi=>?_⟩
  ·obtain ⟨u,k1,k2,k3⟩:=h4 i b hi;exact ⟨u,k1,k2,RepB.ext e k3⟩
  ·obtain ⟨u,k1,k2,k3⟩:=h5 i b hi;exact ⟨u,k1,k2,RepB.ext e k3⟩
 | nilf=>exact h
theorem RepV1.ext (e:Ext g w g' w') {r:Root} {path:List Nat} (kp:∀ i,Keep g g' (r,i)) {x:V} {v:Value} (h:RepV1 g w Pr r path x v):RepV1 g' w' Pr r path x v:=by
 cases x with
 | c x=>exact RepC.ext e (kp _) h
 | agg cs =>
  obtain ⟨arr,h1,h2,h3⟩:=h
  refine ⟨arr,h1,h2,fun i c hi=>?_⟩
  obtain ⟨u,k1,k2,k3⟩:=h3 i c hi
  exact ⟨u,k1,k2,RepC.ext e (kp _) k3⟩
 | tup vs=>exact h
theorem RepV.ext (e:Ext g w g' w') {r:Root} (kp:∀ i,Keep g g' (r,i)) {x:V} {v:Value} (h:RepV g w Pr r x v):RepV g' w' Pr r x v:=by
 cases x with
 | c x=>exact RepV1.ext (x:=.c x) (path:=[]) e kp h
 | agg cs=>exact RepV1.ext (x:=.agg cs) (path:=[]) e kp h
 | tup vs =>
  obtain ⟨arr,h1,h2⟩:=h
  refine ⟨arr,h1,fun i x hi=>?_⟩
  obtain ⟨u,k1,k2⟩:=h2 i x hi
  exact ⟨u,k1,RepV1.ext e kp k2⟩
theorem RepC.down {p q:Place} {x:C} {v:Value} (h:RepC g w Pr p x v):RepC g w Pr q x.down v:=by
 cases x with
 | b x=>exact h
 | osl k rows=>exact h.1
 | fn f fst cap=>exact h
 | nilf=>exact h
theorem RepV.down {r r':Root} {x:V} {v:Value} (h:RepV g w Pr r x v):RepV g w Pr r' x.down v:=by
 cases x with
 | c x=>exact RepC.down (p:=(r,[])) h
 | agg cs =>
  obtain ⟨arr,h1,h2,h3⟩:=h
  refine ⟨arr,h1,by simpa using h2,fun i c hi=>?_⟩
  simp only [List.getElem?_map,Option.map_eq_some_iff] at hi
  obtain ⟨c0,hc,rfl⟩:=hi
  obtain ⟨u,k1,k2,k3⟩:=h3 i c0 hc
  exact ⟨u,k1,k2,RepC.down k3⟩
 | tup vs=>trivial
theorem RepV1.down {r r':Root} {path path':List Nat} {x:V} {v:Value} (h:RepV1 g w Pr r path x v):RepV1 g w Pr r' path' x.down v:=by
 cases x with
 | c x=>exact RepC.down (p:=(r,path)) h
 | agg cs =>
  obtain ⟨arr,h1,h2,h3⟩:=h
  refine ⟨arr,h1,by simpa using h2,fun i c hi=>?_⟩
  simp only [List.getElem?_map,Option.map_eq_some_iff] at hi
  obtain ⟨c0,hc,rfl⟩:=hi
  obtain ⟨u,k1,k2,k3⟩:=h3 i c0 hc
  exact ⟨u,k1,k2,RepC.down k3⟩
 | tup vs=>exact h.elim
theorem RepB.scalar {x:B} {v:Value} (h:RepB g w x v) (hx:x≠.any):v.oneCell'=true:=by
 cases x with
 | d x=>exact RepD.scalar h
 | ptr l off=>obtain ⟨b,o,h1,rfl⟩:=h;rfl
 | nilp=>cases h;rfl
 | rop row off=>obtain ⟨b,o,vs,rfl,_⟩:=h;rfl
 | arr k l off len=>obtain ⟨b,o,cap,arr,ty,h1,rfl,_⟩:=h;rfl
 | map l=>obtain ⟨b,o,h1,rfl⟩:=h;rfl
 | nilm=>cases h;rfl
 | nils=>cases h;rfl
 | emp=>obtain ⟨a,cap,rfl⟩:=h;rfl
 | any=>exact absurd rfl hx
theorem RepC.scalar {p:Place} {x:C} {v:Value} (h:RepC g w Pr p x v) (hx:x≠.b .any):v.oneCell'=true:=by
 cases x with
 | b x=>exact RepB.scalar h (fun e=>hx (by rw [e]))
 | osl k rows=>exact RepD.scalar h.1
 | fn f fst cap=>obtain ⟨xs,ys,rfl,_⟩:=h;rfl
 | nilf=>cases h;rfl
theorem RepV.cells {r:Root} {x:V} {v:Value} {cs:List C} (h:RepV g w Pr r x v) (hc:x.cells=some cs) :
  v.cells.size=cs.length∧∀ (i:Nat) (c:C),cs[i]?=some c→∃ u,v.cells[i]?=some u∧u.oneCell'=true∧∃ path,RepC g w Pr (r,path) c u:=by
 cases x with
 | c x =>
  have hne:x≠.b .any:=by rintro rfl;simp [V.cells] at hc
  have hcs:cs=[x]:=by
   cases x with
   | b y=>cases y<;>simp_all [V.cells]
   | osl k rows=>simpa [V.cells] using hc.symm
   | fn f a b=>simpa [V.cells] using hc.symm
   | nilf=>simpa [V.cells] using hc.symm
  subst hcs
  have hs:=RepC.scalar (p:=(r,[])) h hne
  rw [one_cells hs]
  refine ⟨rfl,fun i c hi=>?_⟩
  cases i with
  | zero=>simp at hi;subst hi;exact ⟨v,rfl,hs,[],h⟩
  | succ i=>simp at hi
 | agg cs' =>
  simp only [V.cells,Option.some.injEq] at hc
  subst hc
  obtain ⟨arr,rfl,h2,h3⟩:=h
  refine ⟨by simpa [Value.cells] using h2,fun i c hi=>?_⟩
  obtain ⟨u,k1,k2,k3⟩:=h3 i c hi
  exact ⟨u,k1,k2,_,k3⟩
 | tup vs=>simp [V.cells] at hc
end
open Classical in
noncomputable def G.ren (g:G) (Pr:Nat→Prop) (φ:Place→Place):G :=
 { g with own:=fun b=>if Pr b then g.own b else (g.own b).map φ }
section
variable {P:Program} {g g':G} {w w':World} {Pr:Nat→Prop} {s s':St} {a:Act}
theorem RepB.ren (φ:Place→Place) {x:B} {v:Value} (h:RepB g w x v):RepB (g.ren Pr φ) w x v:=by cases x<;>exact h
theorem RepC.ren (φ:Place→Place) {p q:Place} (hq:φ p=q) {x:C} {v:Value} (h:RepC g w Pr p x v):RepC (g.ren Pr φ) w Pr q x v:=by
 cases x with
 | b x=>exact RepB.ren φ h
 | osl k rows =>
  obtain ⟨h1,h2,h3⟩:=h
  refine ⟨h1,h2,h3.imp id ?_⟩
  rintro ⟨a,cap,h4,h5⟩
  refine ⟨a,cap,h4,h5.imp id ?_⟩
  rintro ⟨s1,s2,s3,s4,s5,s6⟩
  exact ⟨s1,s2,s3,by simp [G.ren,s5,s4,hq],s5,s6⟩
 | fn f fst cap =>
  obtain ⟨xs,ys,h1,h2,h3,h4,h5⟩:=h
  refine ⟨xs,ys,h1,h2,h3,fun i b hi=>?_,fun i b hi=>?_⟩
  ·obtain ⟨u,k1,k2,k3⟩:=h4 i b hi;exact ⟨u,k1,k2,RepB.ren φ k3⟩
  ·obtain ⟨u,k1,k2,k3⟩:=h5 i b hi;exact ⟨u,k1,k2,RepB.ren φ k3⟩
 | nilf=>exact h
theorem RepV1.ren (φ:Place→Place) {r r':Root} {path path':List Nat} (hr:∀ p,φ (r,path ++ p)=(r',path' ++ p)) {x:V} {v:Value} (h:RepV1 g w Pr r path x v) :
  RepV1 (g.ren Pr φ) w Pr r' path' x v:=by
 cases x with
 | c x=>exact RepC.ren φ (by simpa using hr []) h
 | agg cs =>
  obtain ⟨arr,h1,h2,h3⟩:=h
  refine ⟨arr,h1,h2,fun i c hi=>?_⟩
  obtain ⟨u,k1,k2,k3⟩:=h3 i c hi
  exact ⟨u,k1,k2,RepC.ren φ (hr [i]) k3⟩
 | tup vs=>exact h
theorem RepV.ren (φ:Place→Place) {r r':Root} (hr:∀ p,φ (r,p)=(r',p)) {x:V} {v:Value} (h:RepV g w Pr r x v):RepV (g.ren Pr φ) w Pr r' x v:=by
 cases x with
 | c x=>exact RepV1.ren (x:=.c x) (path:=[]) (path':=[]) φ (by simpa using hr) h
 | agg cs=>exact RepV1.ren (x:=.agg cs) (path:=[]) (path':=[]) φ (by simpa using hr) h
 | tup vs =>
  obtain ⟨arr,h1,h2⟩:=h
  refine ⟨arr,h1,fun i x hi=>?_⟩
  obtain ⟨u,k1,k2⟩:=h2 i x hi
  exact ⟨u,k1,RepV1.ren φ (fun p=>by simpa using hr _) k2⟩
theorem Ext.ren (φ:Place→Place):Ext g w (g.ren Pr φ) w:=⟨fun _ _ h=>h,fun _ _ h=>h,Nat.le_refl _,fun _ arr _ _ h=>⟨arr,h,rfl⟩,rfl,rfl,rfl⟩
theorem Fr.ren (φ:Place→Place):Fr Pr g w (g.ren Pr φ) w:=fun b hb=>⟨rfl,rfl,by simp [G.ren,hb]⟩
theorem RepOb.ren (φ:Place→Place) {l:Nat} (hl:∀ i,φ (.cell l,i)=(.cell l,i)) {o:Ob} (h:RepOb g w Pr l o):RepOb (g.ren Pr φ) w Pr l o:=by
 cases o with
 | cells cs =>
  obtain ⟨b,o,arr,ty,h1,h2,h3,h4,h5⟩:=h
  refine ⟨b,o,arr,ty,h1,h2,h3,h4,fun i c hi=>?_⟩
  obtain ⟨u,k1,k2,k3⟩:=h5 i c hi
  exact ⟨u,k1,k2,RepC.ren φ (hl _) k3⟩
 | map es =>
  obtain ⟨b,o,mes,clock,h1,h2,h3,h4,hbn,h5⟩:=h
  refine ⟨b,o,mes,clock,h1,h2,h3,h4,hbn,fun i k v hi=>?_⟩
  obtain ⟨m,k1,k2,k3⟩:=h5 i k v hi
  exact ⟨m,k1,RepV1.ren φ (fun p=>hl _) k2,RepV1.ren φ (fun p=>hl _) k3⟩
 | dead=>trivial
 | blank n=>exact h
theorem Inv.ren (φ:Place→Place) {σ:List Ob} (hl:∀ l i,φ (.cell l,i)=(.cell l,i)) (h:Inv g w Pr σ):Inv (g.ren Pr φ) w Pr σ where
 len:=h.len
 ob l o ho:=RepOb.ren φ (hl l) (h.ob l o ho)
 lt:=h.lt
 pr b hb:=by
  obtain ⟨h1,h2,h3⟩:=h.pr b hb
  exact ⟨h1,h2,by simpa [G.ren,hb] using h3⟩
 gl:=h.gl
def EnvOk (g:G) (w:World) (Pr:Nat→Prop) (e:Env) (a:Act):Prop:=∀ t,RepV g w Pr (.tmp t) (e.get t) (a.tmps.getD t undef)
def still:Op→Bool
 | .store ..=>false
 | .mapUpdate ..=>false
 | .insert ..=>false
 | .mapEntry ..=>false
 | .entryStore ..=>false
 | .call c=>match c.callee with
  | .builtin .append | .builtin .copy | .builtin .clear | .value _ | .invoke _ _=>false
  | _=>true
 | _=>true
def Same (w w':World):Prop:=∀ (b:Nat),b < w.heap.size→w'.heap[b]?=w.heap[b]?
def OpOk (P:Program) (o:Oper) (a:Act) (g:G) (w:World) (Pr:Nat→Prop) (s':St) (v:V):Prop :=
 ∃ u w' g',(still o.op=true→Same w w')∧((execOp a.eval o).run P w=.ok (.value u) w'∨((execOp a.eval o).run P w=.ok .skip w'∧u=undef)) ∧
  Ext g w g' w'∧Fr Pr g w g' w'∧Inv g' w' Pr s'.σ∧EnvOk g' w' Pr s'.env a∧∀ d,o.dst=some d→RepV g' w' Pr (.tmp d) v u
theorem OpOk.pure {o:Oper} {v:V} {u:Value} (hr:(execOp a.eval o).run P w=.ok (.value u) w) (hI:Inv g w Pr s.σ) (hE:EnvOk g w Pr s.env a)
  (hv:∀ r,RepV g w Pr r v u):OpOk P o a g w Pr s v :=
 ⟨u,w,g,fun _ _ _=>rfl,.inl hr,.refl _ _,.refl _ _ _,hI,hE,fun _ _=>hv _⟩
def chkConst:Value→V→Bool
 | .bool a,.c (.b (.d (.bool b)))=>a == b
 | .int k a,.c (.b (.d (.int k' b)))=>decide (k=k') && decide (a=b)
 | .string a,.c (.b (.d (.str b)))=>decide (a=b)
 | .slice none 0 0,.c (.osl _ [])=>true
 | .slice none 0 0,.c (.b (.d (.sl [])))=>true
 | .slice none 0 0,.c (.b .nils)=>true
 | .pointer none,.c (.b .nilp)=>true
 | .map none,.c (.b .nilm)=>true
 | .nilFunc,.c .nilf=>true
 | _,_=>false
def chkOpd:Operand→Opd→Bool
 | .tmp t,.t n=>t == n
 | .const v,.k c=>chkConst v c
 | .func f,.k (.c (.fn f' [] []))=>f == fnOf f'
 | _,_=>false
theorem chkConst_ok {v:Value} {c:V} (h:chkConst v c=true) (r:Root):RepV g w Pr r c v:=by
 unfold chkConst at h
 split at h
 ·simp at h;subst h;exact RepD.bool _
 ·simp at h;obtain ⟨rfl,rfl⟩:=h;exact RepD.int _ _
 ·have h':=of_decide_eq_true h;subst h';exact RepD.str _
 ·exact ⟨RepD.nil,by simp,.inl rfl⟩
 ·exact RepD.nil
 ·rfl
 ·rfl
 ·rfl
 ·rfl
 ·cases h
def Opd.src:Opd→Option Nat
 | .t n=>some n
 | .k _=>none
theorem opd_raw (hE:EnvOk g w Pr s.env a) {y:Operand} {x:Opd} (h:chkOpd y x=true) :
  (∀ n,x=.t n→RepV g w Pr (.tmp n) (s.raw x) (a.eval y))∧((∀ c,x=.k c→∀ r,RepV g w Pr r (s.raw x) (a.eval y))):=by
 unfold chkOpd at h
 split at h
 ·rename_i t n
  have h':t=n:=eq_of_beq h
  subst h'
  exact ⟨fun n hn=>by cases hn;exact hE t,fun c hc=>by cases hc⟩
 ·exact ⟨fun n hn=>(by cases hn),fun c hc r=>by cases hc;exact chkConst_ok h r⟩
 ·rename_i f f'
  have h':f=fnOf f':=eq_of_beq h
  subst h'
  exact ⟨fun n hn=>(by cases hn),fun c hc r=>by cases hc;exact ⟨#[],#[],rfl,rfl,rfl,by simp,by simp⟩⟩
 ·cases h
theorem opd_rd (hE:EnvOk g w Pr s.env a) {y:Operand} {x:Opd} (h:chkOpd y x=true) (r:Root):RepV g w Pr r (s.rd x) (a.eval y):=by
 obtain ⟨h1,h2⟩:=opd_raw hE h
 cases x with
 | t n=>exact RepV.down (h1 n rfl)
 | k c=>exact RepV.down (h2 c rfl r)
theorem env_get_cons (t:Nat) (v:V) (e:Env) (n:Nat):Env.get ((t,v) :: e) n=if t=n then v else e.get n:=by
 simp only [Env.get]
 by_cases h:t=n
 ·simp [h]
 ·have:(t == n)=false:=by simp [h]
  simp [h,this]
theorem get_cons (t:Nat) (v:V) (e:Env) (n:Nat):Env.get ((t,v) :: e) n=bif t == n then v else e.get n:=rfl
theorem EnvOk.cons {e:Env} (hE:EnvOk g w Pr e a) {t:Nat} {v:V} (h:RepV g w Pr (.tmp t) v (a.tmps.getD t undef)):EnvOk g w Pr ((t,v) :: e) a:=by
 intro n
 rw [env_get_cons]
 split
 ·subst_vars;exact h
 ·exact hE n
theorem take_ok (hI:Inv g w Pr s.σ) (hE:EnvOk g w Pr s.env a) {y:Operand} {x:Opd} (h:chkOpd y x=true) (d:Nat) :
  ∃ g',Ext g w g' w∧Fr Pr g w g' w∧Inv g' w Pr s.σ∧EnvOk g' w Pr (s.took x).env a∧RepV g' w Pr (.tmp d) (s.raw x) (a.eval y):=by
 cases x with
 | k c=>exact ⟨g,.refl _ _,.refl _ _ _,hI,hE,(opd_raw hE h).2 c rfl _⟩
 | t n =>
  have hv:=(opd_raw hE h).1 n rfl
  let φ:Place→Place:=fun p=>if p.1=.tmp n then (.tmp d,p.2) else p
  have hv':RepV (g.ren Pr φ) w Pr (.tmp d) (s.raw (.t n)) (a.eval y):=RepV.ren φ (fun p=>by simp [φ]) hv
  refine ⟨g.ren Pr φ,Ext.ren φ,Fr.ren φ,Inv.ren φ (fun l i=>by simp [φ]) hI,?_,hv'⟩
  have hn:RepV (g.ren Pr φ) w Pr (.tmp n) (s.env.get n).down (a.tmps.getD n undef):=RepV.down (RepV.ren φ (r':=.tmp d) (fun p=>by simp [φ]) (hE n))
  intro t
  simp only [St.took]
  rw [env_get_cons]
  split
  ·subst_vars;exact hn
  ·rename_i hne
   exact RepV.ren φ (fun p=>by simp only [φ];rw [if_neg];intro h;exact hne (by cases h;rfl)) (hE t)
theorem ok_mov_cp (o:Oper) {y:Operand} {x:Opd} (ho:o.op=.move y∨o.op=.assign y) (h:chkOpd y x=true) (hI:Inv g w Pr s.σ) (hE:EnvOk g w Pr s.env a) :
  OpOk P o a g w Pr s (s.rd x):=by
 refine OpOk.pure (u:=a.eval y) ?_ hI hE (fun r=>opd_rd hE h r)
 rcases ho with ho | ho<;>simp only [execOp,ho]<;>rfl
theorem ok_mov_own (o:Oper) {y:Operand} {x:Opd} (ho:o.op=.move y∨o.op=.assign y) (h:chkOpd y x=true) (hI:Inv g w Pr s.σ) (hE:EnvOk g w Pr s.env a) :
  OpOk P o a g w Pr (s.took x) (s.raw x):=by
 have hr:(execOp a.eval o).run P w=.ok (.value (a.eval y)) w:=by rcases ho with ho | ho<;>simp only [execOp,ho]<;>rfl
 obtain ⟨g',h1,h2,h3,h4,h5⟩:=take_ok hI hE h (o.dst.getD 0)
 refine ⟨a.eval y,w,g',fun _ _ _=>rfl,.inl hr,h1,h2,?_,h4,fun d hd=>?_⟩
 ·cases x<;>exact h3
 ·rw [hd] at h5;exact h5
theorem rep_int {r:Root} {k:IntKind} {n:Int} {v:Value} (h:RepV g w Pr r (.c (.b (.d (.int k n)))) v):v=.int k n:=by cases h;rfl
theorem rep_bool {r:Root} {n:Bool} {v:Value} (h:RepV g w Pr r (.c (.b (.d (.bool n)))) v):v=.bool n:=by cases h;rfl
theorem rep_str {r:Root} {n:ByteArray} {v:Value} (h:RepV g w Pr r (.c (.b (.d (.str n)))) v):v=.string n:=by cases h;rfl
theorem ok_pick (o:Oper) {c x y:Operand} {c' x' y':Opd} {t:Bool} (ho:o.op=.pick c x y) (hc:chkOpd c c'=true) (hx:chkOpd x x'=true) (hy:chkOpd y y'=true)
  (ht:s.rd c'=.c (.b (.d (.bool t)))) (hI:Inv g w Pr s.σ) (hE:EnvOk g w Pr s.env a):OpOk P o a g w Pr s (bif t then s.rd x' else s.rd y'):=by
 have h1:=opd_rd hE hc (.tmp 0)
 rw [ht] at h1
 have h2:a.eval c=.bool t:=rep_bool h1
 refine OpOk.pure (u:=if t then a.eval x else a.eval y) ?_ hI hE ?_
 ·simp only [execOp,ho,h2,asBool];cases t<;>rfl
 ·intro r
  cases t
  ·exact opd_rd hE hy r
  ·exact opd_rd hE hx r
theorem intOf_ok {r:Root} {x:V} {n:Int} {v:Value} (h:RepV g w Pr r x v) (hx:intOf x=some n):∃ k,v=.int k n:=by
 unfold intOf at hx
 split at hx
 ·cases hx;exact ⟨_,rep_int h⟩
 ·cases hx
theorem ok_un (o:Oper) {t:TypeId} {op:UnOp} {x:Operand} {x':Opd} {d:D} (ho:o.op=.unOp op t x) (hx:chkOpd x x'=true)
  (hd:unV op (s.rd x')=some d) (hI:Inv g w Pr s.σ) (hE:EnvOk g w Pr s.env a):OpOk P o a g w Pr s (.c (.b (.d d))):=by
 have h1:=opd_rd hE hx (.tmp 0)
 generalize s.rd x'=xv at h1 hd
 unfold unV at hd
 split at hd
 ·rename_i k n
  have h2:=rep_int h1
  split at hd
  ·cases hd
   refine OpOk.pure (u:=.int k (k.wrap (0 - n))) ?_ hI hE (fun r=>RepD.int _ _)
   simp only [execOp,ho,h2];rfl
  ·cases hd
   refine OpOk.pure (u:=.int k (k.wrap (BitVec.ofInt k.bits (if k.signed then -1 else k.max) ^^^ BitVec.ofInt k.bits n).toNat)) ?_ hI hE (fun r=>RepD.int _ _)
   simp only [execOp,ho,h2];rfl
  ·cases hd
 ·rename_i b
  have h2:=rep_bool h1
  split at hd
  ·cases hd
   refine OpOk.pure (u:=.bool (!b)) ?_ hI hE (fun r=>RepD.bool _)
   simp only [execOp,ho,h2];rfl
  ·cases hd
 ·cases hd
end
section
variable {P:Program} {g g':G} {w w':World} {Pr:Nat→Prop} {s s':St} {a:Act} {F:Oracle} {bd:Bd}
theorem run_arith {op:BinOp} {t:TypeId} {k:IntKind} {x y:Int} {d:D} (h:arith op k x y=some d) :
  ∃ u,(binOp op t (.int k x) (.int k y)).run P w=.ok u w∧RepD (g.st w) d u:=by
 cases op<;>simp only [arith,Option.some.injEq,reduceCtorEq] at h
 case add=>subst h;exact ⟨_,by simp [binOp,Op.intArith],RepD.int _ _⟩
 case sub=>subst h;exact ⟨_,by simp [binOp,Op.intArith],RepD.int _ _⟩
 case mul=>subst h;exact ⟨_,by simp [binOp,Op.intArith],RepD.int _ _⟩
 case quo =>
  split at h
  ·cases h
  ·rename_i hy;cases h;exact ⟨_,by simp [binOp,Op.intDiv,hy],RepD.int _ _⟩
 case rem =>
  split at h
  ·cases h
  ·rename_i hy;cases h;exact ⟨_,by simp [binOp,Op.intDiv,hy],RepD.int _ _⟩
 case eql=>subst h;exact ⟨_,by simp [binOp,Op.intCmp],RepD.bool _⟩
 case neq=>subst h;exact ⟨_,by simp [binOp,Op.intCmp],RepD.bool _⟩
 case lss=>subst h;exact ⟨_,by simp [binOp,Op.intCmp],RepD.bool _⟩
 case leq=>subst h;exact ⟨_,by simp [binOp,Op.intCmp],RepD.bool _⟩
 case gtr=>subst h;exact ⟨_,by simp [binOp,Op.intCmp],RepD.bool _⟩
 case geq=>subst h;exact ⟨_,by simp [binOp,Op.intCmp],RepD.bool _⟩
 case and=>subst h;exact ⟨_,by simp [binOp,Op.intBits],RepD.int _ _⟩
 case or=>subst h;exact ⟨_,by simp [binOp,Op.intBits],RepD.int _ _⟩
theorem run_shift {op:BinOp} {t:TypeId} {k k':IntKind} {x y:Int} {d:D} (h:shifted op k x y=some d) :
  ∃ u,(binOp op t (.int k x) (.int k' y)).run P w=.ok u w∧RepD (g.st w) d u:=by
 cases op<;>simp only [shifted,Option.some.injEq,reduceCtorEq] at h
 case shl =>
  split at h
  ·cases h
  ·rename_i hy;cases h;exact ⟨_,by simp [binOp,Op.shift,hy],RepD.int _ _⟩
 case shr =>
  split at h
  ·cases h
  ·rename_i hy;cases h;exact ⟨_,by simp [binOp,Op.shift,hy],RepD.int _ _⟩
theorem run_strs {op:BinOp} {t:TypeId} {x y:ByteArray} {d:D} (h:strs op x y=some d) :
  ∃ u,(binOp op t (.string x) (.string y)).run P w=.ok u w∧RepD (g.st w) d u:=by
 cases op<;>simp only [strs,Option.some.injEq,reduceCtorEq] at h
 case add =>
  split at h
  ·cases h
  ·rename_i hy;cases h;exact ⟨_,by simp only [binOp,Op.stringOp];rw [if_neg hy];rfl,RepD.str _⟩
 case eql=>subst h;exact ⟨_,rfl,RepD.bool _⟩
 case neq=>subst h;exact ⟨_,rfl,RepD.bool _⟩
 case lss=>subst h;exact ⟨_,rfl,RepD.bool _⟩
theorem addr_add (b o n:Nat):(⟨b,o,none⟩:Addr).add n=⟨b,o+n,none⟩:=by unfold Addr.add;split<;>simp_all
theorem addr_add' {x:Addr} (h:x.spot=none) (n:Nat):x.add n=⟨x.block,x.off+n,none⟩:=by obtain ⟨b,o,q⟩:=x;cases h;exact addr_add b o n
def isStr (P:Program) (t:TypeId):Bool:=match P.underlying t with | some (.struct _) | some (.array _ _)=>true | _=>false
theorem run_isAgg {t:TypeId} (h:(P.underlying t).isSome=true):(isAgg t).run P w=.ok (isStr P t) w:=by
 obtain ⟨d,hd⟩:=Option.isSome_iff_exists.mp h
 simp only [isAgg,Sem.run_bind,run_underlying hd,Result.andThen_ok,isStr,hd]
 cases d<;>rfl
theorem run_fa {t:TypeId} {fields:Array Field} {f:Nat} {fld:Field} {i:TypeInfo} {b o:Nat} (hu:P.underlying t=some (.struct fields)) (hf:fields[f]?=some fld)
  (hi:P.info? fld.type=some i) (hs:i.size≠0):(Instr.fieldAt t (.pointer (some ⟨b,o,none⟩)) f).run P w=.ok (.pointer (some ⟨b,o+fld.offset,none⟩)) w:=by
 simp [Instr.fieldAt,run_underlying hu,hf,Instr.sureAddr,fieldPlace,run_sizeOf w hi,Program.cellsOf,hi,hs,addr_add]
theorem ok_fa (o:Oper) {t:TypeId} {x:Operand} {x':Opd} {f off:Nat} {fields:Array Field} {fld:Field} {i:TypeInfo} {v:V} (ho:o.op=.fieldAddr t x f) (hx:chkOpd x x'=true)
  (hu:P.underlying t=some (.struct fields)) (hf:fields[f]?=some fld) (hi:P.info? fld.type=some i) (hs:i.size≠0) (hoff:fld.offset=off)
  (hv:stepOp F bd s (.fa off x')=some (v,s')) (hI:Inv g w Pr s.σ) (hE:EnvOk g w Pr s.env a):OpOk P o a g w Pr s' v:=by
 have h1:=opd_rd hE hx (.tmp 0)
 simp only [stepOp] at hv
 subst hoff
 split at hv
 ·rename_i l p hr
  rw [hr] at h1
  obtain ⟨b,q,hl,h2⟩:=h1
  cases hv
  refine OpOk.pure (u:=.pointer (some ⟨b,q+p+fld.offset,none⟩)) ?_ hI hE (fun r=>⟨b,q,hl,by rw [Nat.add_assoc]⟩)
  simp only [execOp,ho,h2,Sem.run_bind,run_fa hu hf hi hs];rfl
 ·rename_i row p hr
  rw [hr] at h1
  obtain ⟨b,q,vs,h2,h3⟩:=h1
  cases hv
  refine OpOk.pure (u:=.pointer (some ⟨b,q+p+fld.offset,none⟩)) ?_ hI hE (fun r=>⟨b,q,vs,by rw [Nat.add_assoc],h3⟩)
  simp only [execOp,ho,h2,Sem.run_bind,run_fa hu hf hi hs];rfl
 ·cases hv
theorem ok_conv (o:Oper) {src dst:TypeId} {x:Operand} {x':Opd} {k:IntKind} {v:V} (ho:o.op=.convert src dst x) (hx:chkOpd x x'=true)
  (hs:(P.underlying src).isSome=true) (hd:P.underlying dst=some (.int k)) (hv:stepOp F bd s (.conv k x')=some (v,s')) (hI:Inv g w Pr s.σ) (hE:EnvOk g w Pr s.env a):OpOk P o a g w Pr s' v:=by
 have h1:=opd_rd hE hx (.tmp 0)
 simp only [stepOp] at hv
 split at hv
 ·rename_i k' n hr
  rw [hr] at h1
  have h2:=rep_int h1
  cases hv
  refine OpOk.pure (u:=.int k (k.wrap n)) ?_ hI hE (fun r=>RepD.int _ _)
  have hk:P.intKind dst=k:=by simp [Program.intKind,hd]
  have:=run_convert_int (P:=P) w src dst k' n hs (by rw [hk];exact hd)
  rw [hk] at this
  simp only [execOp,ho,h2,Sem.run_bind,this];rfl
 ·cases hv
theorem rows_get {rows:List (List D)} {u:Value} (h:RepD (g.st w) (.sl rows) u) {i:Nat} {row:List D} (hi:rows[i]?=some row) :
  ∃ a cap k,u=.slice (some a) rows.length cap∧a.spot=none∧rows.length≤cap∧row.length=k∧∃ vs:Nat→Value,∀ j d,row[j]?=some d→g.st w ⟨a.block,a.off+i * k+j,none⟩ (vs j)∧RepD (g.st w) d (vs j):=by
 cases h with
 | nil=>simp at hi
 | sl rows a k cap vs h1 h2 h3 h4 h5 =>
  refine ⟨a,cap,k,rfl,h1 (by rintro rfl;simp at hi),h2,h3 _ (List.mem_of_getElem? hi),vs i,fun j d hj=>⟨h4 i row j d hi hj,h5 i row j d hi hj⟩⟩
theorem run_ia {t e:TypeId} {i:TypeInfo} {b o len cap n:Nat} {kk:IntKind} (hu:P.underlying t=some (.slice e)) (hi:P.info? e=some i) (hn:n < len) :
  (Instr.indexAt t (.slice (some ⟨b,o,none⟩) len cap) (.int kk n)).run P w=.ok (.pointer (some ⟨b,o+n * i.size,none⟩)) w:=by
 simp [Instr.indexAt,asIntOf,run_underlying hu,run_sizeOf w hi,Program.cellsOf,hi,hn,addr_add]
theorem ok_ia (o:Oper) {t e:TypeId} {x y:Operand} {x' y':Opd} {k:Nat} {i:TypeInfo} {v:V} (ho:o.op=.indexAddr t x y) (hx:chkOpd x x'=true) (hy:chkOpd y y'=true)
  (hu:P.underlying t=some (.slice e)) (hi:P.info? e=some i) (hk:i.size=k)
  (hv:stepOp F bd s (.ia k x' y')=some (v,s')) (hI:Inv g w Pr s.σ) (hE:EnvOk g w Pr s.env a):OpOk P o a g w Pr s' v:=by
 have h1:=opd_rd hE hx (.tmp 0)
 have h2:=opd_rd hE hy (.tmp 0)
 subst hk
 simp only [stepOp] at hv
 split at hv
 ·rename_i n hn
  obtain ⟨kk,h3⟩:=intOf_ok h2 hn
  split at hv
  ·rename_i h0
   obtain ⟨m,rfl⟩:∃ m:Nat,n=m:=⟨n.toNat,by omega⟩
   simp only [Int.toNat_natCast] at hv
   split at hv
   ·rename_i rows hr
    rw [hr] at h1
    split at hv
    ·rename_i row hrow
     split at hv
     ·rename_i hlen
      cases hv
      obtain ⟨⟨ab,ao,sp⟩,cap,k',h4,h5,h6,h7,vs,h8⟩:=rows_get h1 hrow
      cases h5
      have hlt:m < rows.length:=(List.getElem?_eq_some_iff.mp hrow).1
      refine OpOk.pure (u:=.pointer (some ⟨ab,ao+m * i.size,none⟩)) ?_ hI hE (fun r=>?_)
      ·simp only [execOp,ho,h4,h3,Sem.run_bind,run_ia hu hi hlt];rfl
      ·refine ⟨ab,ao+m * i.size,vs,rfl,fun j d hj=>?_⟩
       have:=h8 j d hj
       rw [← h7,hlen] at this
       exact this
     ·cases hv
    ·cases hv
   ·rename_i k' l off len hr
    rw [hr] at h1
    split at hv
    ·rename_i hc
     obtain ⟨rfl,hlt⟩:=hc
     cases hv
     obtain ⟨b,q,cap,arr,ty,h4,h5,h6,h7,h8⟩:=h1
     have hlt':m < len:=by omega
     refine OpOk.pure (u:=.pointer (some ⟨b,q+off+m * i.size,none⟩)) ?_ hI hE (fun r=>⟨b,q,h4,by rw [Nat.add_assoc]⟩)
     simp only [execOp,ho,h5,h3,Sem.run_bind,run_ia hu hi hlt'];rfl
    ·cases hv
   ·cases hv
  ·cases hv
 ·cases hv
theorem ok_ixs (o:Oper) {t:TypeId} {x y:Operand} {x' y':Opd} {v:V} (ho:o.op=.index t x y) (hx:chkOpd x x'=true) (hy:chkOpd y y'=true)
  (hu:P.underlying t=some .string)
  (hv:stepOp F bd s (.ixs x' y')=some (v,s')) (hI:Inv g w Pr s.σ) (hE:EnvOk g w Pr s.env a):OpOk P o a g w Pr s' v:=by
 have h1:=opd_rd hE hx (.tmp 0)
 have h2:=opd_rd hE hy (.tmp 0)
 simp only [stepOp] at hv
 split at hv
 ·rename_i str n hr hn
  rw [hr] at h1
  have h3:=rep_str h1
  obtain ⟨kk,h4⟩:=intOf_ok h2 hn
  split at hv
  ·rename_i h0
   split at hv
   ·rename_i b hb
    cases hv
    refine OpOk.pure (u:=.int .u8 b.toNat) ?_ hI hE (fun r=>RepD.int _ _)
    simp [execOp,ho,h3,h4,Instr.index,asIntOf,run_underlying hu,h0,hb]
   ·cases hv
  ·cases hv
 ·cases hv
theorem ok_fld (o:Oper) {t:TypeId} {x:Operand} {x':Opd} {f off:Nat} {n:Option Nat} {fields:Array Field} {fld:Field} {i:TypeInfo} {v:V} (ho:o.op=.field t x f) (hx:chkOpd x x'=true)
  (hu:P.underlying t=some (.struct fields)) (hf:fields[f]?=some fld) (hi:P.info? fld.type=some i) (hoff:fld.offset=off) (hd:(P.underlying fld.type).isSome=true)
  (hn:n=if isStr P fld.type then some i.size else none)
  (hv:stepOp F bd s (.fld off n x')=some (v,s')) (hI:Inv g w Pr s.σ) (hE:EnvOk g w Pr s.env a):OpOk P o a g w Pr s' v:=by
 have h1:=opd_rd hE hx (.tmp 0)
 subst hoff
 simp only [stepOp] at hv
 split at hv
 ·rename_i cs hr
  rw [hr] at h1
  obtain ⟨arr,h2,h3,h4⟩:=h1
  have hdown:∀ (j:Nat) c,cs[j]?=some c→∃ u:Value,arr[j]?=some u∧u.oneCell'=true∧∀ p,RepC g w Pr p c u:=by
   intro j c hj
   obtain ⟨u,k1,k2,k3⟩:=h4 j c hj
   refine ⟨u,k1,k2,fun p=>?_⟩
   have:c.down=c:=by
    have hs:s.rd x'=(s.raw x').down:=rfl
    rw [hs] at hr
    cases hraw:s.raw x' with
    | c y=>rw [hraw] at hr;cases y<;>cases hr
    | agg cs0 =>
     rw [hraw] at hr
     simp only [V.down,V.agg.injEq] at hr
     subst hr
     simp only [List.getElem?_map,Option.map_eq_some_iff] at hj
     obtain ⟨c0,_,rfl⟩:=hj
     cases c0<;>rfl
    | tup vs=>rw [hraw] at hr;cases hr
   rw [← this]
   exact RepC.down k3
  split at hv
  ·split at hv
   ·rename_i c hc
    cases hv
    obtain ⟨u,k1,k2,k3⟩:=hdown _ _ hc
    have hs:isStr P fld.type=false:=by
     cases hb:isStr P fld.type
     ·rfl
     ·rw [hb] at hn;cases hn
    refine OpOk.pure (u:=u) ?_ hI hE (fun r=>k3 _)
    simp [execOp,ho,h2,Instr.field,run_underlying hu,hf,asAgg,part,run_isAgg hd,hs,k1]
   ·cases hv
  ·rename_i m
   split at hv
   ·rename_i hle
    cases hv
    have hs:isStr P fld.type=true∧m=i.size:=by
     cases hb:isStr P fld.type<;>rw [hb] at hn
     ·cases hn
     ·exact ⟨rfl,by injection hn⟩
    obtain ⟨hs,rfl⟩:=hs
    refine OpOk.pure (u:=.agg (arr.extract fld.offset (fld.offset+i.size))) ?_ hI hE (fun r=>?_)
    ·simp [execOp,ho,h2,Instr.field,run_underlying hu,hf,asAgg,part,run_isAgg hd,hs,run_sizeOf w hi,Program.cellsOf,hi]
    ·refine ⟨_,rfl,by simp;omega,fun j c hj=>?_⟩
     rw [List.getElem?_take] at hj
     split at hj
     ·rename_i hjm
      rw [List.getElem?_drop] at hj
      obtain ⟨u,k1,k2,k3⟩:=hdown _ _ hj
      refine ⟨u,?_,k2,k3 _⟩
      rw [Array.getElem?_extract,if_pos (by have:=(Array.getElem?_eq_some_iff.mp k1).1;omega)]
      exact k1
     ·cases hj
   ·cases hv
 ·cases hv
theorem ok_mkf (o:Oper) {f:Nat} {xs ys:Array Operand} {xs' ys':List Opd} {v:V} (ho:o.op=.makeFunc (.func (fnOf f)) xs ys)
  (hx:xs.size=xs'.length) (hx':∀ (i:Nat) (x:Operand) (x':Opd),xs[i]?=some x→xs'[i]?=some x'→chkOpd x x'=true)
  (hy:ys.size=ys'.length) (hy':∀ (i:Nat) (x:Operand) (x':Opd),ys[i]?=some x→ys'[i]?=some x'→chkOpd x x'=true)
  (hv:stepOp F bd s (.mkf f xs' ys')=some (v,s')) (hI:Inv g w Pr s.σ) (hE:EnvOk g w Pr s.env a):OpOk P o a g w Pr s' v:=by
 have key:∀ (l:List Opd) (bs:List B),bsOf l s=some bs→bs.length=l.length∧∀ (i:Nat) (b:B),bs[i]?=some b→∃ x',l[i]?=some x'∧b≠.any∧s.rd x'=.c (.b b):=by
  intro l
  induction l with
  | nil=>intro bs h;simp [bsOf] at h;subst h;simp
  | cons x l ih =>
   intro bs h
   simp only [bsOf] at h
   split at h
   ·cases h
   ·rename_i y zs hne hy hz
    cases h
    obtain ⟨h1,h2⟩:=ih _ hz
    refine ⟨by simp [h1],fun i b hi=>?_⟩
    cases i with
    | zero=>simp at hi;subst hi;exact ⟨x,rfl,by rintro rfl;exact hne rfl,hy⟩
    | succ i=>simpa using h2 i b (by simpa using hi)
   ·cases h
 simp only [stepOp] at hv
 split at hv
 ·rename_i as bs ha hb
  cases hv
  obtain ⟨a1,a2⟩:=key _ _ ha
  obtain ⟨b1,b2⟩:=key _ _ hb
  refine OpOk.pure (u:=.func (.func (fnOf f)) (xs.map a.eval) (ys.map a.eval)) ?_ hI hE (fun r=>?_)
  ·simp [execOp,ho,Instr.makeFunc]
  ·refine ⟨_,_,rfl,by simp [hx,a1],by simp [hy,b1],fun i b hi=>?_,fun i b hi=>?_⟩
   ·obtain ⟨x',e1,e2,e3⟩:=a2 i b hi
    have hlt:i < xs.size:=by rw [hx];exact (List.getElem?_eq_some_iff.mp e1).1
    refine ⟨a.eval xs[i],by simp [hlt],e2,?_⟩
    have:=opd_rd hE (hx' i xs[i] x' (by simp [hlt]) e1) (.tmp 0)
    rw [e3] at this
    exact this
   ·obtain ⟨x',e1,e2,e3⟩:=b2 i b hi
    have hlt:i < ys.size:=by rw [hy];exact (List.getElem?_eq_some_iff.mp e1).1
    refine ⟨a.eval ys[i],by simp [hlt],e2,?_⟩
    have:=opd_rd hE (hy' i ys[i] x' (by simp [hlt]) e1) (.tmp 0)
    rw [e3] at this
    exact this
 ·cases hv
end
section
variable {P:Program} {g g':G} {w w':World} {Pr:Nat→Prop} {s s':St} {a:Act} {F:Oracle} {bd:Bd}
theorem run_builtin {o:Oper} {b:Builtin} {args:Array Operand} {ts:Array TypeId} (ho:o.op=.call { callee:=.builtin b,args:=args,argTypes:=ts }) :
  ∃ cs,(execOp a.eval o).run P w=(builtin b ts o.type cs (args.map a.eval)).run P w:=by
 simp only [execOp,ho,resolve,invoke,Sem.run_bind,Sem.run_pure,Result.andThen_ok]
 exact ⟨_,rfl⟩
theorem sl_shape {rows:List (List D)} {u:Value} (h:RepD (g.st w) (.sl rows) u):∃ bs c,u=.slice bs rows.length c:=by
 cases h with
 | nil=>exact ⟨none,0,rfl⟩
 | sl _ ad k cap vs=>exact ⟨some ad,cap,rfl⟩
theorem ok_len0 (o:Oper) {t e:TypeId} {x:Operand} {x':Opd} {v:V} (ho:o.op=.call { callee:=.builtin .len,args:=#[x],argTypes:=#[t] }) (hx:chkOpd x x'=true)
  (hu:P.underlying t=some (.slice e))
  (hv:stepOp F bd s (.len 0 x')=some (v,s')) (hI:Inv g w Pr s.σ) (hE:EnvOk g w Pr s.env a):OpOk P o a g w Pr s' v:=by
 have h1:=opd_rd hE hx (.tmp 0)
 obtain ⟨cc,hb⟩:=run_builtin (P:=P) (w:=w) (a:=a) ho
 simp only [stepOp] at hv
 split at hv
 ·rename_i rows hq hr
  rw [hr] at h1
  cases hv
  obtain ⟨bs,c,he⟩:=sl_shape h1
  exact OpOk.pure (u:=.int .i64 rows.length) (by rw [hb];simp [builtin,Builtin.len_,he,run_underlying hu,goInt]) hI hE (fun r=>RepD.int _ _)
 ·rename_i k' l off n hq hr
  rw [hr] at h1
  cases hv
  obtain ⟨b,q,cap,arr,ty,h4,h5,h6,h7,h8⟩:=h1
  exact OpOk.pure (u:=.int .i64 n) (by rw [hb];simp [builtin,Builtin.len_,h5,run_underlying hu,goInt]) hI hE (fun r=>RepD.int _ _)
 ·rename_i hq hr
  rw [hr] at h1
  cases hv
  have he:a.eval x=.slice none 0 0:=h1
  exact OpOk.pure (u:=.int .i64 0) (by rw [hb];simp [builtin,Builtin.len_,he,run_underlying hu,goInt]) hI hE (fun r=>RepD.int _ _)
 ·rename_i hq hr
  rw [hr] at h1
  cases hv
  obtain ⟨ad,cap,he⟩:=h1
  exact OpOk.pure (u:=.int .i64 0) (by rw [hb];simp [builtin,Builtin.len_,he,run_underlying hu,goInt]) hI hE (fun r=>RepD.int _ _)
 all_goals simp_all
theorem ok_len1 (o:Oper) {t:TypeId} {x:Operand} {x':Opd} {v:V} (ho:o.op=.call { callee:=.builtin .len,args:=#[x],argTypes:=#[t] }) (hx:chkOpd x x'=true)
  (hu:P.underlying t=some .string)
  (hv:stepOp F bd s (.len 1 x')=some (v,s')) (hI:Inv g w Pr s.σ) (hE:EnvOk g w Pr s.env a):OpOk P o a g w Pr s' v:=by
 have h1:=opd_rd hE hx (.tmp 0)
 obtain ⟨cc,hb⟩:=run_builtin (P:=P) (w:=w) (a:=a) ho
 simp only [stepOp] at hv
 split at hv
 ·simp_all
 ·simp_all
 ·simp_all
 ·simp_all
 ·rename_i t' hq hr
  rw [hr] at h1
  cases hv
  have he:=rep_str h1
  exact OpOk.pure (u:=.int .i64 t'.size) (by rw [hb];simp [builtin,Builtin.len_,he,run_underlying hu,goInt]) hI hE (fun r=>RepD.int _ _)
 all_goals simp_all
theorem ok_len2 (o:Oper) {t k e:TypeId} {x:Operand} {x':Opd} {v:V} (ho:o.op=.call { callee:=.builtin .len,args:=#[x],argTypes:=#[t] }) (hx:chkOpd x x'=true)
  (hu:P.underlying t=some (.map k e))
  (hv:stepOp F bd s (.len 2 x')=some (v,s')) (hI:Inv g w Pr s.σ) (hE:EnvOk g w Pr s.env a):OpOk P o a g w Pr s' v:=by
 have h1:=opd_rd hE hx (.tmp 0)
 obtain ⟨cc,hb⟩:=run_builtin (P:=P) (w:=w) (a:=a) ho
 simp only [stepOp] at hv
 split at hv
 ·simp_all
 ·simp_all
 ·simp_all
 ·simp_all
 ·simp_all
 ·rename_i l hq hr
  rw [hr] at h1
  split at hv
  ·rename_i es hl
   cases hv
   obtain ⟨b,q,h2,h3⟩:=h1
   obtain ⟨b',q',mes,clock,h4,h5,h6,h7,h8⟩:=hI.ob _ _ hl
   rw [h2] at h4
   cases h4
   refine OpOk.pure (u:=.int .i64 es.length) ?_ hI hE (fun r=>RepD.int _ _)
   rw [hb]
   simp [builtin,Builtin.len_,h3,run_underlying hu,goInt,getObj,Sem.run,h6,h7]
  ·cases hv
 ·rename_i hq hr
  rw [hr] at h1
  cases hv
  have he:a.eval x=.map none:=h1
  exact OpOk.pure (u:=.int .i64 0) (by rw [hb];simp [builtin,Builtin.len_,he,run_underlying hu,goInt]) hI hE (fun r=>RepD.int _ _)
 ·simp_all
theorem run_bound {i:Int} {k:IntKind} {y:Nat} {c:BoundsCode} (h0:0≤i) (h1:i≤y):(Instr.sliceBound (.int k i) y c).run P w=.ok i.toNat w:=by
 simp [Instr.sliceBound,asIntOf,h0,h1]
theorem run_bounds {isSlice:Bool} {len cap:Nat} {lo hi:Option Operand} {lo' hi':Option Opd} {l h:Int} (hE:EnvOk g w Pr s.env a)
  (hlo:(lo=none∧lo'=none)∨∃ x x',lo=some x∧lo'=some x'∧chkOpd x x'=true) (hhi:(hi=none∧hi'=none)∨∃ x x',hi=some x∧hi'=some x'∧chkOpd x x'=true)
  (el:optInt s lo' 0=some l) (eh:optInt s hi' len=some h) (h0:0≤l) (h1:l≤h) (h2:h≤cap) (hlc:len≤cap) :
  (Instr.sliceBounds isSlice len cap (lo.map a.eval) (hi.map a.eval) none).run P w=.ok (l.toNat,h.toNat,cap) w:=by
 have hb:∀ (x:Operand) (x':Opd) (n:Int) (y:Nat) (c:BoundsCode),chkOpd x x'=true→intOf (s.rd x')=some n→0≤n→n≤y→(Instr.sliceBound (a.eval x) y c).run P w=.ok n.toNat w:=by
  intro x x' n y c hx hn h0 h1
  obtain ⟨k,hk⟩:=intOf_ok (opd_rd hE hx (.tmp 0)) hn
  rw [hk]
  exact run_bound h0 h1
 unfold Instr.sliceBounds
 rcases hhi with ⟨rfl,rfl⟩ | ⟨x,x',rfl,rfl,hx⟩<;>rcases hlo with ⟨rfl,rfl⟩ | ⟨z,z',rfl,rfl,hz⟩<;>simp only [optInt,Option.some.injEq] at el eh
 ·subst el;subst eh;simp
 ·subst eh
  have:=hb z z' l len .sliceB hz el h0 h1
  simp [this]
 ·subst el
  have:=hb x x' h cap (if isSlice=true then .sliceAcap else .sliceAlen) hx eh h1 h2
  simp [this]
 ·have e1:=hb x x' h cap (if isSlice=true then .sliceAcap else .sliceAlen) hx eh (by omega) h2
  have e2:=hb z z' l h.toNat .sliceB hz el h0 (by omega)
  simp [e1,e2]
theorem ok_slcs (o:Oper) {t:TypeId} {x:Operand} {x':Opd} {lo hi:Option Operand} {lo' hi':Option Opd} {v:V} (ho:o.op=.slice t x lo hi none) (hx:chkOpd x x'=true)
  (hlo:(lo=none∧lo'=none)∨∃ x x',lo=some x∧lo'=some x'∧chkOpd x x'=true) (hhi:(hi=none∧hi'=none)∨∃ x x',hi=some x∧hi'=some x'∧chkOpd x x'=true)
  (hu:P.underlying t=some .string)
  (hv:stepOp F bd s (.slcs x' lo' hi')=some (v,s')) (hI:Inv g w Pr s.σ) (hE:EnvOk g w Pr s.env a):OpOk P o a g w Pr s' v:=by
 have h1:=opd_rd hE hx (.tmp 0)
 simp only [stepOp] at hv
 split at hv
 ·rename_i str hr
  rw [hr] at h1
  have he:=rep_str h1
  split at hv
  ·rename_i l h el eh
   split at hv
   ·rename_i hc
    cases hv
    have:=run_bounds (P:=P) (isSlice:=false) hE hlo hhi el eh hc.1 hc.2.1 hc.2.2 (Nat.le_refl _)
    refine OpOk.pure (u:=.string (str.extract l.toNat h.toNat)) ?_ hI hE (fun r=>RepD.str _)
    simp [execOp,ho,Instr.sliceAt,Instr.slice,he,run_underlying hu,this]
   ·cases hv
  ·cases hv
 ·cases hv
theorem run_slice {t e:TypeId} {i:TypeInfo} {bs:Option Addr} {len cap:Nat} {lo hi:Option Value} {l h:Nat} (hu:P.underlying t=some (.slice e)) (hi':P.info? e=some i)
  (hb:(Instr.sliceBounds true len cap lo hi none).run P w=.ok (l,h,cap) w) :
  (Instr.sliceAt t (.slice bs len cap) lo hi none).run P w=.ok (.slice (if cap=l then bs else bs.map (·.add (l * i.size))) (h - l) (cap - l)) w:=by
 simp [Instr.sliceAt,Instr.slice,run_underlying hu,hb,run_sizeOf w hi',Program.cellsOf,hi']
theorem ok_slc_cp (o:Oper) {t e:TypeId} {x:Operand} {x':Opd} {lo hi:Option Operand} {lo' hi':Option Opd} {k:Nat} {i:TypeInfo} {v:V} (ho:o.op=.slice t x lo hi none) (hx:chkOpd x x'=true)
  (hlo:(lo=none∧lo'=none)∨∃ x x',lo=some x∧lo'=some x'∧chkOpd x x'=true) (hhi:(hi=none∧hi'=none)∨∃ x x',hi=some x∧hi'=some x'∧chkOpd x x'=true)
  (hu:P.underlying t=some (.slice e)) (hi0:P.info? e=some i) (hk:i.size=k)
  (hv:stepOp F bd s (.slc .cp k x' lo' hi')=some (v,s')) (hI:Inv g w Pr s.σ) (hE:EnvOk g w Pr s.env a):OpOk P o a g w Pr s' v:=by
 have h1:=opd_rd hE hx (.tmp 0)
 subst hk
 simp only [stepOp] at hv
 split at hv
 ·rename_i l el
  split at hv
  ·rename_i h0
   obtain ⟨l,rfl⟩:∃ m:Nat,l=m:=⟨l.toNat,by omega⟩
   split at hv
   ·rename_i rows hr
    rw [hr] at h1
    split at hv
    ·rename_i h eh
     split at hv
     ·rename_i hc
      obtain ⟨hc1,hc2,hc3⟩:=hc
      obtain ⟨h,rfl⟩:∃ m:Nat,h=m:=⟨h.toNat,by omega⟩
      cases hv
      have h1':RepD (g.st w) (.sl rows) (a.eval x):=h1
      have hk:∀ r ∈ rows,r.length=i.size:=by simpa using hc3
      simp only [Int.toNat_natCast]
      generalize hux:a.eval x=u at h1'
      have hrun:∀ (bs:Option Addr) (cap:Nat),u=.slice bs rows.length cap→rows.length≤cap →
        (execOp a.eval o).run P w=.ok (.value (.slice (if cap=l then bs else bs.map (·.add (l * i.size))) (h - l) (cap - l))) w:=by
       intro bs cap hb hcap
       have:=run_bounds (P:=P) (isSlice:=true) hE hlo hhi el eh h0 hc1 (by omega) hcap
       simp only [Int.toNat_natCast] at this
       have:=run_slice (bs:=bs) hu hi0 this
       simp only [execOp,ho,hux,hb,Option.map_none,Sem.run_bind,this];rfl
      have hlen:((rows.take h).drop l).length=h - l:=by simp;omega
      cases h1' with
      | nil =>
       have hlh:l=0∧h=0:=by simp at hc2;omega
       obtain ⟨rfl,rfl⟩:=hlh
       exact OpOk.pure (u:=.slice none 0 0) (by have:=hrun none 0 rfl (by simp);simpa using this) hI hE (fun r=>RepD.nil)
      | sl _ ad k0 cap vs q1 q2 q3 q4 q5 =>
       refine OpOk.pure (hrun (some ad) cap rfl q2) hI hE (fun r=>?_)
       show RepD (g.st w) (.sl ((rows.take h).drop l)) _
       have hk0:rows≠[]→k0=i.size:=by
        intro hne
        obtain ⟨r0,hr0⟩:=List.exists_mem_of_ne_nil _ hne
        rw [← q3 _ hr0,hk _ hr0]
       by_cases hcl:cap=l
       ·rw [if_pos hcl,← hlen]
        have hem:(rows.take h).drop l=[]:=by apply List.drop_eq_nil_of_le;simp;omega
        rw [hem]
        exact RepD.sl [] ad 0 _ (fun _ _=>undef) (by simp) (by simp) (by simp) (by simp) (by simp)
       ·rw [if_neg hcl,← hlen]
        have hsub:∀ (r':Nat) row,((rows.take h).drop l)[r']?=some row→rows[r'+l]?=some row:=by
         intro r' row hr'
         rw [List.getElem?_drop,List.getElem?_take] at hr'
         split at hr'
         ·rw [Nat.add_comm];exact hr'
         ·cases hr'
        refine RepD.sl _ (ad.add (l * i.size)) i.size _ (fun a b=>vs (a+l) b) ?_ (by rw [hlen];omega) (fun r hr=>hk _ (List.mem_of_mem_take (List.mem_of_mem_drop hr))) ?_ ?_
        ·intro hne
         have:rows≠[]:=by rintro rfl;simp at hne
         rw [addr_add' (q1 this)]
        ·intro r' row j d hr' hj
         have hr2:=hsub _ _ hr'
         have hne:rows≠[]:=by rintro rfl;simp at hr2
         have:=q4 _ _ _ _ hr2 hj
         rw [hk0 hne] at this
         rw [addr_add' (q1 hne)]
         have e2:ad.off+(r'+l) * i.size+j=ad.off+l * i.size+r' * i.size+j:=by rw [Nat.add_mul];omega
         rw [e2] at this
         exact this
        ·intro r' row j d hr' hj
         exact q5 _ _ _ _ (hsub _ _ hr') hj
     ·cases hv
    ·cases hv
   ·rename_i k' r off len hr
    rw [hr] at h1
    split at hv
    ·rename_i h eh
     split at hv
     ·rename_i hc
      obtain ⟨rfl,hc1,hc2,hc3⟩:=hc
      obtain ⟨h,rfl⟩:∃ m:Nat,h=m:=⟨h.toNat,by omega⟩
      cases hv
      obtain ⟨b,q,cap,arr,ty,h4,h5,h6,h7,h8⟩:=h1
      have:=run_bounds (P:=P) (isSlice:=true) hE hlo hhi el eh h0 hc1 (by omega) h6
      simp only [Int.toNat_natCast] at this
      have:=run_slice (bs:=some ⟨b,q+off,none⟩) hu hi0 this
      have hcl:¬ cap=l:=by omega
      refine OpOk.pure (u:=.slice (some ⟨b,q+(off+l * i.size),none⟩) (h - l) (cap - l)) ?_ hI hE (fun rr=>?_)
      ·simp only [execOp,ho,h5,Option.map_none,Sem.run_bind,this]
       simp [hcl,addr_add,Nat.add_assoc]
      ·refine ⟨b,q,cap - l,arr,ty,h4,?_,by omega,h7,?_⟩
       ·simp only [Int.toNat_natCast]
        congr 1
        omega
       ·simp only [Int.toNat_natCast]
        have:(cap - l) * i.size+l * i.size=cap * i.size:=by rw [← Nat.add_mul];congr 1;omega
        omega
     ·cases hv
    ·cases hv
   ·cases hv
  ·cases hv
 ·cases hv
end
theorem range_get {n j j':Nat} (h:(List.range n)[j]?=some j'):j=j'∧j' < n:=by
 have hlt:=(List.getElem?_eq_some_iff.mp h).1
 simp at hlt
 simp [hlt] at h
 subst h
 exact ⟨rfl,hlt⟩
section
variable {P:Program} {g g':G} {w w':World} {Pr:Nat→Prop} {s s':St} {a:Act} {F:Oracle} {bd:Bd}
theorem cell_of {b:Nat} {arr:Array Value} {ty:TypeId} {fz:Nat × Nat} (h:w.heap[b]?=some (.cells arr ty fz)) (i:Nat):w.cell? ⟨b,i,none⟩=arr[i]?:=by simp [World.cell?,h]
theorem run_ld1 {t:TypeId} {b o:Nat} {u:Value} (hd:(P.underlying t).isSome=true) (hs:isStr P t=false) (hc:w.cell? ⟨b,o,none⟩=some u) :
  (Instr.loadAt t (.pointer (some ⟨b,o,none⟩))).run P w=.ok u w:=by
 simp [Instr.loadAt,Instr.sureAddr,loadVar,run_isAgg hd,hs,hc]
theorem run_ldN {t:TypeId} {b o:Nat} {i:TypeInfo} (hd:(P.underlying t).isSome=true) (hs:isStr P t=true) (hi:P.info? t=some i) (us:List Value) (hu:us.length=i.size)
  (hc:∀ j u,us[j]?=some u→w.cell? ⟨b,o+j,none⟩=some u) :
  (Instr.loadAt t (.pointer (some ⟨b,o,none⟩))).run P w=.ok (.agg us.toArray) w:=by
 have h1:=run_loadCells_list (P:=P) w ⟨b,o,none⟩ us (fun j v hj=>by rw [addr_add];exact hc j v hj)
 rw [hu] at h1
 simp [Instr.loadAt,Instr.sureAddr,loadVar,run_isAgg hd,hs,run_sizeOf w hi,Program.cellsOf,hi,h1]
theorem take_list {R:Nat→C→Value→Prop} {arr:Array Value} {cs:List C} {o:Nat} (h:∀ i c,cs[i]?=some c→∃ u,arr[o+i]?=some u∧R i c u) {off n:Nat} (hn:off+n≤cs.length) :
  ∃ us:List Value,us.length=n∧(∀ j u,us[j]?=some u→arr[o+off+j]?=some u)∧∀ j c,((cs.drop off).take n)[j]?=some c→∃ u,us[j]?=some u∧R (off+j) c u:=by
 refine ⟨(List.range n).map fun j=>arr.getD (o+off+j) undef,by simp,fun j u hj=>?_,fun j c hj=>?_⟩
 ·simp only [List.getElem?_map,Option.map_eq_some_iff] at hj
  obtain ⟨j',hj',rfl⟩:=hj
  obtain ⟨rfl,hlt⟩:=range_get hj'
  have hc:cs[off+j]?=some cs[off+j]:=by simp
  obtain ⟨u,k1,_⟩:=h _ _ hc
  rw [← Nat.add_assoc] at k1
  simp [Array.getD_eq_getD_getElem?,k1]
 ·rw [List.getElem?_take] at hj
  split at hj
  ·rename_i hlt
   rw [List.getElem?_drop] at hj
   obtain ⟨u,k1,k2⟩:=h _ _ hj
   rw [← Nat.add_assoc] at k1
   exact ⟨u,by simp [hlt,Array.getD_eq_getD_getElem?,k1],k2⟩
  ·cases hj
theorem ok_ld_cp (o:Oper) {t:TypeId} {x:Operand} {x':Opd} {n:Option Nat} {i:TypeInfo} {v:V} (ho:o.op=.load t x) (hx:chkOpd x x'=true)
  (hd:(P.underlying t).isSome=true) (hi:P.info? t=some i) (hn:n=if isStr P t then some i.size else none)
  (hv:stepOp F bd s (.ld .cp n x')=some (v,s')) (hI:Inv g w Pr s.σ) (hE:EnvOk g w Pr s.env a):OpOk P o a g w Pr s' v:=by
 have h1:=opd_rd hE hx (.tmp 0)
 simp only [stepOp] at hv
 split at hv
 ·rename_i l off hr
  rw [hr] at h1
  obtain ⟨b,q,hl,h2⟩:=h1
  split at hv
  ·rename_i cs hcs
   have hcs':s.σ[l]?=some (.cells cs):=by
    unfold getCells at hcs
    split at hcs
    ·rename_i h;cases hcs;exact h
    ·cases hcs
   obtain ⟨b',q',arr,ty,h3,h4,h5,h6,h7⟩:=hI.ob _ _ hcs'
   rw [hl] at h3
   cases h3
   split at hv
   ·split at hv
    ·rename_i c hc
     simp only [Option.some.injEq,Prod.mk.injEq] at hv
     obtain ⟨rfl,rfl⟩:=hv
     obtain ⟨u,k1,k2,k3⟩:=h7 _ _ hc
     have hs:isStr P t=false:=by
      cases hb:isStr P t
      ·rfl
      ·rw [hb] at hn;cases hn
     refine OpOk.pure (u:=u) ?_ hI hE (fun r=>RepC.down k3)
     simp only [execOp,ho,h2,Sem.run_bind,run_ld1 hd hs ((cell_of h5 _).trans k1)];rfl
    ·cases hv
   ·rename_i m
    split at hv
    ·rename_i hc
     cases hv
     have hs:isStr P t=true∧m=i.size:=by
      cases hb:isStr P t<;>rw [hb] at hn
      ·cases hn
      ·exact ⟨rfl,by injection hn⟩
     obtain ⟨hs,rfl⟩:=hs
     obtain ⟨us,u1,u2,u3⟩:=take_list (R:=fun i c u=>u.oneCell'=true∧RepC g w Pr (.cell l,[i]) c u) h7 hc
     refine OpOk.pure (u:=.agg us.toArray) ?_ hI hE (fun r=>?_)
     ·simp only [execOp,ho,h2,Sem.run_bind,run_ldN hd hs hi us u1 (fun j u hj=>(cell_of h5 _).trans (u2 j u hj))];rfl
     ·refine ⟨us.toArray,rfl,by simp [u1];omega,fun j c hj=>?_⟩
      simp only [List.getElem?_map,Option.map_eq_some_iff] at hj
      obtain ⟨c0,hc0,rfl⟩:=hj
      obtain ⟨u,k1,k2,k3⟩:=u3 _ _ hc0
      exact ⟨u,by simpa using k1,k2,RepC.down k3⟩
    ·cases hv
  ·cases hv
 ·rename_i row off hr
  rw [hr] at h1
  obtain ⟨b,q,vs,h2,h3⟩:=h1
  split at hv
  ·split at hv
   ·rename_i d hd'
    cases hv
    have hs:isStr P t=false:=by
     cases hb:isStr P t
     ·rfl
     ·rw [hb] at hn;cases hn
    obtain ⟨k1,k2⟩:=h3 _ _ hd'
    refine OpOk.pure (u:=vs off) ?_ hI hE (fun r=>k2)
    simp only [execOp,ho,h2,Sem.run_bind,run_ld1 hd hs k1.2.1];rfl
   ·cases hv
  ·rename_i m
   split at hv
   ·rename_i hc
    cases hv
    have hs:isStr P t=true∧m=i.size:=by
     cases hb:isStr P t<;>rw [hb] at hn
     ·cases hn
     ·exact ⟨rfl,by injection hn⟩
    obtain ⟨hs,rfl⟩:=hs
    have hrow:∀ j,j < i.size→row[off+j]?=some (row[off+j]?.getD default):=fun j hj=>by simp [List.getElem?_eq_getElem (show off+j < row.length by omega)]
    refine OpOk.pure (u:=.agg ((List.range i.size).map fun j=>vs (off+j)).toArray) ?_ hI hE (fun r=>?_)
    ·have:=run_ldN (P:=P) (w:=w) (b:=b) (o:=q+off) hd hs hi ((List.range i.size).map fun j=>vs (off+j)) (by simp) (fun j u hj=>by
      simp only [List.getElem?_map,Option.map_eq_some_iff] at hj
      obtain ⟨j',hj',rfl⟩:=hj
      obtain ⟨rfl,hlt⟩:=range_get hj'
      rw [Nat.add_assoc]
      exact (h3 _ _ (hrow _ hlt)).1.2.1)
     simp only [execOp,ho,h2,Sem.run_bind,this];rfl
    ·refine ⟨_,rfl,by simp;omega,fun j c hj=>?_⟩
     simp only [List.getElem?_map,Option.map_eq_some_iff] at hj
     obtain ⟨d,hd0,rfl⟩:=hj
     rw [List.getElem?_take] at hd0
     split at hd0
     ·rename_i hlt
      rw [List.getElem?_drop] at hd0
      obtain ⟨k1,k2⟩:=h3 _ _ hd0
      exact ⟨vs (off+j),by simp [hlt],RepD.scalar k2,k2⟩
     ·cases hd0
   ·cases hv
 ·cases hv
theorem RepV1.down' {r r':Root} {path:List Nat} {x:V} {v:Value} (h:RepV1 g w Pr r path x v):RepV g w Pr r' x.down v:=by
 cases x with
 | c y=>exact RepC.down (p:=(r,path)) (q:=(r',[])) h
 | agg cs =>
  obtain ⟨arr,h1,h2,h3⟩:=h
  refine ⟨arr,h1,by simpa using h2,fun i c hi=>?_⟩
  simp only [List.getElem?_map,Option.map_eq_some_iff] at hi
  obtain ⟨d,hd,rfl⟩:=hi
  obtain ⟨u,k1,k2,k3⟩:=h3 i d hd
  exact ⟨u,k1,k2,RepC.down k3⟩
 | tup vs=>exact h.elim
theorem ok_exd (o:Oper) {x:Operand} {x':Opd} {ix:Nat} {v:V} (ho:o.op=.extract x ix) (hx:chkOpd x x'=true)
  (hv:stepOp F bd s (.exd ix x')=some (v,s')) (hI:Inv g w Pr s.σ) (hE:EnvOk g w Pr s.env a):OpOk P o a g w Pr s' v:=by
 simp only [stepOp] at hv
 split at hv
 case h_2=>cases hv
 rename_i n
 split at hv
 case h_2=>cases hv
 rename_i vs hr
 split at hv
 case h_2=>cases hv
 rename_i v0 hv0
 cases hv
 have h1:=(opd_raw hE hx).1 n rfl
 have hr':s.raw (.t n)=.tup vs:=hr
 rw [hr'] at h1
 obtain ⟨arr,h2,h3⟩:=h1
 obtain ⟨u,h4,h5⟩:=h3 _ _ hv0
 exact OpOk.pure (u:=u) (by simp [execOp,ho,h2,Instr.extract,h4]) hI hE (fun r=>h5.down')
theorem ok_ext (o:Oper) {x:Operand} {x':Opd} {ix:Nat} {v:V} (ho:o.op=.extract x ix) (hx:chkOpd x x'=true)
  (hv:stepOp F bd s (.ext ix x')=some (v,s')) (hI:Inv g w Pr s.σ) (hE:EnvOk g w Pr s.env a):OpOk P o a g w Pr s' v:=by
 simp only [stepOp] at hv
 split at hv
 ·rename_i vs hr
  split at hv
  ·rename_i v0 hv0
   cases x' with
   | k c=>cases hv
   | t n =>
    simp only [Option.some.injEq,Prod.mk.injEq] at hv
    obtain ⟨rfl,rfl⟩:=hv
    have h1:=(opd_raw hE hx).1 n rfl
    rw [hr] at h1
    obtain ⟨arr,h2,h3⟩:=h1
    obtain ⟨u,h4,h5⟩:=h3 _ _ hv0
    let φ:Place→Place:=fun p=>if p.1=.tmp n∧p.2.head?=some ix then (.tmp (o.dst.getD 0),p.2.drop 1) else p
    have hdn:∀ m:Nat,m≠n→∀ p,φ (.tmp m,p)=(.tmp m,p):=fun m hm p=>by simp only [φ];rw [if_neg];rintro ⟨e,_⟩;exact hm (by cases e;rfl)
    refine ⟨u,w,g.ren Pr φ,fun _ _ _=>rfl,.inl ?_,Ext.ren φ,Fr.ren φ,Inv.ren φ (fun l i=>by simp [φ]) hI,?_,fun d hd=>?_⟩
    ·simp [execOp,ho,h2,Instr.extract,h4]
    ·intro t
     rw [env_get_cons]
     split
     ·subst_vars
      have hx2:∀ m,chkOpd x (.t m)=true→a.eval x=a.tmps.getD m undef:=by
       intro m hm
       cases x<;>simp [chkOpd] at hm
       subst hm;rfl
      rw [← hx2 _ hx,h2]
      refine ⟨arr,rfl,fun j y hj=>?_⟩
      rw [List.getElem?_set] at hj
      split at hj
      ·subst_vars
       split at hj
       ·cases hj
        exact ⟨u,h4,RepV1.down (RepV1.ren φ (r':=.tmp (o.dst.getD 0)) (path':=[]) (fun p=>by simp [φ]) h5)⟩
       ·cases hj
      ·rename_i hne
       obtain ⟨u',e1,e2⟩:=h3 _ _ hj
       exact ⟨u',e1,RepV1.ren φ (fun p=>by simp only [φ];rw [if_neg];rintro ⟨_,e⟩;simp at e;exact hne e.symm) e2⟩
     ·rename_i hne
      exact RepV.ren φ (hdn t (fun e=>hne e.symm)) (hE t)
    ·have h6:RepV1 (g.ren Pr φ) w Pr (.tmp d) [] v0 u:=RepV1.ren φ (fun p=>by simp [φ,hd]) h5
     cases v0 with
     | c y=>exact h6
     | agg y=>exact h6
     | tup y=>exact h6.elim
  ·cases hv
 ·cases hv
end
section
variable {P:Program} {g g':G} {w w':World} {Pr:Nat→Prop} {s s':St} {a:Act} {F:Oracle} {bd:Bd}
theorem run_eqGuard {op:BinOp} {t:TypeId} {x y:Operand} {u v:Value} (hu:∀ c,u≠.agg c) (hn:u≠.nilIface):(eqGuard op t x y u v).run P w=.ok () w:=by
 unfold eqGuard
 cases op<;>simp
 all_goals (cases u<;>first | rfl | (exact absurd rfl (hu _)) | (exact absurd rfl hn))
theorem ok_bin (o:Oper) {op:BinOp} {t t':TypeId} {x y:Operand} {x' y':Opd} {v:V} (ho:o.op=.binOp op t x y t') (hx:chkOpd x x'=true) (hy:chkOpd y y'=true)
  (hv:stepOp F bd s (.bin op x' y')=some (v,s')) (hI:Inv g w Pr s.σ) (hE:EnvOk g w Pr s.env a):OpOk P o a g w Pr s' v:=by
 have h1:=opd_rd hE hx (.tmp 0)
 have h2:=opd_rd hE hy (.tmp 0)
 simp only [stepOp] at hv
 split at hv
 ·rename_i d hd
  cases hv
  generalize s.rd x'=xv at *
  generalize s.rd y'=yv at *
  unfold binV at hd
  split at hd
  ·rename_i k p k' q
   have e1:=rep_int h1
   have e2:=rep_int h2
   cases hsh:isShift op
   case true =>
    rw [hsh] at hd
    simp only [cond_true] at hd
    obtain ⟨u,r1,r2⟩:=run_shift (P:=P) (w:=w) (g:=g) (t:=t) (k':=k') hd
    refine OpOk.pure (u:=u) ?_ hI hE (fun r=>r2)
    simp only [execOp,ho,e1,e2,Sem.run_bind,run_eqGuard (u:=Value.int _ p) (by simp) (by simp),Result.andThen_ok,r1];rfl
   rw [hsh] at hd
   simp only [cond_false] at hd
   split at hd
   ·subst_vars
    obtain ⟨u,r1,r2⟩:=run_arith (P:=P) (w:=w) (g:=g) (t:=t) hd
    refine OpOk.pure (u:=u) ?_ hI hE (fun r=>r2)
    simp only [execOp,ho,e1,e2,Sem.run_bind,run_eqGuard (u:=Value.int _ p) (by simp) (by simp),Result.andThen_ok,r1];rfl
   ·cases hd
  ·rename_i p q
   have e1:=rep_str h1
   have e2:=rep_str h2
   obtain ⟨u,r1,r2⟩:=run_strs (P:=P) (w:=w) (g:=g) (t:=t) hd
   refine OpOk.pure (u:=u) ?_ hI hE (fun r=>r2)
   simp only [execOp,ho,e1,e2,Sem.run_bind,run_eqGuard (u:=Value.string p) (by simp) (by simp),Result.andThen_ok,r1];rfl
  ·cases hd
 ·cases hv
def flatFs (P:Program) (F:TypeId→Option (List Nat)):List Field→Nat→Option (List Nat)
 | [],_=>some []
 | f :: fs,off=>if f.name ≠ "_" ∧ f.offset=off then match F f.type with
   | some ks=>if ks.length=P.cellsOf f.type then match flatFs P F fs (off+ks.length) with
     | some ks'=>some (ks ++ ks')
     | none=>none
    else none
   | none=>none
  else none
def flatTy (P:Program):Nat→TypeId→Option (List Nat)
 | 0,_=>none
 | n+1,t=>if (P.info? t).isSome then match P.underlying t with
   | some .bool=>some [0]
   | some (.int _)=>some [1]
   | some .string=>some [2]
   | some (.struct fs)=>if P.stoodInHeld t then none else flatFs P (flatTy P n) fs.toList 0
   | _=>none
  else none
theorem sames_cons {k:Nat} {ks:List Nat} {c d:C} {cs ds:List C} {r:Bool} (h:sames (k :: ks) (c :: cs) (d :: ds)=some r) :
  ∃ x y p q,c=.b (.d x)∧d=.b (.d y)∧D.same k x y=some p∧sames ks cs ds=some q∧r=(p && q):=by
 unfold sames at h
 split at h
 ·simp_all
 ·rename_i k' ks' x xs y ys h0 h1 h2
  cases h0;cases h1;cases h2
  split at h
  ·rename_i p q hp hq
   cases h
   exact ⟨_,_,p,q,rfl,rfl,hp,hq,rfl⟩
  ·cases h
 ·cases h
theorem sames_len:∀ {ks:List Nat} {cs ds:List C} {r:Bool},sames ks cs ds=some r→cs.length=ks.length∧ds.length=ks.length
 | [],[],[],_,_=>⟨rfl,rfl⟩
 | [],[],_ :: _,_,h=>by simp [sames] at h
 | [],_ :: _,_,_,h=>by simp [sames] at h
 | _ :: _,[],_,_,h=>by simp [sames] at h
 | _ :: _,_ :: _,[],_,h=>by simp [sames] at h
 | k :: ks,c :: cs,d :: ds,r,h=>by
  obtain ⟨x,y,p,q,_,_,_,hq,_⟩:=sames_cons h
  have:=sames_len hq
  simp [this]
theorem sames_split:∀ {ks ks':List Nat} {cs ds:List C} {r:Bool},sames (ks ++ ks') cs ds=some r →
  ∃ p q,sames ks (cs.take ks.length) (ds.take ks.length)=some p∧sames ks' (cs.drop ks.length) (ds.drop ks.length)=some q∧r=(p && q)
 | [],ks',cs,ds,r,h=>⟨true,r,by simp [sames],by simpa using h,by simp⟩
 | k :: ks,ks',[],ds,r,h=>by simp [sames] at h
 | k :: ks,ks',c :: cs,[],r,h=>by simp [sames] at h
 | k :: ks,ks',c :: cs,d :: ds,r,h=>by
  obtain ⟨x,y,p,q,rfl,rfl,hp,hq,rfl⟩:=sames_cons h
  obtain ⟨p',q',e1,e2,rfl⟩:=sames_split (ks:=ks) hq
  exact ⟨p && p',q',by simp [sames,hp,e1],by simpa using e2,by rw [Bool.and_assoc]⟩
def Vals (g:G) (w:World) (cs:List C) (arr:Array Value) (off:Nat):Prop:=∀ (i:Nat) (x:D),cs[i]?=some (.b (.d x))→∃ u,arr[off+i]?=some u∧RepD (g.st w) x u
def partOf (P:Program) (t:TypeId) (arr:Array Value) (off:Nat):Value:=if isStr P t then .agg (arr.extract off (off+P.cellsOf t)) else arr.getD off undef
theorem run_same {d:Nat} {t:TypeId} {k:Nat} {x y:D} {u v:Value} {p:Bool} (h:D.same k x y=some p) (hu:RepD (g.st w) x u) (hv:RepD (g.st w) y v)
  (h0:k=0→P.underlying t=some .bool) (h1:k=1→∃ k,P.underlying t=some (.int k)) (h2:k=2→P.underlying t=some .string):(Op.equalIn (d+1) t u v).run P w=.ok p w:=by
 unfold D.same at h
 split at h
 ·cases hu;cases hv;cases h;exact run_equalIn_bool' w d t _ _ (h0 rfl)
 ·cases hu;cases hv
  split at h
  ·subst_vars;cases h
   obtain ⟨k,hk⟩:=h1 rfl
   exact run_equalIn_int w d t _ k _ _ hk
  ·cases h
 ·cases hu;cases hv;cases h;exact run_equalIn_string w d t _ _ (h2 rfl)
 ·cases h
theorem vals_take {cs:List C} {arr:Array Value} {off n:Nat} (h:Vals g w cs arr off):Vals g w (cs.take n) arr off:=by
 intro i x hi
 rw [List.getElem?_take] at hi
 split at hi
 ·exact h i x hi
 ·cases hi
theorem vals_drop {cs:List C} {arr:Array Value} {off n:Nat} (h:Vals g w cs arr off):Vals g w (cs.drop n) arr (off+n):=by
 intro i x hi
 rw [List.getElem?_drop] at hi
 obtain ⟨u,h1,h2⟩:=h _ x hi
 exact ⟨u,by rw [Nat.add_assoc];exact h1,h2⟩
theorem vals_extract {cs:List C} {arr:Array Value} {off n:Nat} (h:Vals g w cs arr off) (hn:cs.length≤n):Vals g w cs (arr.extract off (off+n)) 0:=by
 intro i x hi
 obtain ⟨u,h1,h2⟩:=h _ x hi
 have hlt:=(List.getElem?_eq_some_iff.mp hi).1
 have hlt2:=(Array.getElem?_eq_some_iff.mp h1).1
 refine ⟨u,?_,h2⟩
 rw [Array.getElem?_extract,if_pos (by omega)]
 simpa using h1
theorem run_part {t:TypeId} {i:TypeInfo} {arr:Array Value} {off:Nat} (hd:(P.underlying t).isSome=true) (hi:P.info? t=some i) (h:isStr P t=false→off < arr.size) :
  (part t arr off).run P w=.ok (partOf P t arr off) w:=by
 cases hs:isStr P t
 ·have:=h hs
  simp [part,run_isAgg hd,hs,partOf,this,Array.getD_eq_getD_getElem?]
 ·simp [part,run_isAgg hd,hs,partOf,run_sizeOf w hi]
theorem flat_scalar {n:Nat} {t:TypeId} {ks:List Nat} (h:flatTy P n t=some ks) (hs:isStr P t=false):∃ k,ks=[k]∧(k=0→P.underlying t=some .bool)∧(k=1→∃ k,P.underlying t=some (.int k))∧(k=2→P.underlying t=some .string):=by
 cases n with
 | zero=>simp [flatTy] at h
 | succ n =>
  simp only [flatTy] at h
  split at h
  ·split at h
   ·rename_i hu;cases h;exact ⟨0,rfl,fun _=>hu,by simp,by simp⟩
   ·rename_i k hu;cases h;exact ⟨1,rfl,by simp,fun _=>⟨k,hu⟩,by simp⟩
   ·rename_i hu;cases h;exact ⟨2,rfl,by simp,by simp,fun _=>hu⟩
   ·rename_i fs hu;simp [isStr,hu] at hs
   ·cases h
  ·cases h
theorem flat_info {n:Nat} {t:TypeId} {ks:List Nat} (h:flatTy P n t=some ks):∃ i,P.info? t=some i∧(P.underlying t).isSome=true:=by
 cases n with
 | zero=>simp [flatTy] at h
 | succ n =>
  simp only [flatTy] at h
  split at h
  ·rename_i hi
   obtain ⟨i,hi⟩:=Option.isSome_iff_exists.mp hi
   refine ⟨i,hi,?_⟩
   cases hu:P.underlying t with
   | none=>simp [hu] at h
   | some d=>rfl
  ·cases h
theorem run_flat:∀ (n:Nat) (t:TypeId) (ks:List Nat),flatTy P n t=some ks→∀ d,n≤d→∀ (cs ds:List C) (xs ys:Array Value) (r:Bool) (ox oy:Nat),sames ks cs ds=some r →
  Vals g w cs xs ox→Vals g w ds ys oy→(isStr P t=true→ks.length=P.cellsOf t)→(Op.equalIn d t (partOf P t xs ox) (partOf P t ys oy)).run P w=.ok r w
 | 0,_,_,h,_,_=>by simp [flatTy] at h
 | n+1,t,ks,h,d,hd=>by
  intro cs ds xs ys r ox oy hr hx hy hsz
  obtain ⟨d,rfl⟩:∃ e,d=e+1:=⟨d - 1,by omega⟩
  cases hs:isStr P t
  ·obtain ⟨k,rfl,h0,h1,h2⟩:=flat_scalar h hs
   obtain ⟨l1,l2⟩:=sames_len hr
   obtain ⟨c,rfl⟩:=List.length_eq_one_iff.mp l1
   obtain ⟨c',rfl⟩:=List.length_eq_one_iff.mp l2
   obtain ⟨x,y,p,q,rfl,rfl,hp,hq,rfl⟩:=sames_cons hr
   simp only [sames,Option.some.injEq] at hq
   subst hq
   obtain ⟨u,e1,e2⟩:=hx 0 x rfl
   obtain ⟨v,e3,e4⟩:=hy 0 y rfl
   have e5:xs.getD ox undef=u:=by simp at e1;simp [Array.getD_eq_getD_getElem?,e1]
   have e6:ys.getD oy undef=v:=by simp at e3;simp [Array.getD_eq_getD_getElem?,e3]
   simp only [partOf,hs,Bool.false_eq_true,if_false,e5,e6,Bool.and_true]
   exact run_same hp e2 e4 h0 h1 h2
  ·have hsz':=hsz hs
   simp only [partOf,hs,if_true]
   simp only [flatTy] at h
   split at h
   case isFalse=>cases h
   rename_i hinf
   split at h
   ·rename_i hu;simp [isStr,hu] at hs
   ·rename_i hu;simp [isStr,hu] at hs
   ·rename_i hu;simp [isStr,hu] at hs
   ·rename_i fs hu
    split at h
    ·cases h
    ·rename_i hst
     have hf:P.fieldsOf t=fs:=by simp [Program.fieldsOf,hu]
     rw [run_equalIn_struct (P:=P) w d t _ _ (by rw [hf];exact hu) (by simpa using hst),hf]
     obtain ⟨l1,l2⟩:=sames_len hr
     have hx':=vals_extract (n:=P.cellsOf t) hx (by omega)
     have hy':=vals_extract (n:=P.cellsOf t) hy (by omega)
     generalize xs.extract ox (ox+P.cellsOf t)=xs' at hx'
     generalize ys.extract oy (oy+P.cellsOf t)=ys' at hy'
     clear hx hy hsz hsz' l1 l2 hs hst hf hu hinf
     generalize fs.toList=fl at h
     generalize 0=off at h hx' hy'
     induction fl generalizing ks cs ds r off with
     | nil =>
      simp only [flatFs,Option.some.injEq] at h
      subst h
      have:=sames_len hr
      obtain ⟨rfl,rfl⟩:cs=[]∧ds=[]:=⟨List.length_eq_zero_iff.mp this.1,List.length_eq_zero_iff.mp this.2⟩
      simp only [sames,Option.some.injEq] at hr
      subst hr
      simp [Op.eqFields]
     | cons f fl ih =>
      simp only [flatFs] at h
      split at h
      case isFalse=>cases h
      rename_i hn
      obtain ⟨hn,rfl⟩:=hn
      split at h
      case h_2=>cases h
      rename_i k1 hk1
      split at h
      case isFalse=>cases h
      rename_i hlen
      split at h
      case h_2=>cases h
      rename_i k2 hk2
      cases h
      obtain ⟨p,q,s1,s2,rfl⟩:=sames_split hr
      obtain ⟨i,hi,hd'⟩:=flat_info hk1
      have key:∀ (zs:List C) (arr:Array Value) (hz:Vals g w zs arr f.offset) (hl:∀ x,zs[0]?=some x→∃ y,x=.b (.d y)),zs.length=(k1 ++ k2).length→isStr P f.type=false→f.offset < arr.size:=by
       intro zs arr hz hl hlz hss
       obtain ⟨k,rfl,_⟩:=flat_scalar hk1 hss
       cases zs with
       | nil=>simp at hlz
       | cons z zs =>
        obtain ⟨y,rfl⟩:=hl z rfl
        obtain ⟨u,e1,_⟩:=hz 0 y rfl
        exact (Array.getElem?_eq_some_iff.mp e1).1
      have hlens:=sames_len hr
      have hfst:∀ (x:C),(cs[0]?=some x∨ds[0]?=some x)→isStr P f.type=false→∃ y,x=.b (.d y):=by
       intro x hx hss
       obtain ⟨k,rfl,_⟩:=flat_scalar hk1 hss
       cases cs with
       | nil=>simp at hlens
       | cons c cs =>
        cases ds with
        | nil=>simp at hlens
        | cons d ds =>
         obtain ⟨x',y',_,_,rfl,rfl,_⟩:=sames_cons hr
         rcases hx with hx | hx
         ·simp at hx;exact ⟨_,hx.symm⟩
         ·simp at hx;exact ⟨_,hx.symm⟩
      have p1:=run_part (P:=P) (w:=w) (arr:=xs') (off:=f.offset) hd' hi (fun hss=>key cs xs' hx' (fun x hx=>hfst x (.inl hx) hss) hlens.1 hss)
      have p2:=run_part (P:=P) (w:=w) (arr:=ys') (off:=f.offset) hd' hi (fun hss=>key ds ys' hy' (fun x hx=>hfst x (.inr hx) hss) hlens.2 hss)
      have p3:=run_flat n f.type k1 hk1 d (by omega) _ _ xs' ys' p f.offset f.offset s1 (vals_take hx') (vals_take hy') (fun _=>hlen)
      simp only [Op.eqFields,if_pos hn,Sem.run_bind,p1,p2,p3,Result.andThen_ok]
      cases p
      ·simp
      ·have:=ih k2 _ _ q s2 _ hk2 (vals_drop hx') (vals_drop hy')
       simpa using this
   ·cases h
end
section
variable {P:Program} {g g':G} {w w':World} {Pr:Nat→Prop} {s s':St} {a:Act} {F:Oracle} {bd:Bd}
def eqKind (P:Program) (t:TypeId) (ks:List Nat):Nat→Bool
 | 0=>match P.underlying t with | some .bool=>true | _=>false
 | 1=>match P.underlying t with | some (.pointer _)=>true | _=>false
 | 2=>!P.eqGuardType P.depth t && isStr P t && (flatTy P 50 t == some ks) && ks.length == P.cellsOf t
 | 3=>match P.underlying t with | some (.map _ _)=>true | _=>false
 | 4=>match P.underlying t with | some (.slice _)=>true | _=>false
 | _=>false
theorem run_eq_ptr {d:Nat} {t e:TypeId} {q:Option Addr} (hu:P.underlying t=some (.pointer e)):(Op.equalIn (d+1) t (.pointer none) (.pointer q)).run P w=.ok q.isNone w:=by
 simp [Op.equalIn,run_underlying hu]
theorem run_eq_ptr' {d:Nat} {t e:TypeId} {q:Addr} (hu:P.underlying t=some (.pointer e)):(Op.equalIn (d+1) t (.pointer (some q)) (.pointer none)).run P w=.ok false w:=by
 simp [Op.equalIn,run_underlying hu]
theorem run_eq_map {d:Nat} {t k e:TypeId} {q:Option Nat} (hu:P.underlying t=some (.map k e)):(Op.equalIn (d+1) t (.map none) (.map q)).run P w=.ok q.isNone w:=by
 simp [Op.equalIn,run_underlying hu]
theorem run_eq_map' {d:Nat} {t k e:TypeId} {q:Nat} (hu:P.underlying t=some (.map k e)):(Op.equalIn (d+1) t (.map (some q)) (.map none)).run P w=.ok false w:=by
 simp [Op.equalIn,run_underlying hu]
theorem run_eq_sl {d:Nat} {t e:TypeId} {q:Option Addr} {n c:Nat} (hu:P.underlying t=some (.slice e)):(Op.equalIn (d+1) t (.slice q n c) (.slice none 0 0)).run P w=.ok q.isNone w:=by
 cases q<;>simp [Op.equalIn,run_underlying hu]
theorem binOp_eq {t:TypeId} {u v:Value} {r:Bool} (h:(Op.equal t u v).run P w=.ok r w) (hu:(∃ b,u=.bool b)∨(∃ q,u=.pointer q)∨(∃ cs,u=.agg cs)∨(∃ m,u=.map m)∨∃ q n c,u=.slice q n c) (neg:Bool) :
  (binOp (bif neg then .neq else .eql) t u v).run P w=.ok (.bool (bif neg then !r else r)) w:=by
 rcases hu with ⟨b,rfl⟩ | ⟨q,rfl⟩ | ⟨cs,rfl⟩ | ⟨m,rfl⟩ | ⟨q,n,c,rfl⟩<;>cases neg<;>simp [binOp,h]
theorem ok_eq (o:Oper) {neg:Bool} {kd:Nat} {ks:List Nat} {t t':TypeId} {x y:Operand} {x' y':Opd} {v:V} (ho:o.op=.binOp (bif neg then .neq else .eql) t x y t') (hx:chkOpd x x'=true) (hy:chkOpd y y'=true)
  (hk:eqKind P t ks kd=true)
  (hv:stepOp F bd s (.eq neg kd ks x' y')=some (v,s')) (hI:Inv g w Pr s.σ) (hE:EnvOk g w Pr s.env a):OpOk P o a g w Pr s' v:=by
 have h1:=opd_rd hE hx (.tmp 0)
 have h2:=opd_rd hE hy (.tmp 0)
 simp only [stepOp] at hv
 split at hv
 case h_2=>cases hv
 rename_i r hr
 cases hv
 have fin:∀ {u v:Value} (e1:a.eval x=u) (e2:a.eval y=v) (hg:(eqGuard (bif neg then .neq else .eql) t x y u v).run P w=.ok () w)
   (h:(Op.equal t u v).run P w=.ok r w) (hu:(∃ b,u=.bool b)∨(∃ q,u=.pointer q)∨(∃ cs,u=.agg cs)∨(∃ m,u=.map m)∨∃ q n c,u=.slice q n c),OpOk P o a g w Pr s (.c (.b (.d (.bool (bif neg then !r else r))))):=by
  intro u v e1 e2 hg h hu
  refine OpOk.pure (u:=.bool (bif neg then !r else r)) ?_ hI hE (fun _=>RepD.bool _)
  simp only [execOp,ho,e1,e2,Sem.run_bind,hg,Result.andThen_ok,binOp_eq h hu];rfl
 generalize s.rd x'=xv at *
 generalize s.rd y'=yv at *
 generalize a.eval x=u at *
 generalize a.eval y=v at *
 unfold eqV at hr
 split at hr
 ·have e1:=rep_bool h1
  have e2:=rep_bool h2
  subst e1;subst e2
  cases hr
  simp only [eqKind] at hk
  split at hk
  ·rename_i hu
   exact fin rfl rfl (run_eqGuard (by simp) (by simp)) (run_equalIn_bool' w _ t _ _ hu) (.inl ⟨_,rfl⟩)
  ·cases hk
 ·cases hr;cases h1;cases h2
  simp only [eqKind] at hk
  split at hk
  ·rename_i e hu
   exact fin rfl rfl (run_eqGuard (by simp) (by simp)) (run_eq_ptr (d:=9999) hu) (.inr (.inl ⟨_,rfl⟩))
  ·cases hk
 ·cases hr;cases h1;obtain ⟨b,q,hl,rfl⟩:=h2
  simp only [eqKind] at hk
  split at hk
  ·rename_i e hu
   exact fin rfl rfl (run_eqGuard (by simp) (by simp)) (run_eq_ptr (d:=9999) hu) (.inr (.inl ⟨_,rfl⟩))
  ·cases hk
 ·cases hr;cases h2;obtain ⟨b,q,hl,rfl⟩:=h1
  simp only [eqKind] at hk
  split at hk
  ·rename_i e hu
   exact fin rfl rfl (run_eqGuard (by simp) (by simp)) (run_eq_ptr' (d:=9999) hu) (.inr (.inl ⟨_,rfl⟩))
  ·cases hk
 ·cases hr;cases h1;obtain ⟨b,q,vs,rfl,_⟩:=h2
  simp only [eqKind] at hk
  split at hk
  ·rename_i e hu
   exact fin rfl rfl (run_eqGuard (by simp) (by simp)) (run_eq_ptr (d:=9999) hu) (.inr (.inl ⟨_,rfl⟩))
  ·cases hk
 ·cases hr;cases h2;obtain ⟨b,q,vs,rfl,_⟩:=h1
  simp only [eqKind] at hk
  split at hk
  ·rename_i e hu
   exact fin rfl rfl (run_eqGuard (by simp) (by simp)) (run_eq_ptr' (d:=9999) hu) (.inr (.inl ⟨_,rfl⟩))
  ·cases hk
 ·rename_i cs ds
  obtain ⟨arr,rfl,hl1,hc1⟩:=h1
  obtain ⟨brr,rfl,hl2,hc2⟩:=h2
  simp only [eqKind,Bool.and_eq_true,Bool.not_eq_true',beq_iff_eq] at hk
  obtain ⟨⟨⟨k1,k2⟩,k3⟩,k4⟩:=hk
  obtain ⟨l1,l2⟩:=sames_len hr
  have va:Vals g w cs arr 0:=fun i x hi=>by obtain ⟨u,q1,_,q3⟩:=hc1 i _ hi;exact ⟨u,by simpa using q1,q3⟩
  have vb:Vals g w ds brr 0:=fun i x hi=>by obtain ⟨u,q1,_,q3⟩:=hc2 i _ hi;exact ⟨u,by simpa using q1,q3⟩
  have h:=run_flat (P:=P) (w:=w) 50 t ks k3 Op.maxDepth (by decide) cs ds arr brr r 0 0 hr va vb (fun _=>k4)
  simp only [partOf,k2,if_true,Nat.zero_add] at h
  rw [show arr.extract 0 (P.cellsOf t)=arr by apply Array.extract_eq_self_of_le;omega,show brr.extract 0 (P.cellsOf t)=brr by apply Array.extract_eq_self_of_le;omega] at h
  refine fin rfl rfl ?_ h (.inr (.inr (.inl ⟨_,rfl⟩)))
  unfold eqGuard
  cases neg<;>simp [k1]
 ·cases hr;cases h1;cases h2
  simp only [eqKind] at hk
  split at hk
  ·rename_i e f hu
   exact fin rfl rfl (run_eqGuard (by simp) (by simp)) (run_eq_map (d:=9999) hu) (.inr (.inr (.inr (.inl ⟨_,rfl⟩))))
  ·cases hk
 ·cases hr;cases h2;obtain ⟨b,q,hl,rfl⟩:=h1
  simp only [eqKind] at hk
  split at hk
  ·rename_i e f hu
   exact fin rfl rfl (run_eqGuard (by simp) (by simp)) (run_eq_map' (d:=9999) hu) (.inr (.inr (.inr (.inl ⟨_,rfl⟩))))
  ·cases hk
 ·cases hr;cases h1;obtain ⟨b,q,hl,rfl⟩:=h2
  simp only [eqKind] at hk
  split at hk
  ·rename_i e f hu
   exact fin rfl rfl (run_eqGuard (by simp) (by simp)) (run_eq_map (d:=9999) hu) (.inr (.inr (.inr (.inl ⟨_,rfl⟩))))
  ·cases hk
 ·cases hr;cases h1;cases h2
  simp only [eqKind] at hk
  split at hk
  ·rename_i e hu
   exact fin rfl rfl (run_eqGuard (by simp) (by simp)) (run_eq_sl (d:=9999) hu) (.inr (.inr (.inr (.inr ⟨_,_,_,rfl⟩))))
  ·cases hk
 ·cases hr;cases h2;obtain ⟨ad,cap,rfl⟩:=h1
  simp only [eqKind] at hk
  split at hk
  ·rename_i e hu
   exact fin rfl rfl (run_eqGuard (by simp) (by simp)) (run_eq_sl (d:=9999) hu) (.inr (.inr (.inr (.inr ⟨_,_,_,rfl⟩))))
  ·cases hk
 ·cases hr;cases h2;obtain ⟨b,q,cap,arr,ty,_,rfl,_⟩:=h1
  simp only [eqKind] at hk
  split at hk
  ·rename_i e hu
   exact fin rfl rfl (run_eqGuard (by simp) (by simp)) (run_eq_sl (d:=9999) hu) (.inr (.inr (.inr (.inr ⟨_,_,_,rfl⟩))))
  ·cases hk
 ·cases hr;cases h2
  cases h1
  simp only [eqKind] at hk
  split at hk
  ·rename_i e hu
   exact fin rfl rfl (run_eqGuard (by simp) (by simp)) (run_eq_sl (d:=9999) hu) (.inr (.inr (.inr (.inr ⟨_,_,_,rfl⟩))))
  ·cases hk
 ·cases hr
end
end Go.Proofs.YteeofkbhopioiaaGreatDoor.Am
