/- The abstract machine: plain data, numbered objects, one evaluator. -/
import Derived.Orders
import Derived.Below
import Derived.LoopN
namespace Go.Proofs.Ytjkhkblabhaimaa.Am
set_option linter.unusedSimpArgs false
set_option linter.unusedVariables false
open Go

/-- A cell of plain data: no memory in it; a slice is its rows, a row its cells. -/
inductive D where
  | bool (b : Bool)
  | int (k : IntKind) (n : Int)
  | str (s : ByteArray)
  | sl (rows : List (List D))
  deriving Inhabited

/-- A cell that owns nothing. -/
inductive B where
  | d (x : D)
  | ptr (l off : Nat)
  | nilp
  | rop (row : List D) (off : Nat)
  | arr (k l off len : Nat)
  | map (l : Nat)
  | nilm
  | nils
  | emp
  | any
  deriving Inhabited

/-- A cell; 'osl': a slice that may be grown. -/
inductive C where
  | b (x : B)
  | osl (k : Nat) (rows : List (List D))
  | fn (f : Nat) (fst cap : List B)
  | nilf
  deriving Inhabited

inductive V where
  | c (x : C)
  | agg (cs : List C)
  | tup (vs : List V)
  deriving Inhabited

/-- An object. -/
inductive Ob where
  | cells (cs : List C)
  | map (es : List (V × V))
  | dead
  deriving Inhabited

def C.down : C → C
  | .osl _ rows => .b (.d (.sl rows))
  | x => x

def V.down : V → V
  | .c x => .c x.down
  | .agg cs => .agg (cs.map C.down)
  | .tup _ => .c (.b .any)

abbrev Env := List (Nat × V)

def Env.get : Env → Nat → V
  | [], _ => .c (.b .any)
  | (a, v) :: e, t => bif a == t then v else Env.get e t

def Env.keep (e : Env) : List Nat → Env
  | [] => []
  | t :: ts => (t, e.get t) :: Env.keep e ts

structure St where
  env : Env
  σ : List Ob

inductive Opd where
  | t (n : Nat)
  | k (v : V)

def St.raw (s : St) : Opd → V
  | .t n => s.env.get n
  | .k v => v

def St.rd (s : St) (x : Opd) : V := (s.raw x).down

/-- What is read with its right to grow leaves its place without it. -/
def St.took (s : St) : Opd → St
  | .t n => { s with env := (n, (s.env.get n).down) :: s.env }
  | .k _ => s

def St.set (s : St) (d : Option Nat) (v : V) : St :=
  match d with
  | some t => { s with env := (t, v) :: s.env }
  | none => s

/-- A value's cells; none: it is not known, or a tuple. -/
def V.cells : V → Option (List C)
  | .c (.b .any) => none
  | .c x => some [x]
  | .agg cs => some cs
  | .tup _ => none

def C.data : C → Option D
  | .b (.d x) => some x
  | .osl _ rows => some (.sl rows)
  | _ => none

def datas : List C → Option (List D)
  | [] => some []
  | c :: cs => match c.data, datas cs with
    | some x, some xs => some (x :: xs)
    | _, _ => none

/-- Rows of k cells. -/
def chunk (k : Nat) : Nat → List C → Option (List (List D))
  | 0, _ => some []
  | n + 1, cs => match datas (cs.take k), chunk k n (cs.drop k) with
    | some r, some rs => if r.length = k then some (r :: rs) else none
    | _, _ => none

def putAt (zs : List C) (off : Nat) (cs : List C) : Option (List C) :=
  if off + cs.length ≤ zs.length then some (zs.take off ++ cs ++ zs.drop (off + cs.length)) else none

def arith (op : BinOp) (k : IntKind) (x y : Int) : Option D :=
  match op with
  | .add => some (.int k (k.wrap (x + y)))
  | .sub => some (.int k (k.wrap (x - y)))
  | .mul => some (.int k (k.wrap (x * y)))
  | .quo => if y = 0 then none else some (.int k (k.wrap (x.tdiv y)))
  | .rem => if y = 0 then none else some (.int k (x.tmod y))
  | .eql => some (.bool (x == y))
  | .neq => some (.bool (x != y))
  | .lss => some (.bool (x < y))
  | .leq => some (.bool (x ≤ y))
  | .gtr => some (.bool (x > y))
  | .geq => some (.bool (x ≥ y))
  | .and => some (.int k (k.wrap (BitVec.ofInt k.bits x &&& BitVec.ofInt k.bits y).toNat))
  | .or => some (.int k (k.wrap (BitVec.ofInt k.bits x ||| BitVec.ofInt k.bits y).toNat))
  | _ => none

/-- Shifts: the kinds may be two. -/
def shifted (op : BinOp) (k : IntKind) (x y : Int) : Option D :=
  match op with
  | .shl => if y < 0 then none else some (.int k (k.wrap (x * 2 ^ (min y.toNat k.bits))))
  | .shr => if y < 0 then none else some (.int k (x.fdiv (2 ^ (min y.toNat k.bits))))
  | _ => none

def isShift : BinOp → Bool
  | .shl | .shr => true
  | _ => false

def strs (op : BinOp) (x y : ByteArray) : Option D :=
  match op with
  | .eql => some (.bool (x.toList == y.toList))
  | .neq => some (.bool (!(x.toList == y.toList)))
  | .add => if ((x.size + y.size : Nat) : Int) > IntKind.i64.max then none else some (.str (x ++ y))
  | _ => none

/-- '==' of two scalars of a kind: 0 bools, 1 whole numbers, 2 strings. -/
def D.same : Nat → D → D → Option Bool
  | 0, .bool a, .bool b => some (a == b)
  | 1, .int k a, .int k' b => if k = k' then some (a == b) else none
  | 2, .str a, .str b => some (a.toList == b.toList)
  | _, _, _ => none

def sames : List Nat → List C → List C → Option Bool
  | [], [], [] => some true
  | k :: ks, .b (.d x) :: xs, .b (.d y) :: ys => match D.same k x y, sames ks xs ys with
    | some p, some q => some (p && q)
    | _, _ => none
  | _, _, _ => none

/-- '==' by the kind of type: 0 bools, 1 pointers (one of them nil), 2 structs of plain cells, 3 maps (one of them nil). -/
def eqV (ks : List Nat) : Nat → V → V → Option Bool
  | 0, .c (.b (.d (.bool a))), .c (.b (.d (.bool b))) => some (a == b)
  | 1, .c (.b .nilp), .c (.b .nilp) => some true
  | 1, .c (.b .nilp), .c (.b (.ptr _ _)) => some false
  | 1, .c (.b (.ptr _ _)), .c (.b .nilp) => some false
  | 1, .c (.b .nilp), .c (.b (.rop _ _)) => some false
  | 1, .c (.b (.rop _ _)), .c (.b .nilp) => some false
  | 2, .agg a, .agg b => sames ks a b
  | 3, .c (.b .nilm), .c (.b .nilm) => some true
  | 3, .c (.b (.map _)), .c (.b .nilm) => some false
  | 3, .c (.b .nilm), .c (.b (.map _)) => some false
  | 4, .c (.b .nils), .c (.b .nils) => some true
  | 4, .c (.b .emp), .c (.b .nils) => some false
  | 4, .c (.b (.arr _ _ _ _)), .c (.b .nils) => some false
  | 4, .c (.b (.d (.sl (_ :: _)))), .c (.b .nils) => some false
  | _, _, _ => none

def binV (op : BinOp) : V → V → Option D
  | .c (.b (.d (.int k a))), .c (.b (.d (.int k' b))) => bif isShift op then shifted op k a b else if k = k' then arith op k a b else none
  | .c (.b (.d (.str a))), .c (.b (.d (.str b))) => strs op a b
  | _, _ => none

def unV (op : UnOp) : V → Option D
  | .c (.b (.d (.int k n))) => match op with
    | .neg => some (.int k (k.wrap (0 - n)))
    | _ => none
  | .c (.b (.d (.bool b))) => match op with
    | .not => some (.bool (!b))
    | _ => none
  | _ => none

inductive Mode where
  | cp | own | frz | arr
  deriving DecidableEq

inductive AOp where
  | mov (m : Mode) (x : Opd)
  | pick (c a b : Opd)
  | alloc (zs : List C)
  | box (x : Opd)
  | build (zs : List C) (parts : List (Nat × Nat × Opd))
  | bsl (m : Mode) (k n : Nat) (zs : List C) (parts : List (Nat × Opd))
  | ld (m : Mode) (n : Option Nat) (x : Opd)
  | st (n : Nat) (a x : Opd)
  | bin (op : BinOp) (x y : Opd)
  | eq (neg : Bool) (kd : Nat) (ks : List Nat) (x y : Opd)
  | un (op : UnOp) (x : Opd)
  | conv (k : IntKind) (x : Opd)
  | fa (off : Nat) (x : Opd)
  | fld (off : Nat) (n : Option Nat) (x : Opd)
  | ia (k : Nat) (x i : Opd)
  | ixs (x i : Opd)
  | slc (m : Mode) (k : Nat) (x : Opd) (lo hi : Option Opd)
  | slcs (x : Opd) (lo hi : Option Opd)
  | mks (m : Mode) (k bytes : Nat) (zs : List C) (len cap : Opd)
  | ext (i : Nat) (x : Opd)
  | len (kd : Nat) (x : Opd)
  | app (k bytes : Nat) (x y : Opd)
  | call (f : Nat) (args : List Opd)
  | callp (f : Nat) (args : List Opd)
  | callb (f : Nat) (args : List Opd)
  | bad
  | appa (k bytes : Nat) (x y : Opd)
  | cpy (k : Nat) (x y : Opd)
  | mm (mx : Bool) (x y : Opd)
  | callv (x : Opd) (args : List Opd)
  | mkf (f : Nat) (fst cap : List Opd)
  | mkm
  | lkp (ks : List Nat) (zs : V) (ok : Bool) (x key : Opd)
  | upd (ks : List Nat) (x key v : Opd)

structure AIns where
  dst : Option Nat
  op : AOp
  guard : Option (Nat × Bool)

inductive ACode where
  | skip
  | region (draw : Bool) (ops : List AIns) (keep : List Nat)
  | seq (a b : ACode)
  | cond (x : Opd) (a b : ACode)
  | block (id : Nat) (c : ACode)
  | loop (c : ACode)
  | exit (id : Nat)
  | ret
  | wrap (cut : Bool) (nrm ret : List Nat) (exs : List (Nat × List Nat)) (c : ACode)

inductive AExit where
  | normal | exit (id : Nat) | ret
  deriving DecidableEq

/-- Which function of the program: the same one may be written out in more than one way. -/
def fnOf (f : Nat) : Nat := f % 4096

inductive ARes where
  | tmp (t : Nat)
  | cell (t : Nat) (n : Option Nat)

/-- How a call leaves the objects: 'pure': those that stood before stay, new ones are forgotten; 'trim': those that stood before may be written with plain data; 'free': all stay. -/
inductive Kp where
  | pure | trim | free
  deriving DecidableEq

structure AFun where
  params : Nat
  body : ACode
  results : List ARes
  kp : Kp
  split : Bool := false

/-- What a call is asked: function, arguments, objects, below which object nothing is written, below which only plain data. -/
abbrev Oracle := Nat → List V → List Ob → Nat → Nat → Option (V × List Ob)

/-- The bounds of writing. -/
structure Bd where
  lo : Nat
  tr : Nat

def C.plain : C → Bool
  | .b (.d _) => true
  | _ => false

def mayWrite (bd : Bd) (l : Nat) (cs : List C) : Bool :=
  decide (bd.lo ≤ l) && (decide (bd.tr ≤ l) || cs.all C.plain)

def getCells (σ : List Ob) (l : Nat) : Option (List C) :=
  match σ[l]? with
  | some (.cells cs) => some cs
  | _ => none

def datasF (h : C → Option D) : List C → Option (List D)
  | [] => some []
  | c :: cs => match h c, datasF h cs with
    | some x, some xs => some (x :: xs)
    | _, _ => none

def chunkF (h : C → Option D) (k : Nat) : Nat → List C → Option (List (List D))
  | 0, _ => some []
  | n + 1, cs => match datasF h (cs.take k), chunkF h k n (cs.drop k) with
    | some r, some rs => if r.length = k then some (r :: rs) else none
    | _, _ => none

/-- A value that nobody writes to any more: slices in objects, those of S alone, become rows. -/
def frzD (S : Nat → Bool) (σ : List Ob) : Nat → C → Option D
  | 0, _ => none
  | f + 1, c => match c with
    | .b (.d x) => some x
    | .osl _ rows => some (.sl rows)
    | .b .nils => some (.sl [])
    | .b .emp => some (.sl [])
    | .b (.arr k l off len) => if S l = true then match getCells σ l with
        | some cs => match chunkF (frzD S σ f) k len (cs.drop off) with
          | some rows => some (.sl rows)
          | none => none
        | none => none
      else none
    | _ => none

def frzC (S : Nat → Bool) (σ : List Ob) (c : C) : Option C := match c with
  | .b (.arr k l off len) => if S l = true then match frzD S σ 4 (.b (.arr k l off len)) with
      | some d => some (.b (.d d))
      | none => none
    else some c
  | .b .nils => some (.b (.d (.sl [])))
  | .b .emp => some (.b (.d (.sl [])))
  | c => some c

def frzCs (S : Nat → Bool) (σ : List Ob) : List C → Option (List C)
  | [] => some []
  | c :: cs => match frzC S σ c, frzCs S σ cs with
    | some x, some xs => some (x :: xs)
    | _, _ => none

def frz1 (S : Nat → Bool) (σ : List Ob) : V → Option V
  | .c c => match frzC S σ c with
    | some c => some (.c c)
    | none => none
  | .agg cs => match frzCs S σ cs with
    | some cs => some (.agg cs)
    | none => none
  | .tup vs => some (.tup vs)

def frz1s (S : Nat → Bool) (σ : List Ob) : List V → Option (List V)
  | [] => some []
  | v :: vs => match frz1 S σ v, frz1s S σ vs with
    | some x, some xs => some (x :: xs)
    | _, _ => none

def frzV (S : Nat → Bool) (σ : List Ob) : V → Option V
  | .tup vs => match frz1s S σ vs with
    | some vs => some (.tup vs)
    | none => none
  | v => frz1 S σ v

/-- The objects that a value's slices lie in. -/
def arrsOf (σ : List Ob) : Nat → C → List Nat
  | 0, _ => []
  | f + 1, c => match c with
    | .b (.arr _ l _ _) => l :: (match getCells σ l with
      | some cs => cs.flatMap (arrsOf σ f)
      | none => [])
    | _ => []

def killAll : List Nat → List Ob → List Ob
  | [], σ => σ
  | l :: ls, σ => killAll ls (σ.set l .dead)

def rowsOf (σ : List Ob) : V → Option (List (List D))
  | .c (.osl _ rows) => some rows
  | .c (.b (.d (.sl rows))) => some rows
  | .c (.b (.arr k l off len)) => match getCells σ l with
    | some cs => chunk k len (cs.drop off)
    | none => none
  | .c (.b .nils) => some []
  | .c (.b .emp) => some []
  | _ => none

/-- The elements of a slice: how many, their cells. -/
def elems (σ : List Ob) (k : Nat) : V → Option (Nat × List C)
  | .c (.b (.d (.sl rows))) => if rows.all (fun r => r.length == k) then some (rows.length, rows.flatten.map fun d => .b (.d d)) else none
  | .c (.b .nils) => some (0, [])
  | .c (.b .emp) => some (0, [])
  | .c (.b (.arr k' l off len)) => match getCells σ l with
    | some cs => if k' = k ∧ off + len * k ≤ cs.length then some (len, ((cs.drop off).take (len * k)).map C.down) else none
    | none => none
  | _ => none

def intOf : V → Option Int
  | .c (.b (.d (.int _ n))) => some n
  | _ => none

def partsIn (s : St) : List (Nat × Nat × Opd) → List C → Option (List C)
  | [], zs => some zs
  | (off, n, x) :: ps, zs => match (s.rd x).cells with
    | some cs => if cs.length = n then match putAt zs off cs with
        | some zs' => partsIn s ps zs'
        | none => none
      else none
    | none => none

def rep (n : Nat) (zs : List C) : List C := (List.replicate n zs).flatten

/-- '==' of two keys of a map, by the kinds of their cells. -/
def eqKey (ks : List Nat) : V → V → Option Bool
  | .c x, .c y => sames ks [x] [y]
  | .agg xs, .agg ys => sames ks xs ys
  | _, _ => none

def findKey (ks : List Nat) (key : V) : List (V × V) → Nat → Option (Option (Nat × V))
  | [], _ => some none
  | (k, v) :: es, i => match eqKey ks key k with
    | some true => some (some (i, v))
    | some false => findKey ks key es (i + 1)
    | none => none

def bsOf : List Opd → St → Option (List B)
  | [], _ => some []
  | x :: xs, s => match s.rd x, bsOf xs s with
    | .c (.b .any), _ => none
    | .c (.b y), some ys => some (y :: ys)
    | _, _ => none

def B.closed (n : Nat) : B → Bool
  | .ptr l _ => decide (l < n)
  | .arr _ l _ _ => decide (l < n)
  | .map l => decide (l < n)
  | _ => true

def C.closed (n : Nat) : C → Bool
  | .b x => x.closed n
  | .osl _ _ => true
  | .fn _ fst cap => fst.all (B.closed n) && cap.all (B.closed n)
  | .nilf => true

def V.closed1 (n : Nat) : V → Bool
  | .c x => x.closed n
  | .agg cs => cs.all (C.closed n)
  | .tup _ => false

def V.closed (n : Nat) : V → Bool
  | .tup vs => vs.all (V.closed1 n)
  | v => v.closed1 n

def optInt (s : St) : Option Opd → Int → Option Int
  | none, d => some d
  | some x, _ => intOf (s.rd x)

def stepOp (F : Oracle) (bd : Bd) (s : St) : AOp → Option (V × St)
  | .mov .cp x => some (s.rd x, s)
  | .mov .own x => some (s.raw x, s.took x)
  | .mov .frz x => match s.rd x with
    | .c (.b (.arr k l off len)) => match getCells s.σ l with
      | some cs => match chunk k len (cs.drop off) with
        | some rows => if bd.lo ≤ l then some (.c (.b (.d (.sl rows))), { s with σ := s.σ.set l .dead }) else none
        | none => none
      | none => none
    | .c (.b (.d (.sl rows))) => some (.c (.b (.d (.sl rows))), s)
    | .c (.b .nils) => some (.c (.b (.d (.sl []))), s)
    | _ => none
  | .mov .arr x => match s.rd x with
    | .c (.b (.arr _ _ _ 0)) => some (.c (.b (.d (.sl []))), s)
    | .c (.b .nils) => some (.c (.b (.d (.sl []))), s)
    | .c (.b .emp) => some (.c (.b (.d (.sl []))), s)
    | .c (.b (.d (.sl []))) => some (.c (.b (.d (.sl []))), s)
    | .c (.b (.arr k l off (n + 1))) => some (.c (.b (.arr k l off (n + 1))), s)
    | _ => none
  | .pick c a b => match s.rd c with
    | .c (.b (.d (.bool t))) => some (bif t then s.rd a else s.rd b, s)
    | _ => none
  | .alloc zs => some (.c (.b (.ptr s.σ.length 0)), { s with σ := s.σ ++ [.cells zs] })
  | .box x => match (s.rd x).cells with
    | some cs => some (.c (.b (.ptr s.σ.length 0)), { s with σ := s.σ ++ [.cells cs] })
    | none => none
  | .build zs parts => match partsIn s parts zs with
    | some cs => some (.agg cs, s)
    | none => none
  | .bsl m k n zs parts => match partsIn s (parts.map fun p => (p.1 * k, k, p.2)) (rep n zs) with
    | some cs => match m with
      | .own => match chunk k n cs with
        | some rows => some (.c (.osl k rows), s)
        | none => none
      | .arr => some (.c (.b (.arr k s.σ.length 0 n)), { s with σ := s.σ ++ [.cells cs] })
      | _ => none
    | none => none
  | .ld .cp n x => match s.rd x with
    | .c (.b (.ptr l off)) => match getCells s.σ l with
      | some cs => match n with
        | none => match cs[off]? with
          | some c => some (.c c.down, s)
          | none => none
        | some n => if off + n ≤ cs.length then some (.agg (((cs.drop off).take n).map C.down), s) else none
      | none => none
    | .c (.b (.rop row off)) => match n with
      | none => match row[off]? with
        | some d => some (.c (.b (.d d)), s)
        | none => none
      | some n => if off + n ≤ row.length then some (.agg (((row.drop off).take n).map fun d => .b (.d d)), s) else none
    | _ => none
  | .ld .own none x => match s.rd x with
    | .c (.b (.ptr l off)) => match getCells s.σ l with
      | some cs => match cs[off]? with
        | some c => if bd.lo ≤ l then some (.c c, { s with σ := s.σ.set l (.cells (cs.set off c.down)) }) else none
        | none => none
      | none => none
    | _ => none
  | .ld .frz none x => match s.rd x with
    | .c (.b (.ptr l off)) => match getCells s.σ l with
      | some cs => match cs[off]? with
        | some c => match frzD (fun l => (arrsOf s.σ 4 c).contains l) s.σ 4 c with
          | some d => if (arrsOf s.σ 4 c).all (fun l => decide (bd.lo ≤ l)) = true then some (.c (.b (.d d)), { s with σ := killAll (arrsOf s.σ 4 c) s.σ }) else none
          | none => none
        | none => none
      | none => none
    | _ => none
  | .ld _ _ _ => none
  | .st n a x => match s.rd a, (s.raw x).cells with
    | .c (.b (.ptr l off)), some cs => if cs.length = n then match getCells s.σ l with
        | some zs => match putAt zs off cs with
          | some zs' => if mayWrite bd l cs then some (.c (.b .any), { s.took x with σ := s.σ.set l (.cells zs') }) else none
          | none => none
        | none => none
      else none
    | _, _ => none
  | .bin op x y => match binV op (s.rd x) (s.rd y) with
    | some d => some (.c (.b (.d d)), s)
    | none => none
  | .eq neg kd ks x y => match eqV ks kd (s.rd x) (s.rd y) with
    | some r => some (.c (.b (.d (.bool (bif neg then !r else r)))), s)
    | none => none
  | .un op x => match unV op (s.rd x) with
    | some d => some (.c (.b (.d d)), s)
    | none => none
  | .conv k x => match s.rd x with
    | .c (.b (.d (.int _ n))) => some (.c (.b (.d (.int k (k.wrap n)))), s)
    | _ => none
  | .fa off x => match s.rd x with
    | .c (.b (.ptr l o)) => some (.c (.b (.ptr l (o + off))), s)
    | .c (.b (.rop row o)) => some (.c (.b (.rop row (o + off))), s)
    | _ => none
  | .fld off n x => match s.rd x with
    | .agg cs => match n with
      | none => match cs[off]? with
        | some c => some (.c c, s)
        | none => none
      | some n => if off + n ≤ cs.length then some (.agg ((cs.drop off).take n), s) else none
    | _ => none
  | .ia k x i => match intOf (s.rd i) with
    | some i => if 0 ≤ i then match s.rd x with
        | .c (.b (.d (.sl rows))) => match rows[i.toNat]? with
          | some row => if row.length = k then some (.c (.b (.rop row 0)), s) else none
          | none => none
        | .c (.b (.arr k' l off len)) => if k' = k ∧ i < len then some (.c (.b (.ptr l (off + i.toNat * k))), s) else none
        | _ => none
      else none
    | none => none
  | .ixs x i => match s.rd x, intOf (s.rd i) with
    | .c (.b (.d (.str t))), some i => if 0 ≤ i then match t[i.toNat]? with
        | some b => some (.c (.b (.d (.int .u8 b.toNat))), s)
        | none => none
      else none
    | _, _ => none
  | .slc m k x lo hi => match optInt s lo 0 with
    | some l => if 0 ≤ l then match m with
        | .own => match hi, s.raw x with
          | none, .c (.osl k' rows) => if k' = k ∧ l ≤ rows.length then some (.c (.osl k (rows.drop l.toNat)), s.took x) else none
          | _, _ => none
        | .cp => match s.rd x with
          | .c (.b (.d (.sl rows))) => match optInt s hi rows.length with
            | some h => if l ≤ h ∧ h ≤ rows.length ∧ rows.all (fun r => r.length == k) then some (.c (.b (.d (.sl ((rows.take h.toNat).drop l.toNat)))), s) else none
            | none => none
          | .c (.b (.arr k' r off len)) => match optInt s hi len with
            | some h => if k' = k ∧ l ≤ h ∧ h ≤ len ∧ l < len then some (.c (.b (.arr k r (off + l.toNat * k) (h - l).toNat)), s) else none
            | none => none
          | _ => none
        | _ => none
      else none
    | none => none
  | .slcs x lo hi => match s.rd x with
    | .c (.b (.d (.str t))) => match optInt s lo 0, optInt s hi t.size with
      | some l, some h => if 0 ≤ l ∧ l ≤ h ∧ h ≤ t.size then some (.c (.b (.d (.str (t.extract l.toNat h.toNat)))), s) else none
      | _, _ => none
    | _ => none
  | .mks m k bytes zs len cap => match intOf (s.rd len), intOf (s.rd cap) with
    | some n, some c => if 0 ≤ n ∧ n ≤ c ∧ c * bytes ≤ 140737488355328 ∧ c ≤ 140737488355328 ∧ zs.length = k then match m with
        | .own => match chunk k n.toNat (rep n.toNat zs) with
          | some rows => some (.c (.osl k rows), s)
          | none => none
        | .arr => some (.c (.b (.arr k s.σ.length 0 n.toNat)), { s with σ := s.σ ++ [.cells (rep n.toNat zs)] })
        | _ => none
      else none
    | _, _ => none
  | .ext i x => match s.raw x with
    | .tup vs => match vs[i]? with
      | some v => match x with
        | .t n => some (v, { s with env := (n, .tup (vs.set i v.down)) :: s.env })
        | .k _ => none
      | none => none
    | _ => none
  | .len kd x => match kd, s.rd x with
    | 0, .c (.b (.d (.sl rows))) => some (.c (.b (.d (.int .i64 rows.length))), s)
    | 0, .c (.b (.arr _ _ _ n)) => some (.c (.b (.d (.int .i64 n))), s)
    | 0, .c (.b .nils) => some (.c (.b (.d (.int .i64 0))), s)
    | 0, .c (.b .emp) => some (.c (.b (.d (.int .i64 0))), s)
    | 1, .c (.b (.d (.str t))) => some (.c (.b (.d (.int .i64 t.size))), s)
    | 2, .c (.b (.map l)) => match s.σ[l]? with
      | some (.map es) => some (.c (.b (.d (.int .i64 es.length))), s)
      | _ => none
    | 2, .c (.b .nilm) => some (.c (.b (.d (.int .i64 0))), s)
    | _, _ => none
  | .app k bytes x y => match rowsOf s.σ (s.rd y) with
    | some ys => if ys.all (fun r => r.length == k) then match s.raw x with
        | .c (.osl k' rows) => if k' = k ∧ (rows.length + ys.length) * bytes ≤ 70368744177664 ∧ rows.length + ys.length ≤ 70368744177664 then some (.c (.osl k (rows ++ ys)), s.took x) else none
        | _ => none
      else none
    | none => none
  | .call f args => match F f (args.map s.rd) s.σ bd.lo bd.tr with
    | some (v, σ) => some (v, { s with σ := σ })
    | none => none
  | .callp f args => match F f (args.map s.rd) s.σ (max bd.lo s.σ.length) (max bd.tr s.σ.length) with
    | some (v, σ) => if s.σ.length ≤ σ.length then some (v, { s with σ := σ }) else none
    | none => none
  | .callb f args => if (args.map s.rd).all (V.closed 0) then match F f (args.map s.rd) [] 0 0 with
      | some (v, _) => if v.closed 0 then some (v, s) else none
      | none => none
    else none
  | .bad => none
  | .appa k bytes x y => match elems s.σ k (s.rd y) with
    | some (n, ys) => match s.rd x with
      | .c (.b .nils) => if n * bytes ≤ 70368744177664 ∧ n ≤ 70368744177664 then (if n = 0 then some (.c (.b .nils), s) else some (.c (.b (.arr k s.σ.length 0 n)), { s with σ := s.σ ++ [.cells ys] })) else none
      | .c (.b (.arr k' l off len)) => match getCells s.σ l with
        | some cs => if k' = k ∧ bd.lo ≤ l ∧ off + len * k ≤ cs.length ∧ (len + n) * bytes ≤ 70368744177664 ∧ len + n ≤ 70368744177664 then
            some (.c (.b (.arr k s.σ.length 0 (len + n))), { s with σ := s.σ.set l .dead ++ [.cells (((cs.drop off).take (len * k)).map C.down ++ ys)] }) else none
        | none => none
      | _ => none
    | none => none
  | .cpy k x y => match elems s.σ k (s.rd y) with
    | some (n, ys) => match s.rd x with
      | .c (.b (.arr k' l off len)) => match getCells s.σ l with
        | some cs => match putAt cs off (ys.take (min n len * k)) with
          | some cs' => if k' = k ∧ mayWrite bd l (ys.take (min n len * k)) = true then some (.c (.b (.d (.int .i64 (min n len : Nat)))), { s with σ := s.σ.set l (.cells cs') }) else none
          | none => none
        | none => none
      | _ => none
    | none => none
  | .mm mx x y => match s.rd x, s.rd y with
    | .c (.b (.d (.int k a))), .c (.b (.d (.int k' b))) => if k = k' then some (.c (.b (.d (.int k (bif mx then (if b > a then b else a) else (if b < a then b else a))))), s) else none
    | _, _ => none
  | .callv x args => match s.rd x with
    | .c (.fn f fst cap) => match F f (fst.map (fun b => .c (.b b)) ++ args.map s.rd ++ cap.map (fun b => .c (.b b))) s.σ bd.lo bd.tr with
      | some (v, σ) => some (v, { s with σ := σ })
      | none => none
    | _ => none
  | .mkf f fst cap => match bsOf fst s, bsOf cap s with
    | some a, some b => some (.c (.fn f a b), s)
    | _, _ => none
  | .mkm => some (.c (.b (.map s.σ.length)), { s with σ := s.σ ++ [.map []] })
  | .lkp ks zs ok x key => match (match s.rd x with
      | .c (.b (.map l)) => match s.σ[l]? with
        | some (.map es) => some es
        | _ => none
      | .c (.b .nilm) => some []
      | _ => none : Option (List (V × V))) with
    | some es => match findKey ks (s.rd key) es 0 with
      | some r =>
        let v := match r with | some (_, v) => v | none => zs
        some (bif ok then .tup [v, .c (.b (.d (.bool r.isSome)))] else v, s)
      | none => none
    | none => none
  | .upd ks x key v => match s.rd x, (s.rd key).cells, (s.rd v).cells with
    | .c (.b (.map l)), some kc, some cs => match s.σ[l]? with
      | some (.map es) => if mayWrite bd l (kc ++ cs) && kc.all C.plain then match findKey ks (s.rd key) es 0 with
          | some (some (i, _)) => some (.c (.b .any), { s with σ := s.σ.set l (.map (es.set i (s.rd key, s.rd v))) })
          | some none => some (.c (.b .any), { s with σ := s.σ.set l (.map (es ++ [(s.rd key, s.rd v)])) })
          | none => none
        else none
      | _ => none
    | _, _, _ => none

def stepIns (F : Oracle) (bd : Bd) (s : St) (i : AIns) : Option St :=
  match i.guard with
  | none => match stepOp F bd s i.op with
    | some (v, s') => some (s'.set i.dst v)
    | none => none
  | some (g, want) => match s.env.get g with
    | .c (.b (.d (.bool t))) => bif t == want then (match stepOp F bd s i.op with
        | some (v, s') => some (s'.set i.dst v)
        | none => none) else some (s.set i.dst (.c (.b .any)))
    | _ => none

def stepAll (F : Oracle) (bd : Bd) : St → List AIns → Option St
  | s, [] => some s
  | s, i :: is => match stepIns F bd s i with
    | some s' => stepAll F bd s' is
    | none => none

def Ob.closed (n : Nat) : Ob → Bool
  | .cells cs => cs.all (C.closed n)
  | .map es => es.all fun e => e.1.closed1 n && e.2.closed1 n
  | .dead => true

/-- What is kept at an exit's end. -/
def keptAt (nrm ret : List Nat) (exs : List (Nat × List Nat)) : AExit → Env → Env
  | .normal, e => e.keep nrm
  | .ret, e => e.keep ret
  | .exit i, e => match exs.find? (fun p => Nat.beq p.1 i) with
    | some p => e.keep p.2
    | none => e

/-- A piece's end: what nobody reads any more goes; cut: the objects that it made go, too. -/
def wrapEnd (cut : Bool) (nrm ret : List Nat) (exs : List (Nat × List Nat)) (m : Nat) (e : AExit) (s : St) : Option (AExit × St) :=
  let env := keptAt nrm ret exs e s.env
  bif cut then (if Nat.ble m s.σ.length && (env.all (fun p => p.2.closed m) && (s.σ.take m).all (Ob.closed m)) then some (e, ⟨env, s.σ.take m⟩) else none) else some (e, ⟨env, s.σ⟩)

def ev (F : Oracle) (bd : Bd) : Nat → ACode → St → Option (AExit × St)
  | 0, _, _ => none
  | _ + 1, .skip, s => some (.normal, s)
  | _ + 1, .region _ ops keep, s => match stepAll F bd s ops with
    | some s' => some (.normal, { s' with env := s'.env.keep keep })
    | none => none
  | n + 1, .seq a b, s => match ev F bd n a s with
    | some (.normal, s') => ev F bd n b s'
    | r => r
  | n + 1, .cond x a b, s => match s.rd x with
    | .c (.b (.d (.bool t))) => bif t then ev F bd n a s else ev F bd n b s
    | _ => none
  | n + 1, .block id c, s => match ev F bd n c s with
    | some (.exit i, s') => if i = id then some (.normal, s') else some (.exit i, s')
    | r => r
  | n + 1, .loop c, s => match ev F bd n c s with
    | some (.normal, s') => ev F bd n (.loop c) s'
    | r => r
  | _ + 1, .exit id, s => some (.exit id, s)
  | _ + 1, .ret, s => some (.ret, s)
  | n + 1, .wrap cut nrm ret exs c, s => match ev F bd n c s with
    | some (e, s') => wrapEnd cut nrm ret exs s.σ.length e s'
    | none => none

def params : Nat → List V → Option Env
  | _, [] => some []
  | i, v :: vs => match params (i + 1) vs with
    | some e => some ((i, v) :: e)
    | none => none

/-- One result alone: with its right to grow, where its place goes with the call. -/
def resOne (s : St) (n : Nat) : ARes → Option V
  | .tmp t => some (s.env.get t)
  | .cell t m => match s.env.get t with
    | .c (.b (.ptr l off)) => match getCells s.σ l with
      | some cs => match m with
        | none => match cs[off]? with
          | some c => some (.c (if n ≤ l then c else c.down))
          | none => none
        | some m => if off + m ≤ cs.length then some (.agg (if n ≤ l then (cs.drop off).take m else ((cs.drop off).take m).map C.down)) else none
      | none => none
    | _ => none

def resAll (s : St) : List ARes → Option (List V)
  | [] => some []
  | r :: rs => match resOne s s.σ.length r, resAll s rs with
    | some v, some vs => some (v.down :: vs)
    | _, _ => none

def resOf (s : St) (n : Nat) : List ARes → Option V
  | [r] => resOne s n r
  | rs => match resAll s rs with
    | some vs => some (.tup vs)
    | none => none

/-- A call, its function's text given. -/
def core (F : Oracle) (n : Nat) (kp : Kp) (fn : AFun) (args : List V) (σ : List Ob) (lo tr : Nat) : Option (V × List Ob) :=
  if args.length = fn.params then match params 0 args with
    | none => none
    | some env =>
      let bd : Bd := match kp with
        | .pure => ⟨max lo σ.length, max tr σ.length⟩
        | .trim => ⟨lo, max tr σ.length⟩
        | .free => ⟨lo, tr⟩
      match ev F bd n fn.body ⟨env, σ⟩ with
      | some (.exit _, _) => none
      | some (_, s) => match kp with
        | .free => match resOf s s.σ.length fn.results with
          | some v => some (v, s.σ)
          | none => none
        | _ => match resOf s σ.length fn.results with
          | some v => match frzV (fun l => decide (σ.length ≤ l)) s.σ v with
            | some v => if v.closed σ.length then some (v, s.σ.take σ.length) else none
            | none => none
          | none => none
      | none => none
  else none

/-- The same value, of simple ones. -/
def V.same : V → V → Bool
  | .c (.b (.d (.bool a))), .c (.b (.d (.bool b))) => a == b
  | .c (.b (.d (.int k a))), .c (.b (.d (.int k' b))) => decide (k = k') && decide (a = b)
  | .c (.osl k []), .c (.osl k' []) => decide (k = k')
  | .c (.b (.d (.sl []))), .c (.b (.d (.sl []))) => true
  | .c (.b .nils), .c (.b .nils) => true
  | _, _ => false

theorem V.same_eq {a b : V} (h : a.same b = true) : a = b := by
  unfold V.same at h
  split at h <;> simp_all

/-- An empty slice may be nil, or not: a function that asks is run for both. -/
def isEmp : List V → Bool
  | [.c (.b (.d (.sl [])))] => true
  | _ => false

def base (F : Oracle) (n : Nat) (fn : AFun) (args : List V) (σ : List Ob) (lo tr : Nat) : Option (V × List Ob) :=
  bif fn.split && isEmp args then (match core F n .pure fn [.c (.b .nils)] σ lo tr, core F n .pure fn [.c (.b .emp)] σ lo tr with
    | some (v1, σ1), some (v2, _) => if v1.same v2 then some (v1, σ1) else none
    | _, _ => none)
  else core F n fn.kp fn args σ lo tr

def Kp.isPure : Kp → Bool
  | .pure => true
  | _ => false

/-- A call that sees no object. -/
def blindOk (fn : AFun) (args : List V) : Bool := fn.kp.isPure && args.all (V.closed 0)

def evf (fns : Nat → Option AFun) : Nat → Oracle
  | 0, _, _, _, _, _ => none
  | n + 1, f, args, σ, lo, tr => match fns f with
    | none => none
    | some fn => bif blindOk fn args then (match base (evf fns n) n fn args [] 0 0 with
        | some (v, _) => if v.closed 0 then some (v, σ) else none
        | none => none)
      else base (evf fns n) n fn args σ lo tr
end Go.Proofs.Ytjkhkblabhaimaa.Am
