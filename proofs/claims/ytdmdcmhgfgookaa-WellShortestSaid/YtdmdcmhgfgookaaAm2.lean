/- The ghost machine, part 2: what its operations do. All that may be symbolic goes through the functions of a record J, so that the machine can be run with J a variable. -/
import Derived.Test.YtdmdcmhgfgookaaAm1
set_option linter.unusedSimpArgs false
set_option linter.unusedVariables false
set_option maxRecDepth 100000
set_option maxHeartbeats 4000000
namespace Go.Proofs.Ytdmdcmhgfgookaa.A
open Go

/-- an argument: a value that nobody changes, or a root that the callee may change (by its first address) -/
inductive Arg where
  | v (agg : Bool) (cs : List C)
  | root (R : Root)
  | fn (f : FuncId)
  | clo (f : FuncId) (caps : List Nat)
  | virt (R : Root)
  | any
/-- what a call gives: whether it is a tuple; for each component whether it is a struct, and its cells -/
structure RV where
  tup : Bool
  parts : List (Bool × List RC)

structure J where
  arith : BinOp → IntKind → Int → Int → Int
  cmp : BinOp → Int → Int → Bool
  scmp : BinOp → ByteArray → ByteArray → Bool
  bcmp : BinOp → Bool → Bool → Bool
  bnot : Bool → Bool
  wrap : IntKind → Int → Int
  imin : Int → Int → Int
  imax : Int → Int → Int
  cat : ByteArray → ByteArray → ByteArray
  ssize : ByteArray → Nat
  sat : ByteArray → Nat → Int
  sext : ByteArray → Nat → Nat → ByteArray
  ofNat : Nat → Int
  toNat : Int → Nat
  add : Nat → Nat → Nat
  sub : Nat → Nat → Nat
  mul : Nat → Nat → Nat
  cell : List C → Nat → C
  ext : List C → Nat → Nat → List C
  app : List C → List C → List C
  set : List C → Nat → List C → List C
  rep : Nat → List C → List C
  clen : List C → Nat
  bytes : List C → ByteArray
  ofBytes : ByteArray → List C
  gi : C → Int
  gb : C → Bool
  gs : C → ByteArray
  gn : C → Nat
  gc : C → List C
  ok : K → C → Prop
  inb : Int → Nat → Prop
  le : Nat → Nat → Prop
  lei : Int → Int → Prop
  pos : Nat → Prop
  ne0 : Int → Prop
  eqb : Bool → Bool → Prop
  isBytes : List C → Prop
  vals : List C → Prop
  pc : FuncId → List Arg → RV → List Root → Prop
  mhas : List Value → Value → Bool
  mget : List Value → List C → Value → C → C
  mlen : List Value → Nat
  mnew : GM
  mset : GM → Value → C → GM
  ment : GM → Value → C → GM
  mborn : GM → Value → Int
  mstamp : GM → Int → C → GM
  mstamped : GM → Int → Prop
  mdel : GM → Value → GM
  pco : FuncId → TypeId → Nat → List C → List FuncId → Bool → Nat → List C → Prop
  pcn : FuncId → List Arg → List RC → Prop

variable (T : TT) (j : J)

def descOf (e : TypeId) : TypeDesc := match T e with | some ti => ti.desc | none => .invalid
def constC : Value → C
  | .slice none 0 0 => .nil
  | v => .val v
def okConst : Value → Bool
  | .slice none 0 0 => true
  | v => plain v
def constV (v : Value) : V :=
  match v with
  | .agg cs => if cs.toList.all okConst then .agg (cs.toList.map fun u => .c (constC u)) else .undef
  | v => if okConst v then .one (.c (constC v)) else .undef
def ev (s : List V) : Operand → V
  | .tmp t => s.getD t .undef
  | .const v => constV v
  | .func f => .one (.fn f [])
  | .global _ => .undef

def cellAt (cs : List C) (i : Nat) : C := cs.getD i .nil
def shape : K → C → C
  | .int k, c => .val (.int k (j.gi c))
  | .bool, c => .val (.bool (j.gb c))
  | .str, c => .val (.string (j.gs c))
  | .sl, c => .sl (j.gn c) (j.gc c)
  | .raw, c => c
def isAggD : TypeDesc → Bool
  | .struct _ | .array _ _ => true
  | _ => false
/-- size cells from number 'at_' on, as the type has them -/
def cellsAt (ks : List K) (cells : List C) (at_ : Nat) : List C :=
  ks.zipIdx.map fun (k, i) => match k with | .raw => cellAt cells (at_ + i) | k => shape j k (j.cell cells (if i = 0 then at_ else j.add at_ i))
def okAt (ks : List K) (cells : List C) (at_ : Nat) : List Prop :=
  ks.zipIdx.map fun (k, i) => j.ok k (j.cell cells (if i = 0 then at_ else j.add at_ i))
def mk (agg : Bool) (xs : List X) : Option V :=
  if agg then some (.agg xs) else match xs with | [x] => some (.one x) | _ => none
/-- a cell that nobody changes, in a slot -/
def cX : C → X
  | .mem cells off => .mem cells off
  | c => .c c
def rcX (t o : Nat) : RC → X
  | .st c => cX c
  | .own _ _ _ => .view t o
  | .map .. => .mv t o
  | .tree .. => .tv t o []
  | .me _ => .undef
  | .dead => .undef
/-- the same, of a box's cell -/
def rcB (t o : Nat) : RC → X
  | .me f => .bfn f t
  | rc => rcX t o rc
def rowB (t : Nat) (row : List RC) (o n : Nat) : List X := ((row.drop o).take n).zipIdx.map fun (rc, i) => rcB t (o + i) rc
def rowX (t : Nat) (row : List RC) (o n : Nat) : List X := ((row.drop o).take n).zipIdx.map fun (rc, i) => rcX t (o + i) rc
def rootOf (r : List Root) (t : Nat) : Root := r.getD t .none
def ownAt (r : List Root) (t o : Nat) : Option (TypeId × Nat × List C) :=
  match (rootOf r t).row[o]? with
  | some (.own e n cells) => some (e, n, cells)
  | _ => none
def treeAt (r : List Root) (t o : Nat) : Option (Sh × C × Option Path) :=
  match (rootOf r t).row[o]? with
  | some (.tree sh c h) => some (sh, c, h)
  | _ => none
def lenJ : C → Nat
  | .sl n _ => n
  | .nil => 0
  | c => j.gn c
def clsJ : C → List C
  | .sl _ cs => cs
  | .nil => []
  | c => j.gc c
/-- what a tree reads as at the end of a way -/
def atJ : C → Path → C
  | c, [] => c
  | c, (k, _) :: p => atJ (j.cell (clsJ j c) k) p
/-- the same, with something else there -/
def updJ (f : C → C) : C → Path → C
  | c, [] => f c
  | c, (k, _) :: p => .sl (lenJ j c) (j.set (clsJ j c) k [updJ f (j.cell (clsJ j c) k) p])
/-- as a slice -/
def slJ (c : C) : C := .sl (lenJ j c) (clsJ j c)
def mapAt (r : List Root) (t o : Nat) : Option (KK × GM) :=
  match (rootOf r t).row[o]? with
  | some (.map kk m) => some (kk, m)
  | _ => none
/-- the slice at the end of a way: its elements' type, their cells' shapes, how many, its cells -/
def nodeAt (r : List Root) (t o : Nat) (p : Path) : Option (TypeId × List Sh × Nat × List C) :=
  match treeAt r t o with
  | some (sh, c, _) => match sh.to p with | .sl e ks => some (e, ks, lenJ j (atJ j c p), clsJ j (atJ j c p)) | .st => none
  | none => none
/-- cells of a tree's slice, from number k on, as the type has them -/
def tpCells (t o : Nat) (p : Path) (ks : List Sh) (kds : List K) (cells : List C) (k off : Nat) : List X :=
  kds.zipIdx.map fun (kd, i) =>
    match ks.getD (off + i) .st, kd with
    | .sl _ _, .sl => .tv t o (p ++ [(if i = 0 then k else j.add k i, off + i)])
    | .sl _ _, _ => .undef
    | .st, .raw => .undef
    | .st, kd => cX (shape j kd (j.cell cells (if i = 0 then k else j.add k i)))
def mulSz (n sz : Nat) : Nat := if sz = 1 then n else j.mul n sz
def plus (a b : Nat) : Nat := if b = 0 then a else if a = 0 then b else j.add a b
/-- the number of a constant or of a value -/
def num : V → Option Int
  | .one (.c (.val (.int _ n))) => some n
  | _ => none

def cellsOfV : V → List X
  | .one .undef => []
  | .one x => [x]
  | .agg xs => xs
  | _ => []
def binV (op : BinOp) (t : TypeId) : V → V → Option (V × List Prop)
  | .one (.c (.val (.int k a))), .one (.c (.val (.int k' b))) =>
    match op with
    | .shl | .shr => some (.one (.c (.val (.int k (j.arith op k a b)))), [j.lei 0 b])
    | _ =>
    if k ≠ k' then none else
    match op with
    | .add | .sub | .mul | .and | .or | .xor | .andNot => some (.one (.c (.val (.int k (j.arith op k a b)))), [])
    | .quo | .rem => some (.one (.c (.val (.int k (j.arith op k a b)))), [j.ne0 b])
    | .eql | .neq | .lss | .leq | .gtr | .geq => some (.one (.c (.val (.bool (j.cmp op a b)))), [])
    | _ => none
  | .one (.c (.val (.string a))), .one (.c (.val (.string b))) =>
    match op with
    | .add => some (.one (.c (.val (.string (j.cat a b)))), [j.le (j.add (j.ssize a) (j.ssize b)) 9223372036854775807])
    | .eql | .neq | .lss | .leq | .gtr | .geq => some (.one (.c (.val (.bool (j.scmp op a b)))), [])
    | _ => none
  | .one (.c (.val (.bool a))), .one (.c (.val (.bool b))) =>
    match descOf T t, op with
    | .bool, .eql | .bool, .neq => some (.one (.c (.val (.bool (j.bcmp op a b)))), [])
    | _, _ => none
  | _, _ => none
def unV (op : UnOp) : V → Option (V × List Prop)
  | .one (.c (.val (.bool a))) => match op with | .not => some (.one (.c (.val (.bool (j.bnot a)))), []) | _ => none
  | .one (.c (.val (.int k a))) => match op with | .neg => some (.one (.c (.val (.int k (j.arith .sub k 0 a)))), []) | _ => none
  | _ => none
def isIntD : TypeDesc → Bool
  | .int _ => true
  | _ => false
def convV (st : St) (src dst : TypeId) (x : V) : Option (V × List Prop) :=
  match T src, T dst with
  | some ts, some td =>
    match td.desc with
    | .int k =>
      match x with
      | .one (.c (.val (.int _ n))) => if isIntD ts.desc then some (.one (.c (.val (.int k (j.wrap k n)))), []) else none
      | _ => none
    | .string =>
      match x with
      | .one (.c (.val (.string s))) => some (.one (.c (.val (.string s))), [])
      | .one x =>
        match ts.desc with
        | .slice e =>
          match descOf T e with
          | .int .u8 =>
            match x with
            | .c (.sl n cells) => some (.one (.c (.val (.string (j.bytes cells)))), [j.isBytes cells, j.le n (j.clen cells), j.le (j.clen cells) n])
            | .c .nil => some (.one (.c (.val (.string ByteArray.empty))), [])
            | .view t o =>
              match ownAt st.r t o with
              | some (e', _, cells) => if e' = e ∧ szOf T e = 1 then some (.one (.c (.val (.string (j.bytes cells)))), [j.isBytes cells]) else none
              | none => none
            | _ => none
          | _ => none
        | _ => none
      | _ => none
    | _ => none
  | _, _ => none
def fieldOf (s : TypeId) (f : Nat) : Option Field :=
  match descOf T s with
  | .struct fields => fields[f]?
  | _ => none
def fldAddrV (st : St) (s : TypeId) (f : Nat) (x : V) : Option (V × List Prop) :=
  match fieldOf T s f with
  | some fd =>
    match T fd.type with
    | some tf =>
      if tf.size = 0 then none else
      match x with
      | .one (.ptr t o) => if o + fd.offset < (rootOf st.r t).row.length then some (.one (.ptr t (o + fd.offset)), []) else none
      | .one (.eptr t o k) => some (.one (.eptr t o (plus j k fd.offset)), [])
      | .one (.mem cells k) => some (.one (.mem cells (plus j k fd.offset)), [])
      | .one (.tp t o p k off) => some (.one (.tp t o p (plus j k fd.offset) (off + fd.offset)), [])
      | _ => none
    | none => none
  | none => none
def fldV (s : TypeId) (f : Nat) (x : V) : Option (V × List Prop) :=
  match fieldOf T s f with
  | some fd =>
    match T fd.type, x with
    | some tf, .agg xs =>
      if isAggD tf.desc then some (.agg ((xs.drop fd.offset).take tf.size), [])
      else match xs[fd.offset]? with | some x => some (.one x, []) | none => none
    | _, _ => none
  | none => none
def elemOf (t : TypeId) : Option (TypeId × TI) :=
  match descOf T t with
  | .slice e => match T e with | some te => some (e, te) | none => none
  | _ => none
def idxAddrV (st : St) (t : TypeId) (x : V) (i : Option Int) : Option (V × List Prop) :=
  match elemOf T t, i with
  | some (e, te), some i =>
    match x with
    | .one (.c (.sl n cells)) => some (.one (.mem cells (mulSz j (j.toNat i) te.size)), [j.inb i n])
    | .one (.view t o) =>
      match ownAt st.r t o with
      | some (e', n, _) => if e = e' then some (.one (.eptr t o (mulSz j (j.toNat i) te.size)), [j.inb i n]) else none
      | none => none
    | .one (.sub t o lo hi) =>
      match ownAt st.r t o with
      | some (e', _, _) => if e = e' then some (.one (.eptr t o (mulSz j (plus j lo (j.toNat i)) te.size)), [j.inb i (if lo = 0 then hi else j.sub hi lo)]) else none
      | none => none
    | .one (.tv t o p) =>
      match nodeAt j st.r t o p with
      | some (e', _, n, _) => if e = e' then some (.one (.tp t o p (mulSz j (j.toNat i) te.size) 0), [j.inb i n]) else none
      | none => none
    | _ => none
  | _, _ => none
def idxV (t : TypeId) (x : V) (i : Option Int) : Option (V × List Prop) :=
  match descOf T t, x, i with
  | .string, .one (.c (.val (.string s))), some i => some (.one (.c (.val (.int .u8 (j.sat s (j.toNat i))))), [j.inb i (j.ssize s)])
  | _, _, _ => none
/-- the bounds of a cut out of n: from, to, and what is to be shown -/
def cutV (n : Nat) (lo hi : Option (Option Int)) : Option (Nat × Nat × List Prop) :=
  match lo, hi with
  | none, none => some (0, n, [])
  | some (some l), none => some (j.toNat l, n, [j.lei 0 l, j.lei l (j.ofNat n)])
  | none, some (some h) => some (0, j.toNat h, [j.lei 0 h, j.lei h (j.ofNat n)])
  | some (some l), some (some h) => some (j.toNat l, j.toNat h, [j.lei 0 l, j.lei l h, j.lei h (j.ofNat n)])
  | _, _ => none
def sliceV (st : St) (t : TypeId) (x : V) (lo hi : Option (Option Int)) : Option (V × List Prop) :=
  match x with
  | .one (.c (.val (.string s))) =>
    match descOf T t with
    | .string => match cutV j (j.ssize s) lo hi with | some (l, h, obl) => some (.one (.c (.val (.string (j.sext s l h)))), obl) | none => none
    | _ => none
  | .one (.c (.sl n cells)) =>
    match elemOf T t with
    | some (_, te) => match cutV j n lo hi with | some (l, h, obl) => some (.one (.c (.sl (if l = 0 then h else j.sub h l) (j.ext cells (mulSz j l te.size) (mulSz j h te.size)))), obl) | none => none
    | none => none
  | .one (.view u o) =>
    match elemOf T t, ownAt st.r u o with
    | some (e, _), some (e', n, _) =>
      if e = e' then
        match lo, hi with
        | none, none => some (.one (.view u o), [])
        | _, _ => match cutV j n lo hi with | some (l, h, obl) => some (.one (.sub u o l h), obl) | none => none
      else none
    | _, _ => none
  | _ => none
def loadV (st : St) (t : TypeId) (a : V) : Option (V × List Prop) :=
  match T t with
  | some ti =>
    if ti.size = 0 ∨ (isAggD ti.desc = false ∧ ti.size ≠ 1) then none else
    match a with
    | .one (.ptr t' o) => if o + ti.size ≤ (rootOf st.r t').row.length then (mk (isAggD ti.desc) (rowB t' (rootOf st.r t').row o ti.size)).map fun v => (v, []) else none
    | .one (.eptr t' o k) =>
      match ownAt st.r t' o with
      | some (_, _, cells) => if ti.cells.length ≠ ti.size then none else (mk (isAggD ti.desc) ((cellsAt j ti.cells cells k).map cX)).map fun v => (v, j.le (plus j k ti.size) (j.clen cells) :: okAt j ti.cells cells k)
      | none => none
    | .one (.mem cells k) => if ti.cells.length ≠ ti.size then none else (mk (isAggD ti.desc) ((cellsAt j ti.cells cells k).map cX)).map fun v => (v, j.le (plus j k ti.size) (j.clen cells) :: okAt j ti.cells cells k)
    | .one (.tp t' o p k off) =>
      match nodeAt j st.r t' o p with
      | some (e, ks, _, cells) => if ti.cells.length ≠ ti.size ∨ szOf T e < off + ti.size then none else (mk (isAggD ti.desc) (tpCells j t' o p ks ti.cells cells k off)).map fun v => (v, j.le (plus j k ti.size) (j.clen cells) :: okAt j ti.cells cells k)
      | none => none
    | _ => none
  | none => none
def lenV (st : St) (t : TypeId) (x : V) : Option (V × List Prop) :=
  match x with
  | .one (.c (.val (.string s))) => match descOf T t with | .string => some (.one (.c (.val (.int .i64 (j.ofNat (j.ssize s))))), []) | _ => none
  | .one (.c (.sl n _)) => match descOf T t with | .slice _ => some (.one (.c (.val (.int .i64 (j.ofNat n)))), []) | _ => none
  | .one (.c .nil) => match descOf T t with | .slice _ => some (.one (.c (.val (.int .i64 0))), []) | _ => none
  | .one (.view t' o) =>
    match descOf T t, ownAt st.r t' o with
    | .slice _, some (_, n, _) => some (.one (.c (.val (.int .i64 (j.ofNat n)))), [])
    | _, _ => none
  | .one (.sub _ _ lo hi) => match descOf T t with | .slice _ => some (.one (.c (.val (.int .i64 (j.ofNat (if lo = 0 then hi else j.sub hi lo))))), []) | _ => none
  | .one (.tv t' o p) =>
    match descOf T t, nodeAt j st.r t' o p with
    | .slice _, some (_, _, n, _) => some (.one (.c (.val (.int .i64 (j.ofNat n)))), [])
    | _, _ => none
  | _ => none
def buildX (fields : Array Field) : List X → List (Nat × V) → Option (List X)
  | xs, [] => some xs
  | xs, (i, v) :: ps =>
    match fields[i]? with
    | some fd =>
      match T fd.type with
      | some tf => if (cellsOfV v).length = tf.size ∧ fd.offset + (cellsOfV v).length ≤ xs.length ∧ (cellsOfV v) ≠ [] then buildX fields (xs.take fd.offset ++ cellsOfV v ++ xs.drop (fd.offset + (cellsOfV v).length)) ps else none
      | none => none
    | none => none
def buildV (t : TypeId) (ps : List (Nat × V)) : Option (V × List Prop) :=
  match T t with
  | some ti =>
    match ti.desc, constV ti.zero with
    | .struct fields, .agg zs => if fields.toList.all (fun f => (T f.type).isSome) then match buildX T fields zs ps with | some xs => some (.agg xs, []) | none => none else none
    | _, _ => none
  | none => none

/-! ### maps -/
def kkOf (t : TypeId) : Option KK :=
  match descOf T t with
  | .int k => some (.int k)
  | .string => some .str
  | _ => none
def keyOf : V → Option Value
  | .one (.c (.val v)) => some v
  | _ => none
/-- a map's type: its keys' kind, its element's type -/
def mapTy (t : TypeId) : Option (KK × TI) :=
  match descOf T t with
  | .map k e =>
    match kkOf T k, T e with
    | some kk, some te => if te.size = 1 ∧ isAggD te.desc = false then some (kk, te) else none
    | _, _ => none
  | _ => none
def zeroC (te : TI) : Option C :=
  match constV te.zero with
  | .one (.c c) => some c
  | _ => none
/-- a look into a map -/
def lookOp (st : St) (o : Oper) : Option (V × List Prop) :=
  match o.op with
  | .lookup t x k ok =>
    match mapTy T t, keyOf (ev st.s k) with
    | some (kk, te), some k =>
      match zeroC te, te.cells with
      | some z, [kd] =>
        let put := fun (c : C) (b : Bool) (obl : List Prop) => if ok then some (V.tup [(false, [.c (shape j kd c)]), (false, [.c (.val (.bool b))])], obl) else some (V.one (.c (shape j kd c)), obl)
        match ev st.s x with
        | .one (.mv t' o') =>
          match mapAt st.r t' o' with
          | some (kk', m) => if kk = kk' ∧ kk.ok k = true then put (j.mget m.ks m.vs k z) (j.mhas m.ks k) [j.ok kd (j.mget m.ks m.vs k z)] else none
          | none => none
        | .one (.c (.map kk' ks vs)) => if kk = kk' ∧ kk.ok k = true then put (j.mget ks vs k z) (j.mhas ks k) [j.ok kd (j.mget ks vs k z)] else none
        | _ => none
      | _, _ => none
    | _, _ => none
  | .call { callee := .builtin .len, args, argTypes } =>
    match args.toList, argTypes.toList with
    | [x], [t] =>
      match descOf T t, ev st.s x with
      | .map _ _, .one (.mv t' o') => match mapAt st.r t' o' with | some (_, m) => some (.one (.c (.val (.int .i64 (j.ofNat (j.mlen m.ks))))), []) | none => none
      | .map _ _, .one (.c (.map _ ks _)) => some (.one (.c (.val (.int .i64 (j.ofNat (j.mlen ks))))), [])
      | _, _ => none
    | _, _ => none
  | _ => none
/-- an operation that makes and changes nothing: its value, and what is to be shown -/
def pureOp (st : St) (gs : Option Bool) (o : Oper) : Option (V × List Prop) :=
  match o.op with
  | .move x | .assign x => some (ev st.s x, [])
  | .pick c a b =>
    match ev st.s c, gs with
    | .one (.c (.val (.bool t))), some g => some (if g then ev st.s a else ev st.s b, [j.eqb t g])
    | _, _ => none
  | .nilCheck x =>
    match ev st.s x with
    | .one (.ptr t o) => some (.one (.ptr t o), [])
    | .one (.eptr t o k) => some (.one (.eptr t o k), [])
    | .one (.mem cells k) => some (.one (.mem cells k), [])
    | .one (.tp t o p k off) => some (.one (.tp t o p k off), [])
    | .one (.fn f caps) => some (.one (.fn f caps), [])
    | .one (.bfn f t) => some (.one (.bfn f t), [])
    | _ => none
  | .binOp op t x y _ => binV T j op t (ev st.s x) (ev st.s y)
  | .unOp op _ x => unV j op (ev st.s x)
  | .convert src dst x => convV T j st src dst (ev st.s x)
  | .fieldAddr s x f => fldAddrV T j st s f (ev st.s x)
  | .field s x f => fldV T s f (ev st.s x)
  | .indexAddr t x i => idxAddrV T j st t (ev st.s x) (num (ev st.s i))
  | .index t x i => idxV T j t (ev st.s x) (num (ev st.s i))
  | .slice t x lo hi none => sliceV T j st t (ev st.s x) (lo.map fun l => num (ev st.s l)) (hi.map fun h => num (ev st.s h))
  | .extract x i =>
    match ev st.s x with
    | .tup vs =>
      match vs[i]? with
      | some (b, xs) => match mk b xs with | some v => some (v, []) | none => none
      | none => none
    | _ => none
  | .load t a => loadV T j st t (ev st.s a)
  | .call { callee := .builtin .len, args, argTypes } =>
    match args.toList, argTypes.toList with
    | [x], [t] => match lenV T j st t (ev st.s x) with | some r => some r | none => lookOp T j st o
    | _, _ => none
  | .build t parts => buildV T t (parts.toList.map fun p => (p.1, ev st.s p.2))
  | _ => lookOp T j st o

/-! ### what moves without the world -/
def mapV (f : X → X) : V → V
  | .one x => .one (f x)
  | .agg xs => .agg (xs.map f)
  | .tup vs => .tup (vs.map fun p => (p.1, p.2.map f))
  | .undef => .undef
  | .nop => .nop
/-- does it speak of root t ? -/
def ofRoot (t : Nat) : X → Bool
  | .view u _ | .mv u _ | .sub u _ _ _ | .ptr u _ | .eptr u _ _ | .tv u _ _ | .tp u _ _ _ _ | .bfn _ u => u == t
  | .fn _ caps => caps.contains t
  | _ => false
/-- does it speak of what the root's cell owns ? -/
def ofCell (t o : Nat) : X → Bool
  | .view u p | .mv u p | .sub u p _ _ | .eptr u p _ | .tv u p _ | .tp u p _ _ _ => u == t && p == o
  | _ => false
def kill (p : X → Bool) (s : List V) : List V := s.map (mapV fun x => if p x then .undef else x)
def Root.withRow (row : List RC) : Root → Root
  | .none => .none
  | .box _ => .box row
  | .loose _ => .loose row
def setCellR (r : List Root) (t o : Nat) (rc : RC) : List Root := r.set t ((r.getD t .none).withRow ((r.getD t .none).row.set o rc))
def pushR (r : List Root) (t : Nat) (rc : RC) : List Root := r.set t (.loose ((r.getD t .none).row ++ [rc]))
/-- what a value reads as, if it is a slice or plain -/
def stab (r : List Root) : X → Option C
  | .c c => some c
  | .view t o =>
    match (rootOf r t).row[o]? with
    | some (.own _ n cells) => some (.sl n cells)
    | _ => none
  | .mv t o =>
    match (rootOf r t).row[o]? with
    | some (.map kk m) => some (.map kk m.ks m.vs)
    | _ => none
  | .sub t o lo hi =>
    match (rootOf r t).row[o]? with
    | some (.own e _ cells) => some (.sl (if lo = 0 then hi else j.sub hi lo) (j.ext cells (mulSz j lo (szOf T e)) (mulSz j hi (szOf T e))))
    | _ => none
  | .mem cells off => some (.mem cells off)
  | .tv t o p =>
    match treeAt r t o with
    | some (_, c, none) => some (slJ j (atJ j c p))
    | _ => none
  | _ => none
/-- one cell more for the root of the moment; what owned it owns no more -/
def push (st : St) (x : X) : Option St :=
  match x with
  | .c c => some { st with r := pushR st.r st.s.length (.st c) }
  | .mem cells off => some { st with r := pushR st.r st.s.length (.st (.mem cells off)) }
  | .tv t o [] =>
    match treeAt st.r t o with
    | some (sh, c, none) => if t = st.s.length then none else some { s := kill (ofCell t o) st.s, r := pushR (setCellR st.r t o .dead) st.s.length (.tree sh c none) }
    | _ => none
  | .view t o =>
    match ownAt st.r t o with
    | some (e, n, cells) => if t = st.s.length then none else some { s := kill (ofCell t o) st.s, r := pushR (setCellR st.r t o .dead) st.s.length (.own e n cells) }
    | none => none
  | .mv t o =>
    match mapAt st.r t o with
    | some (kk, m) => if t = st.s.length then none else some { s := kill (ofCell t o) st.s, r := pushR (setCellR st.r t o .dead) st.s.length (.map kk m) }
    | none => none
  | .sub t o lo hi =>
    match ownAt st.r t o with
    | some (e, _, cells) => if t = st.s.length ∨ lo ≠ 0 then none else some { s := kill (ofCell t o) st.s, r := pushR (setCellR st.r t o .dead) st.s.length (.own e hi (j.ext cells 0 (mulSz j hi (szOf T e)))) }
    | none => none
  | _ => none
def cellOf : X → Option (Nat × Nat)
  | .view t o | .mv t o | .sub t o _ _ | .tv t o _ => some (t, o)
  | _ => none
def clash (x : X) (xs : List X) : Bool := match cellOf x with | some (t, o) => xs.any (ofCell t o) | none => false
def pushAll (st : St) : List X → Option St
  | [] => some st
  | x :: xs =>
    if clash x xs then none else
    match push T j st x with | some st' => pushAll st' xs | none => none
/-- what the root's cell owns is not changed any more -/
def frzX (sz : Nat) (t o n : Nat) (cells : List C) (x : X) : X :=
  if ofCell t o x then
    match x with
    | .view _ _ => .c (.sl n cells)
    | .sub _ _ lo hi => .c (.sl (if lo = 0 then hi else j.sub hi lo) (j.ext cells (mulSz j lo sz) (mulSz j hi sz)))
    | .eptr _ _ k => .mem cells k
    | x => x
  else x
def frzM (t o : Nat) (kk : KK) (m : GM) (x : X) : X := if ofCell t o x then (match x with | .mv _ _ => .c (.map kk m.ks m.vs) | _ => .undef) else x
def frzT (t o : Nat) (c : C) (x : X) : X := if ofCell t o x then (match x with | .tv _ _ p => .c (slJ j (atJ j c p)) | _ => .undef) else x
def freeze (st : St) (t o : Nat) : St :=
  match ownAt st.r t o with
  | some (e, n, cells) => { s := st.s.map (mapV (frzX j (szOf T e) t o n cells)), r := setCellR st.r t o (.st (.sl n cells)) }
  | none =>
    match mapAt st.r t o with
    | some (kk, m) => { s := st.s.map (mapV (frzM t o kk m)), r := setCellR st.r t o (.st (.map kk m.ks m.vs)) }
    | none =>
      match treeAt st.r t o with
      | some (_, c, none) => { s := st.s.map (mapV (frzT j t o c)), r := setCellR st.r t o (.st (slJ j c)) }
      | _ => st
def freezeX (st : St) : X → St
  | .view t o | .mv t o | .sub t o _ _ | .tv t o _ => freeze T j st t o
  | _ => st
/-- the root of the moment gets the name d -/
def name (st : St) (d : Nat) : St := { s := kill (fun x => ofRoot d x || ofRoot st.s.length x) st.s, r := (st.r.set d (rootOf st.r st.s.length)).set st.s.length .none }
def toBox (st : St) : St := { st with r := st.r.set st.s.length (.box (rootOf st.r st.s.length).row) }
end Go.Proofs.Ytdmdcmhgfgookaa.A
