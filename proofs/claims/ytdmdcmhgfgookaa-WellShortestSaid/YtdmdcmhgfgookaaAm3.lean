/- The ghost machine, part 3: the operations that make or change memory, and calls; a region's run. -/
import Derived.Test.YtdmdcmhgfgookaaAm2
set_option linter.unusedSimpArgs false
set_option linter.unusedVariables false
set_option maxRecDepth 100000
set_option maxHeartbeats 4000000
namespace Go.Proofs.Ytdmdcmhgfgookaa.A
open Go

/-! ### what a function's contract says -/
def Arg.asRoot : Arg → Root
  | .root R => R
  | .virt R => R
  | _ => .none
/-- is it handed over as an argument, or does a closure alone hold it ? -/
def Arg.real : Arg → Bool
  | .virt _ => false
  | _ => true
def reals (args : List Arg) : Nat := (args.filter Arg.real).length
def ArgRep (w : World) (S : Nat → Prop) (bx : Nat → Nat) (b : Nat) (v : Value) : Arg → Prop
  | .v false cs => ∃ c, cs = [c] ∧ CRep w S v c
  | .v true cs => ∃ us : Array Value, v = .agg us ∧ us.size = cs.length ∧ ∀ k (h : k < cs.length) (h2 : k < us.size), CRep w S us[k] cs[k]
  | .root R => (∃ row, R = .box row ∧ 0 < row.length) ∧ v = .pointer (some ⟨b, 0, none⟩)
  | .fn f => v = .func (.func f) #[] #[]
  | .clo f caps => v = .func (.func f) #[] (caps.map fun t => Value.pointer (some ⟨bx t, 0, none⟩)).toArray
  | .virt _ => False
  | .any => True
/-- the cells of a result, from number o on -/
def PartVal (φ : Nat → Pv) (o : Nat) (u : Value) (p : Bool × List RC) : Prop :=
  if p.1 = true then ∃ us : Array Value, u = .agg us ∧ us.size = p.2.length ∧ ∀ k (h : k < us.size), us[k] = (φ (o + k)).v else p.2.length = 1 ∧ u = (φ o).v
def PartVals (φ : Nat → Pv) : Nat → List Value → List (Bool × List RC) → Prop
  | _, [], [] => True
  | o, u :: us, p :: ps => PartVal φ o u p ∧ PartVals φ (o + p.2.length) us ps
  | _, _, _ => False
def RetRep (φ : Nat → Pv) (v : Value) (ret : RV) : Prop :=
  if ret.tup = true then ∃ us : Array Value, v = .tuple us ∧ PartVals φ 0 us.toList ret.parts else PartVals φ 0 [v] ret.parts
/-- what a call gives, and what becomes of the world -/
structure Gives (T : TT) (w : World) (S : Nat → Prop) (ra : List Root) (bx : Nat → Nat) (ph : Nat → Nat → Pv) (ret : RV) (upd : List Root) (v : Value) (w' : World) (S' : Nat → Prop) (bx' : Nat → Nat) (ph' : Nat → Nat → Pv) : Prop where
  heap : Heap T w' S' (.loose (ret.parts.flatMap (·.2)) :: upd) bx' ph'
  val : RetRep (ph' 0) v ret
  same : ∀ i, bx' (i + 1) = bx i
  keep : ∀ b, S b → S' b
  new : ∀ b, S' b → S b ∨ w.heap.size ≤ b ∨ ∃ t κ, owns ra bx ph t κ b
  mine : ∀ t κ b, owns (.loose (ret.parts.flatMap (·.2)) :: upd) bx' ph' t κ b → w.heap.size ≤ b ∨ ∃ t κ, owns ra bx ph t κ b
  chg : Chg (fun b => ∃ t κ, owns ra bx ph t κ b) w w'
/-- the function, called with such arguments in whatever world, gives this -/
def PC (P : Program) (T : TT) (f : FuncId) (args : List Arg) (ret : RV) (upd : List Root) : Prop :=
  ∀ (w : World) (S : Nat → Prop) (bx : Nat → Nat) (ph : Nat → Nat → Pv) (vs : List Value),
    Heap T w S (args.map Arg.asRoot) bx ph → vs.length = reals args → (∀ i (h : i < args.length) (h2 : i < vs.length), ArgRep w S bx (bx i) vs[i] args[i]) →
    Calls P f vs.toArray w fun e w' => ∃ v S' bx' ph', e = .returned v ∧ Gives T w S (args.map Arg.asRoot) bx ph ret upd v w' S' bx' ph'

/-- a function that is handed a slice of its caller's own and turns what it holds (ret = false), or hands one back in its place (ret = true); gs: functions that are handed over behind it -/
def PCO (P : Program) (T : TT) (f : FuncId) (e : TypeId) (n : Nat) (cells : List C) (gs : List FuncId) (ret : Bool) (n' : Nat) (cells' : List C) : Prop :=
  ∀ (w : World) (S : Nat → Prop) (v : Value), (∀ b, S b → b < w.heap.size) → RCRep T w S (.of v) (.own e n cells) → (∀ b, v.ownBlock = some b → ¬ S b ∧ b < w.heap.size) →
    Calls P f (v :: gs.map fun g => Value.func (.func g) #[] #[]).toArray w fun en w' => ∃ z, en = .returned z ∧ Chg (fun b => v.ownBlock = some b) w w' ∧
      if ret = true then RCRep T w' S (.of z) (.own e n' cells') ∧ (∀ b, z.ownBlock = some b → b < w'.heap.size ∧ (w.heap.size ≤ b ∨ v.ownBlock = some b)) else z = .tuple #[] ∧ RCRep T w' S (.of v) (.own e n' cells')
/-- a function that makes a box and hands back a pointer to it; nothing that it is handed may be changed -/
def PCN (P : Program) (T : TT) (f : FuncId) (args : List Arg) (row : List RC) : Prop :=
  ∀ (w : World) (S : Nat → Prop) (bx : Nat → Nat) (ph : Nat → Nat → Pv) (vs : List Value),
    Heap T w S (args.map Arg.asRoot) bx ph → vs.length = reals args → (∀ i (h : i < args.length) (h2 : i < vs.length), ArgRep w S bx (bx i) vs[i] args[i]) →
    Calls P f vs.toArray w fun e w' => ∃ (b : Nat) (arr : Array Value) (t : TypeId) (S' : Nat → Prop) (bx' : Nat → Nat) (ph' : Nat → Nat → Pv),
      e = .returned (.pointer (some ⟨b, 0, none⟩)) ∧ w'.heap[b]? = some (.cells arr t (0, 0)) ∧ w.heap.size ≤ b ∧ ¬ S' b ∧ (∀ t κ, ¬ owns [Root.loose row] bx' ph' t κ b) ∧ 0 < row.length ∧
      Gives T w S (args.map Arg.asRoot) bx ph ⟨false, [(true, row)]⟩ [] (.agg arr) w' S' bx' ph'
/-- a call of f runs f's text -/
def Enters (P : Program) (f : FuncId) : Prop := ∀ args w, (callFunc f args).run P w = .ok (.enter f args) w

/-! ### the record J as it is meant -/
def gi : C → Int | .val (.int _ n) => n | _ => 0
def gb : C → Bool | .val (.bool b) => b | _ => false
def gs : C → ByteArray | .val (.string s) => s | _ => ByteArray.empty
def gn : C → Nat | .sl n _ => n | _ => 0
def gc : C → List C | .sl _ cs => cs | _ => []
def extC (cs : List C) (lo hi : Nat) : List C := (cs.take hi).drop lo
def setC (cs : List C) (k : Nat) (us : List C) : List C := cs.take k ++ us ++ cs.drop (k + us.length)
def repC (n : Nat) (zs : List C) : List C := (List.replicate n zs).flatten
def bytesC (cs : List C) : ByteArray := ⟨(cs.map fun c => UInt8.ofNat (gi c).toNat).toArray⟩
def ofBytesC (s : ByteArray) : List C := s.data.toList.map fun b => .val (.int .u8 (b.toNat : Int))
def isBytesC (cs : List C) : Prop := ∀ c ∈ cs, ∃ b : UInt8, c = .val (.int .u8 (b.toNat : Int))
def satB (s : ByteArray) (i : Nat) : Int := (bt s i : Int)
/-- is the cell of that kind ? an empty slice is nil, too -/
def okK (k : K) (c : C) : Prop :=
  match k with
  | .int k => ∃ n, c = .val (.int k n)
  | .bool => ∃ b, c = .val (.bool b)
  | .str => ∃ s, c = .val (.string s)
  | .sl => c = .nil ∨ ∃ n cs, c = .sl n cs
  | .raw => True
def arithI (op : BinOp) (k : IntKind) (a b : Int) : Int :=
  match op with
  | .add => k.wrap (a + b)
  | .sub => k.wrap (a - b)
  | .mul => k.wrap (a * b)
  | .quo => k.wrap (a.tdiv b)
  | .rem => a.tmod b
  | .and => k.wrap ((BitVec.ofInt k.bits a) &&& (BitVec.ofInt k.bits b)).toNat
  | .or => k.wrap ((BitVec.ofInt k.bits a) ||| (BitVec.ofInt k.bits b)).toNat
  | .xor => k.wrap ((BitVec.ofInt k.bits a) ^^^ (BitVec.ofInt k.bits b)).toNat
  | .andNot => k.wrap ((BitVec.ofInt k.bits a) &&& ~~~(BitVec.ofInt k.bits b)).toNat
  | .shl => k.wrap (a * 2 ^ min b.toNat k.bits)
  | .shr => a.fdiv (2 ^ min b.toNat k.bits)
  | _ => 0
def cmpI (op : BinOp) (a b : Int) : Bool :=
  match op with
  | .eql => a == b
  | .neq => a != b
  | .lss => decide (a < b)
  | .leq => decide (a ≤ b)
  | .gtr => decide (a > b)
  | .geq => decide (a ≥ b)
  | _ => false
def cmpS (op : BinOp) (a b : ByteArray) : Bool :=
  match op with
  | .eql => a.toList == b.toList
  | .neq => !(a.toList == b.toList)
  | .lss => Op.bytesLess a.toList b.toList
  | .leq => Op.bytesLess a.toList b.toList || a.toList == b.toList
  | .gtr => !(Op.bytesLess a.toList b.toList || a.toList == b.toList)
  | .geq => !Op.bytesLess a.toList b.toList
  | _ => false
def cmpB (op : BinOp) (a b : Bool) : Bool := match op with | .eql => a == b | .neq => a != b | _ => false
/-! ### maps -/
def kidx (ks : List Value) (k : Value) : Option Nat := ks.findIdx? (keq k)
def mhasC (ks : List Value) (k : Value) : Bool := (kidx ks k).isSome
def mgetC (ks : List Value) (vs : List C) (k : Value) (z : C) : C := match kidx ks k with | some i => vs.getD i z | none => z
def GM.put (m : GM) (k : Value) (v : C) : GM where
  ks := m.ks ++ [k]
  vs := m.vs ++ [v]
  born := m.born ++ [m.clock]
  clock := m.clock + 1
  l1 := by simp [m.l1]
  l2 := by simp [m.l2]
  lt := fun i hi => by
    rcases List.mem_append.1 hi with h | h
    · exact Nat.lt_succ_of_lt (m.lt i h)
    · rw [List.mem_singleton.1 h]; exact Nat.lt_succ_self _
  nd := List.nodup_append.2 ⟨m.nd, by simp, fun a ha b hb => by rw [List.mem_singleton.1 hb]; exact Nat.ne_of_lt (m.lt a ha)⟩
def GM.vset (m : GM) (i : Nat) (v : C) : GM where
  ks := m.ks
  vs := m.vs.set i v
  born := m.born
  clock := m.clock
  l1 := by simp [m.l1]
  l2 := m.l2
  lt := m.lt
  nd := m.nd
def GM.cut (m : GM) (i : Nat) : GM where
  ks := m.ks.eraseIdx i
  vs := m.vs.eraseIdx i
  born := m.born.eraseIdx i
  clock := m.clock
  l1 := by simp [List.length_eraseIdx, m.l1]
  l2 := by simp [List.length_eraseIdx, m.l2]
  lt := fun k hk => m.lt k (List.mem_of_mem_eraseIdx hk)
  nd := m.nd.sublist (List.eraseIdx_sublist ..)
def GM.set (m : GM) (k : Value) (v : C) : GM := match kidx m.ks k with | some i => m.vset i v | none => m.put k v
def GM.ent (m : GM) (k : Value) (z : C) : GM := match kidx m.ks k with | some _ => m | none => m.put k z
def GM.stampOf (m : GM) (k : Value) : Int := match kidx m.ks k with | some i => (m.born.getD i 0 : Nat) | none => 0
def GM.bidx (m : GM) (n : Int) : Option Nat := m.born.findIdx? fun b : Nat => decide ((b : Int) = n)
def GM.stamp (m : GM) (n : Int) (v : C) : GM := match m.bidx n with | some i => m.vset i v | none => m
def GM.stamped (m : GM) (n : Int) : Prop := (m.bidx n).isSome = true
def GM.del (m : GM) (k : Value) : GM := match kidx m.ks k with | some i => m.cut i | none => m
def GM.new : GM := ⟨[], [], [], 0, rfl, rfl, fun _ h => (by cases h), List.nodup_nil⟩
def std (P : Program) (T : TT) : J where
  arith := arithI
  cmp := cmpI
  scmp := cmpS
  bcmp := cmpB
  bnot := not
  wrap := IntKind.wrap
  imin := fun x y => if y < x then y else x
  imax := fun x y => if y > x then y else x
  cat := fun a b => a ++ b
  ssize := ByteArray.size
  sat := satB
  sext := ByteArray.extract
  ofNat := fun n => (n : Int)
  toNat := Int.toNat
  add := (· + ·)
  sub := (· - ·)
  mul := (· * ·)
  cell := cellAt
  ext := extC
  app := (· ++ ·)
  set := setC
  rep := repC
  clen := List.length
  bytes := bytesC
  ofBytes := ofBytesC
  gi := gi
  gb := gb
  gs := gs
  gn := gn
  gc := gc
  ok := okK
  inb := fun i n => 0 ≤ i ∧ i < (n : Int)
  le := (· ≤ ·)
  lei := (· ≤ ·)
  pos := (0 < ·)
  ne0 := (· ≠ 0)
  eqb := (· = ·)
  isBytes := isBytesC
  vals := fun cs => ∀ c ∈ cs, ∃ v, c = .val v
  pc := fun f args ret upd => Enters P f ∧ PC P T f args ret upd
  mhas := mhasC
  mget := mgetC
  mlen := List.length
  mnew := GM.new
  mset := GM.set
  ment := GM.ent
  mborn := GM.stampOf
  mstamp := GM.stamp
  mstamped := GM.stamped
  mdel := GM.del
  pco := fun f e n cells gs ret n' cells' => Enters P f ∧ PCO P T f e n cells gs ret n' cells'
  pcn := fun f args row => Enters P f ∧ PCN P T f args row

variable (T : TT) (j : J)

def partsX (t : Nat) : Nat → List (Bool × List RC) → List (Bool × List X)
  | _, [] => []
  | o, (b, row) :: r => (b, row.zipIdx.map fun (rc, i) => rcX t (o + i) rc) :: partsX t (o + row.length) r
def retV (t : Nat) (ret : RV) : V :=
  if ret.tup then .tup (partsX t 0 ret.parts) else
  match partsX t 0 ret.parts with
  | [(b, xs)] => (mk b xs).getD .undef
  | _ => .undef
def optAll {α : Type} : List (Option α) → Option (List α)
  | [] => some []
  | none :: _ => none
  | some a :: r => match optAll r with | some l => some (a :: l) | none => none
/-- the roots that are handed over: by a pointer, each at its argument's place, or by a closure, behind the arguments -/
def ptrOf : V → Option Nat
  | .one (.ptr t 0) => some t
  | _ => none
def capsOf : V → List Nat
  | .one (.fn _ caps) => caps
  | _ => []
def uniq : List Nat → List Nat → List Nat
  | _, [] => []
  | seen, t :: ts => if seen.contains t then uniq seen ts else t :: uniq (t :: seen) ts
def tsOf (args : List V) : List (Option Nat) := args.map ptrOf ++ (uniq (args.filterMap ptrOf) (args.flatMap capsOf)).map some
def placeIn : List (Option Nat) → Nat → Nat
  | [], _ => 0
  | some u :: ts, t => if u = t then 0 else placeIn ts t + 1
  | none :: ts, t => placeIn ts t + 1
def distinct : List (Option Nat) → Bool
  | [] => true
  | none :: ts => distinct ts
  | some t :: ts => !ts.contains (some t) && distinct ts
/-- the root that a cell of a slot hangs on -/
def rootX : X → Option Nat
  | .view t _ | .mv t _ | .sub t _ _ _ | .ptr t _ | .eptr t _ _ | .tv t _ _ | .tp t _ _ _ _ | .bfn _ t => some t
  | _ => none
def handed (ts : List (Option Nat)) (x : X) : Bool := match rootX x with | some t => ts.contains (some t) | none => false
/-- what is handed to a call -/
def argOf (r : List Root) (ts : List (Option Nat)) : V → Option Arg
  | .one (.fn f []) => some (.fn f)
  | .one (.fn f caps) => some (.clo f (caps.map (placeIn ts)))
  | .one (.ptr t 0) => match rootOf r t with | .box row => if row.isEmpty then none else some (.root (.box row)) | _ => none
  | .one x => if handed ts x then some .any else match stab T j r x with | some c => some (.v false [c]) | none => some .any
  | .agg xs => if xs.any (handed ts) then none else match optAll (xs.map (stab T j r)) with | some cs => some (.v true cs) | none => none
  | _ => none
def virtOf (r : List Root) : Option Nat → Option Arg
  | some t => match rootOf r t with | .box row => if row.isEmpty then none else some (.virt (.box row)) | _ => none
  | none => none
/-- what became of the roots that were handed over -/
def fitsR (r : List Root) : List (Option Nat) → List Root → Bool
  | [], [] => true
  | some t :: ts, .box row :: us => (match rootOf r t with | .box row' => row.length == row'.length | _ => false) && fitsR r ts us
  | none :: ts, .none :: us => fitsR r ts us
  | _, _ => false
def setRoots (r : List Root) : List (Option Nat) → List Root → List Root
  | some t :: ts, R :: us => setRoots (r.set t R) ts us
  | _ :: ts, _ :: us => setRoots r ts us
  | _, _ => r
/-- views of what was handed over are lost -/
def lostX (ts : List (Option Nat)) : X → Bool
  | .ptr _ _ => false
  | .bfn _ _ => false
  | x => handed ts x
def K.slicy : K → Bool
  | .sl | .raw => true
  | _ => false
/-- may the cell hold a slice that somebody else holds, too ? -/
def RC.slicy : RC → Bool
  | .st (.val _) => false
  | .dead => false
  | .own e _ _ => match T e with | some te => te.cells.any K.slicy | none => true
  | _ => true
def RC.plainObl : RC → Prop
  | .own _ _ cells => j.vals cells
  | _ => True
def callOp (st : St) (f : FuncId) (args : List V) (cr : RV × List Root) : Option ((Nat → V) × St × List Prop) :=
  let ts := tsOf args
  match optAll (args.map (argOf T j st.r ts)), optAll ((ts.drop args.length).map (virtOf st.r)) with
  | some as, some vs =>
    let us := if cr.2.isEmpty then ts.map fun _ => Root.none else cr.2
    if distinct ts && fitsR st.r ts us && !ts.contains (some st.s.length) then
      let row := cr.1.parts.flatMap (·.2)
      let rows := row ++ us.flatMap Root.row
      if rows.any (RC.slicy T) then
        let st1 := ((args.flatMap cellsOfV).filter fun x => !handed ts x).foldl (freezeX T j) st
        some (fun d => retV d cr.1, { s := kill (lostX ts) st1.s, r := (setRoots st1.r ts us).set st.s.length (.loose row) }, [j.pc f (as ++ vs) cr.1 cr.2])
      else some (fun d => retV d cr.1, { s := kill (lostX ts) st.s, r := (setRoots st.r ts us).set st.s.length (.loose row) }, j.pc f (as ++ vs) cr.1 cr.2 :: rows.map (RC.plainObl j))
    else none
  | _, _ => none

/-- a call that makes a box -/
def newCall (st : St) (f : FuncId) (args : List V) (row : List RC) : Option ((Nat → V) × St × List Prop) :=
  if args.all (fun x => (ptrOf x).isNone && (capsOf x).isEmpty) && !row.any RC.isMe then
    match optAll (args.map (argOf T j st.r [])) with
    | some as =>
      let st1 := (args.flatMap cellsOfV).foldl (freezeX T j) st
      some (fun d => .one (.ptr d 0), { s := kill (lostX []) st1.s, r := st1.r.set st.s.length (.box row) }, [j.pcn f as row])
    | none => none
  else none
def anyCall (st : St) (f : FuncId) (args : List V) (cr : RV × List Root) : Option ((Nat → V) × St × List Prop) :=
  match cr with
  | (⟨false, []⟩, [.box row]) => newCall T j st f args row
  | cr => callOp T j st f args cr
def fnOf : V → Option FuncId
  | .one (.fn f []) => some f
  | _ => none
/-- a slice of one's own is handed over, to be turned -/
def ownCall (st : St) (f : FuncId) (x : V) (rest : List V) (cr : RV × List Root) : Option ((Nat → V) × St × List Prop) :=
  match x, cr.2, optAll (rest.map fnOf) with
  | .one (.view t o), [.loose [.own e n' cs']], some gs =>
    match ownAt st.r t o with
    | some (e0, n, cells) =>
      if e0 = e ∧ t ≠ st.s.length then
        match cr.1.parts with
        | [] => some (fun _ => .undef, { st with r := setCellR st.r t o (.own e n cs') }, [j.pco f e n cells gs false n cs'])
        | _ => some (fun d => .one (.view d 0), { s := kill (ofCell t o) st.s, r := pushR (setCellR st.r t o .dead) st.s.length (.own e n' cs') }, [j.pco f e n cells gs true n' cs'])
      else none
    | none => none
  | _, _, _ => none
/-- what is appended to: the cell of a root, or nil -/
def appBase (st : St) (e : TypeId) (sz : Nat) : V → Option (Option (Nat × Nat) × Nat × List C)
  | .one (.c .nil) => some (none, 0, [])
  | .one (.view t o) =>
    match ownAt st.r t o with
    | some (e', n, cells) => if e = e' ∧ t ≠ st.s.length then some (some (t, o), n, cells) else none
    | none => none
  | .one (.sub t o 0 hi) =>
    match ownAt st.r t o with
    | some (e', _, cells) => if e = e' ∧ t ≠ st.s.length then some (some (t, o), hi, j.ext cells 0 (mulSz j hi sz)) else none
    | none => none
  | _ => none
def appNews (st : St) (e : TypeId) (sz : Nat) (b : Option (Nat × Nat)) : V → Option (Nat × List C × List Prop)
  | .one (.c .nil) => some (0, [], [])
  | .one (.c (.sl m cs)) => some (m, cs, [j.le (mulSz j m sz) (j.clen cs), j.le (j.clen cs) (mulSz j m sz)])
  | .one (.view t o) =>
    match ownAt st.r t o with
    | some (e', m, cs) => if e = e' ∧ b ≠ some (t, o) then some (m, cs, []) else none
    | none => none
  | .one (.sub t o lo hi) =>
    match ownAt st.r t o with
    | some (e', _, cs) => if e = e' ∧ b ≠ some (t, o) then some (if lo = 0 then hi else j.sub hi lo, j.ext cs (mulSz j lo sz) (mulSz j hi sz), []) else none
    | none => none
  | _ => none
def appOp (st : St) (t : TypeId) (base news : V) : Option ((Nat → V) × St × List Prop) :=
  match T t with
  | some ti =>
    match ti.desc with
    | .slice e =>
      match T e with
      | some te =>
        match appBase j st e te.size base with
        | some (b, n, cells) =>
          match appNews j st e te.size b news with
          | some (m, cs, obl) =>
            if te.size = 0 ∨ te.bytes = 0 then none else
            let st1 := match b with
              | some (t1, o1) => { s := kill (ofCell t1 o1) st.s, r := setCellR st.r t1 o1 .dead : St }
              | none => st
            let nm := plus j n m
            some (fun d => .one (.view d 0), { st1 with r := pushR st1.r st.s.length (.own e nm (match b with | none => cs | some _ => j.app cells cs)) },
              j.le (j.mul nm te.bytes) 140737488355328 :: obl)
          | none => none
        | none => none
      | none => none
    | _ => none
  | none => none

/-- where a copy goes: the cell of a root, from where on, how many -/
def copyDst (st : St) (e : TypeId) : V → Option (Nat × Nat × Nat × Nat × Nat × List C)
  | .one (.view t o) => match ownAt st.r t o with | some (e', n, cells) => if e' = e then some (t, o, 0, n, n, cells) else none | none => none
  | .one (.sub t o lo hi) => match ownAt st.r t o with | some (e', n, cells) => if e' = e then some (t, o, lo, if lo = 0 then hi else j.sub hi lo, n, cells) else none | none => none
  | _ => none
/-- a slice's own cells are overwritten by others, as many as there is room for -/
def copyOp (st : St) (t : TypeId) (dst src : V) : Option ((Nat → V) × St × List Prop) :=
  match elemOf T t with
  | some (e, te) =>
    if te.size ≠ 1 then none else
    match copyDst j st e dst with
    | some (t1, o1, lo, len, n, cells) =>
      match appNews j st e 1 none src with
      | some (m, cs, obl) => some (fun _ => .one (.c (.val (.int .i64 (j.imin (j.ofNat len) (j.ofNat m))))), { st with r := setCellR st.r t1 o1 (.own e n (j.set cells lo (j.ext cs 0 (j.toNat (j.imin (j.ofNat len) (j.ofNat m)))))) }, obl)
      | none => none
    | none => none
  | none => none
/-- as many zeros, behind nil -/
def appZ (st : St) (t u : TypeId) (base num' : V) : Option ((Nat → V) × St × List Prop) :=
  match descOf T u, base, num num', elemOf T t with
  | .int _, .one (.c .nil), some n, some (e, te) =>
    match optAll ((cellsOfV (constV te.zero)).map (stab T j st.r)) with
    | some zs =>
      if zs.length ≠ te.size ∨ te.size = 0 ∨ te.bytes = 0 then none else
      some (fun d => .one (.view d 0), { st with r := pushR st.r st.s.length (.own e (j.toNat n) (j.rep (j.toNat n) zs)) }, [j.lei 1 n, j.le (j.mul (j.toNat n) te.bytes) 140737488355328])
    | none => none
  | _, _, _, _ => none
/-- does it speak of what one of the cells o .. o + n - 1 owns ? -/
def ofCells (t o n : Nat) : X → Bool
  | .view u p | .mv u p | .sub u p _ _ | .eptr u p _ | .tv u p _ | .tp u p _ _ _ => u == t && decide (o ≤ p) && decide (p < o + n)
  | _ => false
def clashAny : List X → Bool
  | [] => false
  | x :: xs => clash x xs || clashAny xs
/-- what is to be laid into a box: where one slice stands twice, it is not changed any more -/
def settle (st : St) (xs : List X) : Option (St × List X) :=
  if clashAny xs then match optAll (xs.map (stab T j st.r)) with | some cs => some (xs.foldl (freezeX T j) st, cs.map cX) | none => none else some (st, xs)
/-! ### maps -/
/-- an own map's new content -/
def setMap (r : List Root) (t o : Nat) (kk : KK) (m : GM) : List Root := setCellR r t o (.map kk m)
def mapOp (st : St) (o : Oper) : Option ((Nat → V) × St × List Prop) :=
  match o.op with
  | .makeMap t none =>
    match mapTy T t with
    | some (kk, _) => some (fun d => .one (.mv d 0), { st with r := pushR st.r st.s.length (.map kk j.mnew) }, [])
    | none => none
  | .mapUpdate t m k v =>
    match mapTy T t, ev st.s m, keyOf (ev st.s k), ev st.s v with
    | some (kk, _), .one (.mv t' o'), some k, .one x =>
      match stab T j st.r x with
      | some c =>
        let st1 := freezeX T j st x
        match mapAt st1.r t' o' with
        | some (kk', m) => if kk = kk' ∧ kk.ok k = true ∧ st1.r.length = st.r.length then some (fun _ => .undef, { st1 with r := setMap st1.r t' o' kk (j.mset m k c) }, []) else none
        | none => none
      | none => none
    | _, _, _, _ => none
  | .mapEntry t m k =>
    match mapTy T t, ev st.s m, keyOf (ev st.s k) with
    | some (kk, te), .one (.mv t' o'), some k =>
      match mapAt st.r t' o', zeroC te, te.cells with
      | some (kk', m), some z, [kd] =>
        if kk = kk' ∧ kk.ok k = true then
          some (fun _ => .tup [(false, [.c (shape j kd (j.mget m.ks m.vs k z))]), (false, [.c (.val (.int .i64 (j.mborn (j.ment m k z) k)))])], { st with r := setMap st.r t' o' kk (j.ment m k z) }, [j.ok kd (j.mget m.ks m.vs k z)])
        else none
      | _, _, _ => none
    | _, _, _ => none
  | .entryStore t m n v =>
    match mapTy T t, ev st.s m, ev st.s n, ev st.s v with
    | some (kk, _), .one (.mv t' o'), .one (.c (.val (.int .i64 n))), .one (.c (.val v)) =>
      match mapAt st.r t' o' with
      | some (kk', m) => if kk = kk' then some (fun _ => .undef, { st with r := setMap st.r t' o' kk (j.mstamp m n (.val v)) }, [j.mstamped m n]) else none
      | none => none
    | _, _, _, _ => none
  | _ => none
/-! ### trees -/
mutual
def Sh.same : Sh → Sh → Bool
  | .st, .st => true
  | .sl e ks, .sl e' ks' => e == e' && sameL ks ks'
  | _, _ => false
def sameL : List Sh → List Sh → Bool
  | [], [] => true
  | a :: as, b :: bs => a.same b && sameL as bs
  | _, _ => false
end
def Sh.isSt : Sh → Bool
  | .st => true
  | _ => false
def allSt (ks : List Sh) : Bool := ks.all Sh.isSt
/-- a root's cell as a tree's -/
def toT (sh : Sh) : RC → Option C
  | .st c => match sh, c with | .st, c => some c | .sl _ _, .nil => some .nil | _, _ => none
  | .own e n cells => match sh with | .sl e' ks => if e = e' ∧ allSt ks = true then some (.sl n cells) else none | .st => none
  | .tree sh' c none => if sh.same sh' then some c else none
  | _ => none
/-- cells that stand in a slice from place off of an element on -/
def rowT (ks : List Sh) (sz off : Nat) (row : List RC) : Option (List C) := optAll (row.zipIdx.map fun (rc, i) => toT (ks.getD ((off + i) % sz) .st) rc)
/-- does it speak of what stands so far in, or farther ? -/
def ofKid (t o m : Nat) : X → Bool
  | .tv u p w | .tp u p w _ _ => u == t && p == o && decide (m ≤ w.length)
  | _ => false
def dropN (st : St) : St := { s := kill (ofRoot st.s.length) st.s, r := st.r.set st.s.length .none }
/-- the hole is where something is laid now -/
def fillObl (p : Path) (k off n : Nat) : Path → Option (List Prop)
  | [] => none
  | [(a, b)] => match p with | [] => if off ≤ b ∧ b < off + n then some [j.le a (plus j k (b - off)), j.le (plus j k (b - off)) a] else none | _ => none
  | (a, _) :: q => match p with | (c, _) :: p' => (match fillObl p' k off n q with | some l => some (j.le a c :: j.le c a :: l) | none => none) | [] => none
/-- what is appended to a tree's slice -/
def treeBase (st : St) (t o : Nat) (p : Path) : Option (Sh × C × TypeId × List Sh × Nat × List C × St) :=
  match treeAt st.r t o with
  | some (sh, c, none) =>
    if t = st.s.length then none else
    match sh.to p with
    | .sl e ks =>
      some (sh, c, e, ks, lenJ j (atJ j c p), clsJ j (atJ j c p), match p with
        | [] => { s := kill (ofCell t o) st.s, r := setCellR st.r t o .dead }
        | _ => { s := kill (ofKid t o p.length) st.s, r := setCellR st.r t o (.tree sh (updJ j (fun _ => holeC) c p) (some p)) })
    | .st => none
  | _ => none
def treeApp (st : St) (t : TypeId) (base news : V) : Option ((Nat → V) × St × List Prop) :=
  match elemOf T t with
  | some (e, te) =>
    if te.size = 0 ∨ te.bytes = 0 then none else
    if te.kids.isEmpty then
      match base with
      | .one (.tv t1 o1 (x :: p1)) =>
        match treeBase j st t1 o1 (x :: p1), appNews j st e te.size none news with
        | some (_, _, e1, ks1, n, cells, st1), some (m, cs, obl) =>
          if e = e1 ∧ allSt ks1 = true then
            some (fun d => .one (.view d 0), { st1 with r := pushR st1.r st.s.length (.own e (plus j n m) (j.app cells cs)) }, j.le (j.mul (plus j n m) te.bytes) 140737488355328 :: obl)
          else none
        | _, _ => none
      | _ => none
    else
      match news with
      | .one (.tv t2 o2 []) =>
        match treeAt st.r t2 o2 with
        | some (.sl e2 ks2, .sl m cs, none) =>
          if e2 = e ∧ sameL ks2 te.kids = true ∧ t2 ≠ st.s.length then
            match base with
            | .one (.c .nil) => some (fun d => .one (.tv d 0 []), { s := kill (ofCell t2 o2) st.s, r := pushR (setCellR st.r t2 o2 .dead) st.s.length (.tree (.sl e te.kids) (.sl m cs) none) }, [j.le (j.mul m te.bytes) 140737488355328])
            | .one (.tv t1 o1 p1) =>
              if t1 = t2 ∧ o1 = o2 then none else
              match treeBase j st t1 o1 p1 with
              | some (_, _, e1, ks1, n, cells, st1) =>
                if e1 = e ∧ sameL ks1 te.kids = true then
                  some (fun d => .one (.tv d 0 []), { s := kill (ofCell t2 o2) st1.s, r := pushR (setCellR st1.r t2 o2 .dead) st.s.length (.tree (.sl e te.kids) (.sl (plus j n m) (j.app cells cs)) none) }, [j.le (j.mul (plus j n m) te.bytes) 140737488355328])
                else none
              | none => none
            | _ => none
          else none
        | _ => none
      | _ => none
  | none => none
def treeOp (st : St) (o : Oper) : Option ((Nat → V) × St × List Prop) :=
  match o.op with
  | .buildSlice t len parts =>
    match elemOf T t with
    | some (e, te) =>
      if te.kids.isEmpty then none else
      let us := parts.toList.map fun p => cellsOfV (ev st.s p.2)
      if parts.toList.map (·.1) ≠ List.range len ∨ !us.all (fun u => u.length == te.size) ∨ len * te.size > 2 ^ 24 ∨ te.size = 0 then none else
      match pushAll T j st us.flatten with
      | some st1 =>
        match rowT te.kids te.size 0 (rootOf st1.r st.s.length).row with
        | some cs => some (fun d => .one (.tv d 0 []), { dropN st1 with r := pushR (dropN st1).r st.s.length (.tree (.sl e te.kids) (.sl len cs) none) }, [])
        | none => none
      | none => none
    | none => none
  | .makeSlice t l c =>
    match elemOf T t, num (ev st.s l), num (ev st.s c) with
    | some (e, te), some l, some c =>
      if te.kids.isEmpty then none else
      match optAll ((cellsOfV (constV te.zero)).map (stab T j st.r)) with
      | some zs =>
        if zs.length ≠ te.size ∨ te.size = 0 ∨ te.bytes = 0 then none else
        match rowT te.kids te.size 0 (zs.map RC.st) with
        | some zs' =>
          some (fun d => .one (.tv d 0 []), { st with r := pushR st.r st.s.length (.tree (.sl e te.kids) (.sl (j.toNat l) (j.rep (j.toNat l) zs')) none) },
            [j.lei 0 l, j.lei l c, j.le (j.mul (j.toNat c) te.bytes) 140737488355328])
        | none => none
      | none => none
    | _, _, _ => none
  | .store t a x =>
    match T t, ev st.s a with
    | some ti, .one (.tp t' o p k off) =>
      let xs := cellsOfV (ev st.s x)
      if xs.length ≠ ti.size ∨ ti.size = 0 ∨ t' = st.s.length then none else
      match pushAll T j st xs with
      | some st1 =>
        match treeAt st1.r t' o, nodeAt j st1.r t' o p with
        | some (sh, c, h), some (e, ks, _, cells) =>
          if szOf T e < off + ti.size then none else
          match rowT ks (szOf T e) off (rootOf st1.r st.s.length).row with
          | some cs =>
            match (match h with | none => some [] | some q => fillObl j p k off ti.size q) with
            | some obl =>
              some (fun _ => .undef, { s := kill (ofKid t' o (p.length + 1)) (dropN st1).s, r := setCellR (dropN st1).r t' o (.tree sh (updJ j (fun nd => .sl (lenJ j nd) (j.set (clsJ j nd) k cs)) c p) none) },
                j.le (plus j k ti.size) (j.clen cells) :: obl)
            | none => none
          | none => none
        | _, _ => none
      | none => none
    | _, _ => none
  | .call { callee := .builtin .append, args, argTypes } =>
    match args.toList, argTypes.toList with
    | [x, y], [t, u] => if t = u then treeApp T j st t (ev st.s x) (ev st.s y) else none
    | _, _ => none
  | _ => none
def runOp0 (st : St) (o : Oper) (cr : Option (RV × List Root)) : Option ((Nat → V) × St × List Prop) :=
  match o.op with
  | .alloc e =>
    match T e with
    | some ti =>
      match cellsOfV (constV ti.zero) with
      | [] => none
      | xs => match pushAll T j st xs with | some st1 => if (rootOf st1.r st.s.length).row.any RC.isMe then none else some (fun d => .one (.ptr d 0), toBox st1, []) | none => none
    | none => none
  | .box _ x =>
    match cellsOfV (ev st.s x) with
    | [] => none
    | xs => match pushAll T j st xs with | some st1 => if (rootOf st1.r st.s.length).row.any RC.isMe then none else some (fun d => .one (.ptr d 0), toBox st1, []) | none => none
  | .buildSlice t len parts =>
    match T t with
    | some ti =>
      match ti.desc with
      | .slice e =>
        match T e with
        | some te =>
          let us := parts.toList.map fun p => cellsOfV (ev st.s p.2)
          if parts.toList.map (·.1) ≠ List.range len ∨ !us.all (fun u => u.length == te.size) ∨ len * te.size > 2 ^ 24 ∨ te.size = 0 then none else
          match optAll (us.flatten.map (stab T j st.r)) with
          | some cs =>
            let st1 := us.flatten.foldl (freezeX T j) st
            some (fun d => .one (.view d 0), { st1 with r := pushR st1.r st.s.length (.own e len cs) }, [])
          | none => none
        | none => none
      | _ => none
    | none => none
  | .makeSlice t l c =>
    match T t, num (ev st.s l), num (ev st.s c) with
    | some ti, some l, some c =>
      match ti.desc with
      | .slice e =>
        match T e with
        | some te =>
          match optAll ((cellsOfV (constV te.zero)).map (stab T j st.r)) with
          | some zs =>
            if zs.length ≠ te.size ∨ te.size = 0 ∨ te.bytes = 0 then none else
            some (fun d => .one (.view d 0), { st with r := pushR st.r st.s.length (.own e (j.toNat l) (j.rep (j.toNat l) zs)) },
              [j.lei 0 l, j.lei l c, j.le (j.mul (j.toNat c) te.bytes) 140737488355328])
          | none => none
        | none => none
      | _ => none
    | _, _, _ => none
  | .store t a x =>
    match T t with
    | some ti =>
      let xs := cellsOfV (ev st.s x)
      if xs.length ≠ ti.size ∨ ti.size = 0 then none else
      match ev st.s a with
      | .one (.ptr _ _) =>
        match settle T j st xs with
        | some (st0, xs0) =>
          match ev st0.s a with
          | .one (.ptr t' o) =>
            match pushAll T j st0 xs0 with
            | some st1 =>
              match rootOf st1.r t' with
              | .box row =>
                if o + ti.size ≤ row.length ∧ t' ≠ st0.s.length ∧ (rootOf st1.r st0.s.length).row.any RC.isMe = false then
                  some (fun _ => .undef, { s := kill (fun x => ofRoot st0.s.length x || ofCells t' o ti.size x) st1.s, r := (st1.r.set t' (.box (row.take o ++ (rootOf st1.r st0.s.length).row ++ row.drop (o + ti.size)))).set st0.s.length .none }, [])
                else none
              | _ => none
            | none => none
          | _ => none
        | none => none
      | .one (.eptr t' o k) =>
        match optAll (xs.map (stab T j st.r)) with
        | some cs =>
          let st1 := xs.foldl (freezeX T j) st
          match ownAt st1.r t' o with
          | some (e, n, cells) => some (fun _ => .undef, { st1 with r := setCellR st1.r t' o (.own e n (j.set cells k cs)) }, [j.le (plus j k ti.size) (j.clen cells)])
          | none => none
        | none => none
      | _ => none
    | none => none
  | .convert src dst x =>
    match T dst, ev st.s x, descOf T src with
    | some td, .one (.c (.val (.string s))), .string =>
      match td.desc with
      | .slice e => match descOf T e with | .int .u8 => some (fun _ => .one (.c (.sl (j.ssize s) (j.ofBytes s))), st, []) | _ => none
      | _ => none
    | _, _, _ => none
  | .call { callee := .builtin .append, args, argTypes } =>
    match args.toList, argTypes.toList with
    | [x, y], [t, u] => if t = u then appOp T j st t (ev st.s x) (ev st.s y) else appZ T j st t u (ev st.s x) (ev st.s y)
    | _, _ => none
  | .call { callee := .builtin .copy, args, argTypes } =>
    match args.toList, argTypes.toList with
    | [x, y], [t, u] => if t = u then copyOp T j st t (ev st.s x) (ev st.s y) else none
    | _, _ => none
  | .call { callee := .value f, args, .. } =>
    match ev st.s f, cr with
    | .one (.fn f caps), some cr =>
      match args.toList, caps with
      | x :: rest, [] =>
        match ownCall j st f (ev st.s x) (rest.map (ev st.s)) cr with
        | some r => some r
        | none => anyCall T j st f (args.toList.map (ev st.s) ++ caps.map fun t => .one (.ptr t 0)) cr
      | _, _ => anyCall T j st f (args.toList.map (ev st.s) ++ caps.map fun t => .one (.ptr t 0)) cr
    | _, _ => none
  | _ => mapOp T j st o

/-- methods bound to a box: stored in it, called -/
def meOp (st : St) (o : Oper) (cr : Option (RV × List Root)) : Option ((Nat → V) × St × List Prop) :=
  match o.op with
  | .store t a x =>
    match T t, ev st.s a, ev st.s x with
    | some ti, .one (.ptr t' o), .one (.bfn g u) =>
      match rootOf st.r t' with
      | .box row =>
        if u = t' ∧ ti.size = 1 ∧ o + 1 ≤ row.length ∧ t' ≠ st.s.length then
          some (fun _ => .undef, { s := kill (fun x => ofRoot st.s.length x || ofCells t' o 1 x) st.s, r := (st.r.set t' (.box (row.take o ++ [.me g] ++ row.drop (o + 1)))).set st.s.length .none }, [])
        else none
      | _ => none
    | _, _, _ => none
  | .call { callee := .value f, args, .. } =>
    match ev st.s f, cr with
    | .one (.bfn g t), some cr => anyCall T j st g (.one (.ptr t 0) :: args.toList.map (ev st.s)) cr
    | _, _ => none
  | _ => none
def runOp (st : St) (o : Oper) (cr : Option (RV × List Root)) : Option ((Nat → V) × St × List Prop) :=
  match treeOp T j st o with
  | some r => some r
  | none =>
    match meOp T j st o cr with
    | some r => some r
    | none => runOp0 T j st o cr
def put (st : St) (d : Option Nat) (v : V) : St :=
  match d with
  | some d => { st with s := st.s.set d v }
  | none => st
/-- the state behind what was carried out -/
def fin (st : St) (d : Option Nat) (vf : Nat → V) : St :=
  match d with
  | some d => put (name st d) (some d) (vf d)
  | none => { s := kill (ofRoot st.s.length) st.s, r := st.r.set st.s.length .none }

/-- what the prover says of a region: the outcome of tests and choices, what calls give; by the operation's number -/
structure Say where
  g : List (Nat × Bool)
  p : List (Nat × Bool)
  c : List (Nat × (RV × List Root))
def look {α : Type} : List (Nat × α) → Nat → Option α
  | [], _ => none
  | (k, a) :: r, i => if k = i then some a else look r i

def dstOk (st : St) : Option Nat → Bool
  | some d => decide (d < st.s.length)
  | none => true
/-- the outcome of the guard whose operation gives the slot -/
def guardOf (ops : List Oper) (d : Nat) : List (Nat × Bool) → Option Bool
  | [] => none
  | (k, g) :: l => if (match ops[k]? with | some o => (match o.dst with | some e => e == d | none => false) | none => false) then some g else guardOf ops d l
def pickOf (say : Say) (ops : List Oper) (o : Oper) (i : Nat) : Option Bool :=
  match look say.p i with
  | some g => some g
  | none => match o.op with | .pick (.tmp d) _ _ => guardOf ops d say.g | _ => none
/-- one operation -/
def step1 (say : Say) (ops : List Oper) (st : St) (o : Oper) (i : Nat) : Option (St × List Prop) :=
  match pureOp T j st (pickOf say ops o i) o with
  | some (v, obl) => some (put st o.dst v, obl)
  | none =>
    match runOp T j st o (look say.c i) with
    | some (vf, st1, obl) => if dstOk st o.dst then some (fin st1 o.dst vf, obl) else none
    | none => none
/-- is it wanted ? its guard's outcome as the prover says -/
def wants (say : Say) (ops : List Oper) (st : St) (o : Oper) (i : Nat) : Option (Bool × List Prop) :=
  match o.guard with
  | none => some (true, [])
  | some (k, want) =>
    match (ops[k]?).bind (·.dst) with
    | some d =>
      match st.s.getD d .undef, look say.g k with
      | .one (.c (.val (.bool b))), some g => some (g == want, [j.eqb b g])
      | .nop, _ => some (false, [])
      | _, _ => none
    | none => none
def stepW (say : Say) (ops : List Oper) (st : St) (o : Oper) (i : Nat) : Option (St × List Prop) :=
  match wants j say ops st o i with
  | some (true, obl) => match step1 T j say ops st o i with | some (st', obl') => some (st', obl ++ obl') | none => none
  | some (false, obl) => some (put st o.dst .nop, obl)
  | none => none
/-- a region in the order of the text -/
def runs (say : Say) (ops : List Oper) (st : St) : List Oper → Nat → Option (St × List Prop)
  | [], _ => some (st, [])
  | o :: rest, i =>
    match stepW T j say ops st o i with
    | some (st1, obl) => match runs say ops st1 rest (i + 1) with | some (st2, obl2) => some (st2, obl ++ obl2) | none => none
    | none => none
end Go.Proofs.Ytdmdcmhgfgookaa.A
