/- The ghost machine, part 1: its values, its state, and what they mean in a world of the model. No program in sight. -/
import Derived.Test.YtdmdcmhgfgookaaOwn
import Derived.OrdersHeld
set_option linter.unusedSimpArgs false
set_option linter.unusedVariables false
set_option maxRecDepth 100000
set_option maxHeartbeats 4000000
namespace Go.Proofs.Ytdmdcmhgfgookaa.A
open Go

/-- what the keys of a map are: integers, strings, structs of n integers of 64 bits -/
inductive KK where
  | int (k : IntKind)
  | str
  | ints (n : Nat)
  deriving DecidableEq, Inhabited
def isI64 : Value → Bool
  | .int k _ => decide (k = .i64)
  | _ => false
def KK.ok : KK → Value → Bool
  | .int k, .int k' _ => decide (k = k')
  | .str, .string _ => true
  | .ints n, .agg cs => decide (cs.size = n) && cs.toList.all isI64
  | _, _ => false
def numV : Value → Int
  | .int _ n => n
  | _ => 0
/-- two keys are the same -/
def keq : Value → Value → Bool
  | .int _ a, .int _ b => decide (a = b)
  | .string a, .string b => decide (a = b)
  | .agg a, .agg b => decide (a.toList.map numV = b.toList.map numV)
  | _, _ => false
theorem keq_iff {kk : KK} {a b : Value} (ha : kk.ok a = true) (hb : kk.ok b = true) : keq a b = true ↔ a = b := by
  cases kk with
  | int k => cases a <;> simp [KK.ok] at ha; cases b <;> simp [KK.ok] at hb; subst ha; subst hb; simp [keq]
  | str => cases a <;> simp [KK.ok] at ha; cases b <;> simp [KK.ok] at hb; simp [keq]
  | ints n =>
    cases a <;> simp [KK.ok] at ha; cases b <;> simp [KK.ok] at hb
    rename_i x y
    have key : ∀ l l' : List Value, l.all isI64 = true → l'.all isI64 = true → l.map numV = l'.map numV → l = l' := by
      intro l
      induction l with
      | nil => intro l' _ _ h; cases l' <;> simp at h ⊢
      | cons v l ih =>
        intro l' h1 h2 h
        cases l' with
        | nil => simp at h
        | cons u l' =>
          simp only [List.all_cons, Bool.and_eq_true, List.map_cons, List.cons.injEq] at h1 h2 h ⊢
          refine ⟨?_, ih l' h1.2 h2.2 h.2⟩
          cases v <;> simp [isI64] at h1
          cases u <;> simp [isI64] at h2
          have := h.1
          simp only [numV] at this
          rw [h1.1, h2.1, this]
    simp only [keq, decide_eq_true_eq, Value.agg.injEq]
    refine ⟨fun h => ?_, fun h => by rw [h]⟩
    have := key x.toList y.toList (by simpa using ha.2) (by simpa using hb.2) h
    exact Array.toList_inj.1 this

/-- the value of one cell that nobody changes any more: a plain value, a slice's cells, nil, a pointer to cells, a map -/
inductive C where
  | val (v : Value)
  | sl (n : Nat) (cells : List C)
  | nil
  | mem (cells : List C) (off : Nat)
  | map (kk : KK) (ks : List Value) (vs : List C)
  deriving Inhabited

def plain : Value → Bool
  | .bool _ | .int _ _ | .string _ | .pointer none | .nilFunc | .nilIface | .map none => true
  | _ => false

inductive CRep (w : World) (S : Nat → Prop) : Value → C → Prop
  | val {v : Value} : plain v = true → CRep w S v (.val v)
  | nil : CRep w S (.slice none 0 0) .nil
  | sl0 {a : Option Addr} {cap : Nat} : CRep w S (.slice a 0 cap) (.sl 0 [])
  | sl {b off n cap : Nat} {cells : List C} (vs : Nat → Value) : S b → n ≤ cap →
      (∀ j, j < cells.length → w.cell? ⟨b, off + j, none⟩ = some (vs j)) → (∀ j (h : j < cells.length), CRep w S (vs j) cells[j]) →
      CRep w S (.slice (some ⟨b, off, none⟩) n cap) (.sl n cells)
  | mem {b base off : Nat} {cells : List C} (vs : Nat → Value) : S b →
      (∀ j, j < cells.length → w.cell? ⟨b, base + j, none⟩ = some (vs j)) → (∀ j (h : j < cells.length), CRep w S (vs j) cells[j]) →
      CRep w S (.pointer (some ⟨b, base + off, none⟩)) (.mem cells off)
  | map0 {kk : KK} : CRep w S (.map none) (.map kk [] [])
  | map {kk : KK} {b clock : Nat} {es : Array MapEntry} {ks : List Value} {cs : List C} (us : Nat → Value) : S b → w.heap[b]? = some (.map es clock) → es.toList.map MapEntry.key = ks → cs.length = ks.length →
      (∀ i (h : i < es.size), es[i].val = us i) → (∀ i (h : i < cs.length), CRep w S (us i) cs[i]) → (∀ k ∈ ks, kk.ok k = true) → CRep w S (.map (some b)) (.map kk ks cs)

theorem CRep.frame {w w' : World} {S S' : Nat → Prop} {v : Value} {c : C} (h : CRep w S v c) (hb : ∀ b, S b → w'.heap[b]? = w.heap[b]?) (hS : ∀ b, S b → S' b) : CRep w' S' v c := by
  induction h with
  | val h => exact .val h
  | nil => exact .nil
  | sl0 => exact .sl0
  | sl vs hs hn hc _ ih => exact .sl vs (hS _ hs) hn (fun j hj => (World.cell?_of_block (hb _ hs)).trans (hc j hj)) ih
  | mem vs hs hc _ ih => exact .mem vs (hS _ hs) (fun j hj => (World.cell?_of_block (hb _ hs)).trans (hc j hj)) ih
  | map0 => exact .map0
  | map us hs hh hk hl hv _ ho ih => exact .map us (hS _ hs) ((hb _ hs).trans hh) hk hl hv ih ho

/-- a map that somebody owns: its entries in the order they came, their stamps, the next stamp -/
structure GM where
  ks : List Value
  vs : List C
  born : List Nat
  clock : Nat
  l1 : vs.length = ks.length
  l2 : born.length = ks.length
  lt : ∀ i ∈ born, i < clock
  nd : born.Nodup
instance : Inhabited GM := ⟨⟨[], [], [], 0, rfl, rfl, fun _ h => (by cases h), List.nodup_nil⟩⟩
def MRep (w : World) (S : Nat → Prop) (b : Nat) (kk : KK) (m : GM) : Prop :=
  ∃ es : Array MapEntry, w.heap[b]? = some (.map es m.clock) ∧ es.toList.map MapEntry.key = m.ks ∧ es.toList.map MapEntry.born = m.born ∧ (∀ i (h : i < es.size) (h2 : i < m.vs.length), CRep w S es[i].val m.vs[i]) ∧ ∀ k ∈ m.ks, kk.ok k = true
theorem MRep.frame {w w' : World} {S S' : Nat → Prop} {b : Nat} {kk : KK} {m : GM} (h : MRep w S b kk m) (hb : ∀ b, S b → w'.heap[b]? = w.heap[b]?) (hS : ∀ b, S b → S' b) (ho : w'.heap[b]? = w.heap[b]?) : MRep w' S' b kk m := by
  obtain ⟨es, h1, h2, h3, h4, h5⟩ := h
  exact ⟨es, ho.trans h1, h2, h3, fun i hi hi2 => (h4 i hi hi2).frame hb hS, h5⟩

/-- what is nested in a slice that owns what it holds: a cell that reads as it stands, or a slice that owns its block, of such a type, each of its elements' cells so -/
inductive Sh where
  | st
  | sl (e : TypeId) (ks : List Sh)
  deriving Inhabited
/-- a way into such a slice: the cell's number, and which of its element's cells it is -/
abbrev Path := List (Nat × Nat)
/-- what a cell is in memory: its value; if it owns a block: which one, and what stands there -/
inductive Pv where
  | mk (v : Value) (b : Option Nat) (kids : List Pv)
def Pv.v : Pv → Value
  | .mk v _ _ => v
def Pv.b : Pv → Option Nat
  | .mk _ b _ => b
def Pv.kids : Pv → List Pv
  | .mk _ _ ks => ks
abbrev Pv.of (v : Value) : Pv := .mk v none []
instance : Inhabited Pv := ⟨.of undef⟩
instance : Coe Pv Value := ⟨Pv.v⟩
mutual
def Pv.blks : Pv → List Nat
  | .mk _ b ks => b.toList ++ blksL ks
def blksL : List Pv → List Nat
  | [] => []
  | p :: ps => p.blks ++ blksL ps
end
/-- what stands at the end of a way -/
def Pv.get? : Pv → Path → Option Pv
  | pv, [] => some pv
  | .mk _ _ ks, (k, _) :: p => match ks[k]? with | some q => q.get? p | none => none

/-- the value of one cell of a root: as C, or a slice that owns its block (own: what it holds reads as it stands; tree: what it holds may own blocks, too; h: where something was taken out), or nothing that is known -/
inductive RC where
  | st (c : C)
  | own (e : TypeId) (n : Nat) (cells : List C)
  | map (kk : KK) (m : GM)
  | tree (sh : Sh) (c : C) (h : Option Path)
  | me (f : FuncId)
  | dead
  deriving Inhabited

/-- the block that a value of a slice or a map has -/
def ownB : Value → Option Nat
  | .map r => r
  | v => v.ownBlock
/-- a method that is bound to the box -/
def meV (f : FuncId) (b : Nat) : Value := .func (.func f) #[.pointer (some ⟨b, 0, none⟩)] #[]
def RC.isMe : RC → Bool
  | .me _ => true
  | _ => false
def RC.owner : RC → Bool
  | .own .. | .map .. | .tree .. => true
  | _ => false
/-- does a root's cell own the block ? -/
def RC.blk : RC → Pv → Nat → Prop
  | .own .., v, b => v.v.ownBlock = some b
  | .map .., v, b => ownB v.v = some b
  | .tree .., v, b => b ∈ v.blks
  | _, _, _ => False

inductive Root where
  | none
  | box (row : List RC)
  | loose (row : List RC)
  deriving Inhabited
def Root.row : Root → List RC
  | .none => []
  | .box r => r
  | .loose r => r

/-- one cell of a slot: t names a root, o its cell -/
inductive X where
  | c (c : C)
  | view (t o : Nat)
  | mv (t o : Nat)
  | sub (t o lo hi : Nat)
  | ptr (t o : Nat)
  | eptr (t o k : Nat)
  | mem (cells : List C) (off : Nat)
  | fn (f : FuncId) (caps : List Nat)
  | tv (t o : Nat) (p : Path)
  | tp (t o : Nat) (p : Path) (k off : Nat)
  | bfn (f : FuncId) (t : Nat)
  | undef
  deriving Inhabited

inductive V where
  | one (x : X)
  | agg (xs : List X)
  | tup (vs : List (Bool × List X))
  | undef
  | nop
  deriving Inhabited

structure St where
  s : List V
  r : List Root

/-- what a cell holds, as far as the machine looks at it -/
inductive K where
  | int (k : IntKind)
  | bool
  | str
  | sl
  | raw
  deriving DecidableEq

structure TI where
  desc : TypeDesc
  size : Nat
  bytes : Nat
  zero : Value
  cells : List K
  kids : List Sh := []
abbrev TT := TypeId → Option TI
def TOk (P : Program) (T : TT) : Prop := ∀ t ti, T t = some ti → P.underlying t = some ti.desc ∧ ∃ i, P.info? t = some i ∧ i.size = ti.size ∧ i.bytes = ti.bytes ∧ i.zero = some ti.zero ∧ ti.zero.cells.size = ti.size

def szOf (T : TT) (e : TypeId) : Nat := match T e with | some ti => ti.size | none => 0

abbrev nilSl : Value := .slice none 0 0
/-- nothing is known of the cell: what it held was taken out -/
abbrev holeC : C := .mem [] 0
/-- where a hole is, as seen from a cell further in -/
def holeAt : Option (List Nat) → Nat → Option (List Nat)
  | some (k :: p), i => if k = i then some p else none
  | _, _ => none
/-- a slice that owns its block and what it holds, as C tells it -/
inductive CRepT (T : TT) (w : World) (S : Nat → Prop) : Option (List Nat) → Sh → Value → Pv → C → Prop
  | st {v : Value} {u : Value} {c : C} : CRep w S v c → CRepT T w S none .st v (.mk u none []) c
  | nil {e : TypeId} {ks : List Sh} {c : C} : (c = .nil ∨ c = .sl 0 []) → CRepT T w S none (.sl e ks) nilSl (.mk nilSl none []) c
  | hole {sh : Sh} {v : Value} : CRepT T w S (some []) sh v (.mk v none []) holeC
  | node {h : Option (List Nat)} {e : TypeId} {ks : List Sh} {g n cap : Nat} {xs : List Value} {cells : List C} {kids : List Pv} :
      h ≠ some [] → (∀ k p, h = some (k :: p) → k < xs.length) → w.ownsRow 0 e (szOf T e) (.slice (some ⟨g, 0, none⟩) n cap) n xs → cells.length = xs.length → kids.length = xs.length →
      (∀ k (h1 : k < xs.length) (h2 : k < kids.length) (h3 : k < cells.length), CRepT T w S (holeAt h k) (ks.getD (k % szOf T e) .st) xs[k] kids[k] cells[k]) →
      CRepT T w S h (.sl e ks) (.slice (some ⟨g, 0, none⟩) n cap) (.mk (.slice (some ⟨g, 0, none⟩) n cap) (some g) kids) (.sl n cells)
def pathN (p : Path) : List Nat := p.map Prod.fst
/-- the shape at the end of a way -/
def Sh.to : Sh → Path → Sh
  | sh, [] => sh
  | .sl _ ks, (_, off) :: p => (ks.getD off .st).to p
  | .st, _ => .st
def pathOk (T : TT) : Sh → Path → Prop
  | _, [] => True
  | .sl e ks, (k, off) :: p => k % szOf T e = off ∧ pathOk T (ks.getD off .st) p
  | .st, _ :: _ => False
def RCRep (T : TT) (w : World) (S : Nat → Prop) (v : Pv) : RC → Prop
  | .st c => CRep w S v.v c
  | .own e n cells => ∃ xs, w.ownsRow 0 e (szOf T e) v.v n xs ∧ xs.length = cells.length ∧ ∀ j (h : j < cells.length) (h2 : j < xs.length), CRep w S xs[j] cells[j]
  | .map kk m => ∃ b, v.v = .map (some b) ∧ MRep w S b kk m
  | .tree sh c h => CRepT T w S (h.map pathN) sh v.v v c ∧ v.blks.Nodup ∧ (∃ e ks, sh = .sl e ks) ∧ (∀ p, h = some p → p ≠ [] ∧ pathOk T sh p)
  | .me _ => True
  | .dead => True

/-- does cell o of a root own the block ? -/
def ownOf (R : Root) (ph : Nat → Pv) (o : Nat) (b : Nat) : Prop :=
  match R.row[o]? with
  | some rc => rc.blk (ph o) b
  | none => False
/-- the blocks that the roots own: a box its own, an owning cell its own -/
def owns (r : List Root) (bx : Nat → Nat) (ph : Nat → Nat → Pv) (t : Nat) : Option Nat → Nat → Prop
  | none, b => match r.getD t .none with | .box _ => bx t = b | _ => False
  | some o, b => ownOf (r.getD t .none) (ph t) o b

def RootRep (T : TT) (w : World) (S : Nat → Prop) (b : Nat) (ph : Nat → Pv) : Root → Prop
  | .none => True
  | .box row => (∃ arr e, w.heap[b]? = some (.cells arr e (0, 0)) ∧ arr.size = row.length ∧ ∀ o, o < row.length → arr[o]? = some (ph o).v) ∧ (∀ o (h : o < row.length), RCRep T w S (ph o) row[o]) ∧ ∀ o f, row[o]? = some (.me f) → (ph o).v = meV f b
  | .loose row => ∀ o (h : o < row.length), RCRep T w S (ph o) row[o]

/-- what a slot's cell means -/
def XRep (T : TT) (w : World) (S : Nat → Prop) (r : List Root) (bx : Nat → Nat) (ph : Nat → Nat → Pv) (v : Value) : X → Prop
  | .c c => CRep w S v c
  | .view t o => ∃ e n cells, (r.getD t .none).row[o]? = some (.own e n cells) ∧ v = (ph t o).v
  | .mv t o => ∃ kk m, (r.getD t .none).row[o]? = some (.map kk m) ∧ v = (ph t o).v
  | .sub t o lo hi => ∃ e n cells a cap a', (r.getD t .none).row[o]? = some (.own e n cells) ∧ (ph t o).v = .slice a n cap ∧ lo ≤ hi ∧ hi ≤ n ∧ v = .slice a' (hi - lo) (cap - lo) ∧ (lo = 0 → a' = a) ∧ (lo < hi → ∃ g, a = some ⟨g, 0, none⟩ ∧ a' = some ⟨g, lo * szOf T e, none⟩)
  | .ptr t o => ∃ row, r.getD t .none = .box row ∧ o < row.length ∧ v = .pointer (some ⟨bx t, o, none⟩)
  | .eptr t o k => ∃ e n cells g cap, (r.getD t .none).row[o]? = some (.own e n cells) ∧ (ph t o).v = .slice (some ⟨g, 0, none⟩) n cap ∧ v = .pointer (some ⟨g, k, none⟩)
  | .mem cells off => ∃ b base, ∃ vs : Nat → Value, v = .pointer (some ⟨b, base + off, none⟩) ∧ S b ∧ (∀ j, j < cells.length → w.cell? ⟨b, base + j, none⟩ = some (vs j)) ∧ ∀ j (h : j < cells.length), CRep w S (vs j) cells[j]
  | .fn f caps => v = .func (.func f) #[] (caps.map fun t => .pointer (some ⟨bx t, 0, none⟩)).toArray ∧ ∀ t ∈ caps, ∃ row, r.getD t .none = .box row ∧ 0 < row.length
  | .tv t o p => ∃ sh c h q, (r.getD t .none).row[o]? = some (.tree sh c h) ∧ (ph t o).get? p = some q ∧ pathOk T sh p ∧ (∃ e ks, sh.to p = .sl e ks) ∧ (q.b = none → q.v = nilSl) ∧ v = q.v
  | .tp t o p k off => ∃ sh c h q e ks g n cap, (r.getD t .none).row[o]? = some (.tree sh c h) ∧ (ph t o).get? p = some q ∧ pathOk T sh p ∧ sh.to p = .sl e ks ∧ q.b = some g ∧ q.v = .slice (some ⟨g, 0, none⟩) n cap ∧ (∃ i, k = i * szOf T e + off) ∧ v = .pointer (some ⟨g, k, none⟩)
  | .bfn f t => (∃ row, r.getD t .none = .box row ∧ 0 < row.length) ∧ v = meV f (bx t)
  | .undef => True

section
variable (T : TT) (w : World) (S : Nat → Prop) (r : List Root) (bx : Nat → Nat) (ph : Nat → Nat → Pv)
def XsRep (cs : Array Value) (xs : List X) : Prop := cs.size = xs.length ∧ ∀ j (h : j < xs.length) (h2 : j < cs.size), XRep T w S r bx ph cs[j] xs[j]
def PartRep (v : Value) (p : Bool × List X) : Prop :=
  if p.1 = true then ∃ cs, v = .agg cs ∧ XsRep T w S r bx ph cs p.2 else ∃ x, p.2 = [x] ∧ XRep T w S r bx ph v x
def VRep (v : Value) : V → Prop
  | .one x => XRep T w S r bx ph v x
  | .agg xs => ∃ cs, v = .agg cs ∧ XsRep T w S r bx ph cs xs
  | .tup vs => ∃ us, v = .tuple us ∧ us.size = vs.length ∧ ∀ j (h : j < vs.length) (h2 : j < us.size), PartRep T w S r bx ph us[j] vs[j]
  | .undef => True
  | .nop => v = undef
end

/-- a table that start-up code has laid, where the program reads one: its block and what stands there -/
def gndB : Option (Nat × Array Value) := none
def Gnd (w : World) (S : Nat → Prop) : Prop :=
  match gndB with
  | none => True
  | some (g, cs) => S g ∧ ∃ e z, w.heap[g]? = some (.cells cs e z)
theorem Gnd.frame {w w' : World} {S S' : Nat → Prop} (h : Gnd w S) (hb : ∀ b, S b → w'.heap[b]? = w.heap[b]?) (hS : ∀ b, S b → S' b) : Gnd w' S' := by
  unfold Gnd at h ⊢
  generalize gndB = o at h ⊢
  cases o with
  | none => trivial
  | some p =>
    obtain ⟨h1, e, z, h2⟩ := h
    exact ⟨hS _ h1, e, z, (hb _ h1).trans h2⟩
def LowG (w : World) (S : Nat → Prop) : Prop := (∀ b, S b → b < w.heap.size) ∧ Gnd w S
/-- roots that mean blocks: each owned block has one owner, and nobody holds it for unchangeable -/
structure Heap (T : TT) (w : World) (S : Nat → Prop) (r : List Root) (bx : Nat → Nat) (ph : Nat → Nat → Pv) : Prop where
  root : ∀ t, RootRep T w S (bx t) (ph t) (r.getD t .none)
  inj : ∀ t κ t' κ' b, owns r bx ph t κ b → owns r bx ph t' κ' b → t = t' ∧ κ = κ'
  free : ∀ t κ b, owns r bx ph t κ b → ¬ S b ∧ b < w.heap.size
  low : LowG w S

/-- the blocks that came in and may be changed; the blocks of the roots that came in -/
structure Fr where
  on : Nat → Prop
  pin : Nat → Nat
instance : CoeFun Fr fun _ => Nat → Prop := ⟨Fr.on⟩
/-- the machine's state means the frame and the world; F: the blocks that came in and may be changed; the frame's N slots have the names below N, the root N is for the moment -/
structure Rel (T : TT) (w0 : World) (S0 : Nat → Prop) (F : Fr) (st : St) (a : Act) (w : World) (S : Nat → Prop) (bx : Nat → Nat) (ph : Nat → Nat → Pv) : Prop where
  size : a.tmps.size = st.s.length
  rsize : st.s.length + 1 ≤ st.r.length ∧ ∀ t, st.s.length < t → bx t = F.pin t
  defers : a.defers = []
  heap : Heap T w S st.r bx ph
  mine : ∀ t κ b, owns st.r bx ph t κ b → w0.heap.size ≤ b ∨ F b
  slot : ∀ i, i < st.s.length → VRep T w S st.r bx ph (a.tmps.getD i undef) (st.s.getD i .undef)
  keep : ∀ b, S0 b → S b
  new : ∀ b, S b → S0 b ∨ w0.heap.size ≤ b ∨ F b
  chg : Chg F.on w0 w
def Rels (T : TT) (w0 : World) (S0 : Nat → Prop) (F : Fr) (st : St) (a : Act) (w : World) : Prop := ∃ S bx ph, Rel T w0 S0 F st a w S bx ph ∧ st.r.getD st.s.length .none = .none
end Go.Proofs.Ytdmdcmhgfgookaa.A
